/- The walks: division by one limb; decimal texts. -/
import Derived.Test.YtofbhhncpjegfaaW3
import Derived.Test.YtofbhhncpjegfaaD7
set_option linter.unusedVariables false
set_option linter.unusedSimpArgs false
namespace Go.Abs
section
variable {H L : Heap} {env : Env} {n0 : Nat}
theorem rep_set (i q : Nat) (qs : List Nat) : (List.replicate (i + 1) 0 ++ qs).set i q = List.replicate i 0 ++ q :: qs := by
  rw [List.replicate_succ', List.append_assoc]
  simp
theorem wrapn_u64 {n : Nat} (h : n < 18446744073709551616) : IntKind.wrap .u64 (n : Int) = (n : Int) := wrap_u64 (Int.natCast_nonneg _) (by omega)
theorem wrapn_u32 {n : Nat} (h : n < 4294967296) : IntKind.wrap .u32 (n : Int) = (n : Int) := wrap_u32 (Int.natCast_nonneg _) (by omega)
theorem lb_room {r x : Nat} (hr : r < 4294967296) (hx : x < 4294967296) : r * LB + x < 18446744073709551616 := by
  have : r * LB ≤ 4294967295 * 4294967296 := Nat.mul_le_mul (by omega) (Nat.le_refl _)
  omega
theorem lb_room0 {r : Nat} (hr : r < 4294967296) : r * LB < 18446744073709551616 := Nat.lt_of_le_of_lt (Nat.le_add_right _ _) (lb_room hr (show 0 < 4294967296 by decide))
theorem shl_u64 (r : Nat) (h : r < 4294967296) : shBin .shl .u64 (r : Int) 32 = some (.int .u64 ((r * LB : Nat) : Int)) := by
  have hLB : LB = 4294967296 := rfl
  simp only [shBin]
  rw [if_neg (by decide), show min (Int.toNat 32) (IntKind.bits .u64) = 32 by decide, show (r : Int) * 2 ^ 32 = ((r * LB : Nat) : Int) by rw [Int.natCast_mul]; rfl, wrapn_u64 (lb_room0 h)]
theorem or_u64 (r x : Nat) (hr : r < 4294967296) (hx : x < 4294967296) : IntKind.wrap .u64 ((BitVec.ofInt (IntKind.bits .u64) ((r * LB : Nat) : Int) ||| BitVec.ofInt (IntKind.bits .u64) (x : Int)).toNat : Int) = ((r * LB + x : Nat) : Int) := by
  have hLB : LB = 4294967296 := rfl
  have e : (BitVec.ofInt (IntKind.bits .u64) ((r * LB : Nat) : Int) ||| BitVec.ofInt (IntKind.bits .u64) (x : Int)).toNat = r * LB + x := by
    show (BitVec.ofInt 64 ((r * LB : Nat) : Int) ||| BitVec.ofInt 64 (x : Int)).toNat = r * LB + x
    rw [BitVec.toNat_or, BitVec.ofInt_natCast, BitVec.ofInt_natCast, BitVec.toNat_ofNat, BitVec.toNat_ofNat, Nat.mod_eq_of_lt (lb_room0 hr), Nat.mod_eq_of_lt (by omega)]
    have := Nat.shiftLeft_add_eq_or_of_lt (b := x) (i := 32) (by simpa using hx) r
    rw [Nat.shiftLeft_eq] at this
    exact this.symm
  rw [e, wrapn_u64 (lb_room hr hx)]
theorem quo_u64 (t d : Nat) (hd : 0 < d) (ht : t < 18446744073709551616) : binV .quo (.int .u64 (t : Int)) (.int .u64 (d : Int)) = some (.int .u64 ((t / d : Nat) : Int)) := by
  rw [binV_quo _ _ _ (by omega), Int.tdiv_eq_ediv_of_nonneg (by omega)]
  have : (t : Int) / (d : Int) = ((t / d : Nat) : Int) := rfl
  have h2 : t / d ≤ t := Nat.div_le_self _ _
  rw [this, wrapn_u64 (by omega)]
theorem rem_u64 (t d : Nat) (hd : 0 < d) : binV .rem (.int .u64 (t : Int)) (.int .u64 (d : Int)) = some (.int .u64 ((t % d : Nat) : Int)) := by
  rw [binV_rem _ _ _ (by omega), Int.tmod_eq_emod_of_nonneg (by omega)]; rfl
theorem quo_ten (k : IntKind) (hk : ∀ n : Nat, n < 4294967296 → k.wrap (n : Int) = n) (t : Nat) (ht : t < 4294967296) : binV .quo (.int k (t : Int)) (.int k 10) = some (.int k ((t / 10 : Nat) : Int)) := by
  rw [binV_quo _ _ _ (by decide), Int.tdiv_eq_ediv_of_nonneg (by omega)]
  have : (t : Int) / 10 = ((t / 10 : Nat) : Int) := rfl
  rw [this, hk _ (by omega)]
theorem rem_ten (k : IntKind) (t : Nat) : binV .rem (.int k (t : Int)) (.int k 10) = some (.int k ((t % 10 : Nat) : Int)) := by
  rw [binV_rem _ _ _ (by decide), Int.tmod_eq_emod_of_nonneg (by omega)]; rfl
end

theorem short_pure (a : List Nat) (d : Nat) (ha : Nt a) (hd : 0 < d) (hd2 : d < 4294967296) : PureC Pr F_nat_short [natV a, .int .u32 d] (.tup [natV (limbs (val a / d)), .int .u32 ((val a % d : Nat) : Int)]) := by
  have hLB : LB = 4294967296 := rfl
  have hal := ha.len
  have hla := ha.lim
  have hw0 : IntKind.wrap .i64 ((a.length : Int) - 1) = (a.length : Int) - 1 := by rw [wrap_i64] <;> omega
  have hwd : IntKind.wrap .u64 (d : Int) = (d : Int) := wrap_u64 (by omega) (by omega)
  refine PureC.intro nat_short_fn nat_short_ok (Nat.le_of_ble_eq_true rfl) (.tup _ (by intro c hc; simp only [List.mem_cons, List.not_mem_nil, or_false] at hc; rcases hc with rfl | rfl; exact natV_cl _; exact .int _ _)) fun H hH => ?_
  refine Safe.rg rfl ?_
  simp only [nat_short_r0, E2, Nat.reduceLeDiff, Nat.reduceSub, Nat.reduceAdd, Nat.reduceEqDiff, reduceCtorEq, ↓reduceIte]
  refine Safe.rg rfl ?_
  simp only [nat_short_r1, mksl_nat _ H [] .i64 .i64 a.length (by omega), E2, Nat.reduceLeDiff, Nat.reduceSub, Nat.reduceAdd, Nat.reduceEqDiff, reduceCtorEq, ↓reduceIte]
  refine Safe.rg rfl ?_
  simp only [nat_short_r2, E2, Nat.reduceLeDiff, Nat.reduceSub, Nat.reduceAdd, Nat.reduceEqDiff, reduceCtorEq, ↓reduceIte]
  refine Safe.rg rfl ?_
  simp only [nat_short_r3, hw0, E2, Nat.reduceLeDiff, Nat.reduceSub, Nat.reduceAdd, Nat.reduceEqDiff, reduceCtorEq, ↓reduceIte]
  refine Safe.lp rfl ?_
  refine Safe.keep [0, 1, 6, 7, 8] ?_
  simp only [E2, Nat.reduceLeDiff, Nat.reduceSub, Nat.reduceAdd, Nat.reduceEqDiff, reduceCtorEq, ↓reduceIte]
  refine Safe.loopD a.length (fun i => [(0, natV a), (1, .int .u32 d), (6, .mu (lid H 0) 0 a.length (some a.length)), (7, .int .u64 ((sdiv d (a.drop i)).2 : Nat)), (8, .int .i64 ((i : Int) - 1))]) (fun i => hap H [some ⟨1, u32s (List.replicate i 0 ++ (sdiv d (a.drop i)).1)⟩]) (by simp [sdiv]) (by simp [sdiv]) (fun i hi ih => ?_) ?_
  · have hidx : ((i + 1 : Nat) : Int) - 1 = (i : Int) := by omega
    have hr := sdiv_rem hd (a.drop (i + 1))
    have hx : a.getD i 0 < 4294967296 := by
      rw [List.getD_eq_getElem?_getD, List.getElem?_eq_getElem hi]; exact hla _ (List.getElem_mem hi)
    have hdrop : a.drop i = a.getD i 0 :: a.drop (i + 1) := by
      rw [List.drop_eq_getElem_cons hi, List.getD_eq_getElem?_getD, List.getElem?_eq_getElem hi]; rfl
    rw [hdrop, sdiv_cons] at ih
    generalize hs : sdiv d (a.drop (i + 1)) = s at *
    obtain ⟨qs, r⟩ := s
    simp only at hr ih
    have hql : qs.length = a.length - (i + 1) := by have := sdiv_len d (a.drop (i + 1)); rw [hs, List.length_drop] at this; exact this
    generalize hx2 : a.getD i 0 = x0 at *
    have ht : r * LB + x0 < 18446744073709551616 := by
      have : r * LB ≤ 4294967294 * LB := Nat.mul_le_mul_right _ (by omega)
      omega
    have hq : (r * LB + x0) / d < 4294967296 := by
      rw [Nat.div_lt_iff_lt_mul hd]
      have : r * LB ≤ (d - 1) * LB := Nat.mul_le_mul_right _ (by omega)
      have e : (d - 1) * LB + LB = 4294967296 * d := by rw [← Nat.succ_mul, Nat.mul_comm]; congr 1; omega
      omega
    have hwx : IntKind.wrap .u64 (x0 : Int) = (x0 : Int) := wrap_u64 (by omega) (by omega)
    have hwq : IntKind.wrap .u32 (((r * LB + x0) / d : Nat) : Int) = (((r * LB + x0) / d : Nat) : Int) := wrapn_u32 hq
    have hw1 : IntKind.wrap .i64 ((i : Int) - 1) = (i : Int) - 1 := by rw [wrap_i64] <;> omega
    refine Safe.inLoop ?_
    refine Safe.rg rfl ?_
    simp only [nat_short_r4, hidx, ge_iff_le, Int.natCast_nonneg, E2, Nat.reduceLeDiff, Nat.reduceSub, Nat.reduceAdd, Nat.reduceEqDiff, reduceCtorEq, ↓reduceIte]
    refine Safe.cd rfl ?_
    simp only [E2, Nat.reduceLeDiff, Nat.reduceSub, Nat.reduceAdd, Nat.reduceEqDiff, reduceCtorEq, ↓reduceIte]
    refine Safe.rg rfl ?_
    simp only [nat_short_r5, hidx, shl_u64 r (by omega), natV_idx _ a _ i hi, hx2, hwx, or_u64 r x0 (by omega) hx, E2, Nat.reduceLeDiff, Nat.reduceSub, Nat.reduceAdd, Nat.reduceEqDiff, reduceCtorEq, ↓reduceIte]
    refine Safe.rg rfl ?_
    simp only [nat_short_r6, hidx, hwd, quo_u64 _ d hd ht, hwq, idx_r0 hi, one_st H _ (List.replicate (i + 1) 0 ++ qs) i ((r * LB + x0) / d) (by simp; omega), rep_set, E2, Nat.reduceLeDiff, Nat.reduceSub, Nat.reduceAdd, Nat.reduceEqDiff, reduceCtorEq, ↓reduceIte]
    refine Safe.rg rfl ?_
    simp only [nat_short_r7, hwd, rem_u64 _ d hd, E2, Nat.reduceLeDiff, Nat.reduceSub, Nat.reduceAdd, Nat.reduceEqDiff, reduceCtorEq, ↓reduceIte]
    refine Safe.rg rfl ?_
    simp only [nat_short_r8, hidx, hw1, E2, Nat.reduceLeDiff, Nat.reduceSub, Nat.reduceAdd, Nat.reduceEqDiff, reduceCtorEq, ↓reduceIte]
    refine Safe.keep [0, 1, 6, 7, 8] ?_
    simp only [E2, Nat.reduceLeDiff, Nat.reduceSub, Nat.reduceAdd, Nat.reduceEqDiff, reduceCtorEq, ↓reduceIte]
    exact ih
  · refine Safe.inLoop ?_
    refine Safe.rg rfl ?_
    simp only [nat_short_r4, Int.natCast_zero, Int.zero_sub, show ¬ (-1 : Int) ≥ 0 by decide, show ¬ (0 : Int) ≤ -1 by decide, E2, Nat.reduceLeDiff, Nat.reduceSub, Nat.reduceAdd, Nat.reduceEqDiff, reduceCtorEq, ↓reduceIte]
    refine Safe.cd rfl ?_
    simp only [E2, Nat.reduceLeDiff, Nat.reduceSub, Nat.reduceAdd, Nat.reduceEqDiff, reduceCtorEq, ↓reduceIte]
    have hl : ((sdiv d a).1).length = a.length := sdiv_len d a
    have hfm : frz (lid H 0) ⟨1, u32s (sdiv d a).1⟩ (.mu (lid H 0) 0 a.length (some a.length)) = natV (sdiv d a).1 := by
      have := frz_mu_nat H 0 (sdiv d a).1 (some a.length)
      rwa [hl] at this
    simp only [List.replicate_zero, List.nil_append, List.drop_zero]
    refine Safe.freeze 0 hH rfl rfl (blk_u32 _) ?_
    refine Safe.keep [6, 7] ?_
    simp only [hfm, E2, Nat.reduceLeDiff, Nat.reduceSub, Nat.reduceAdd, Nat.reduceEqDiff, reduceCtorEq, ↓reduceIte]
    have htr := trim_pure (sdiv d a).1 (sdiv_lim hd hla) (by rw [hl]; exact hal)
    rw [sdiv_div hd] at htr
    have hm : val a % d < 4294967296 := Nat.lt_trans (Nat.mod_lt _ hd) hd2
    have hwm : IntKind.wrap .u32 ((val a % d : Nat) : Int) = ((val a % d : Nat) : Int) := wrap_u32 (by omega) (by omega)
    rw [sdiv_mod hd]
    refine Safe.rg rfl ?_
    simp only [nat_short_r9, E2, Nat.reduceLeDiff, Nat.reduceSub, Nat.reduceAdd, Nat.reduceEqDiff, reduceCtorEq, ↓reduceIte]
    first | refine (htr).acall ?_ | refine (htr).dcall ?_
    try simp only [E2, Nat.reduceLeDiff, Nat.reduceSub, Nat.reduceAdd, Nat.reduceEqDiff, reduceCtorEq, ↓reduceIte]
    simp only [hwm, E2, Nat.reduceLeDiff, Nat.reduceSub, Nat.reduceAdd, Nat.reduceEqDiff, reduceCtorEq, ↓reduceIte]
    refine Safe.rt rfl ?_
    simp only [E2, Nat.reduceLeDiff, Nat.reduceSub, Nat.reduceAdd, Nat.reduceEqDiff, reduceCtorEq, ↓reduceIte]
    first | exact ⟨rfl, _, rfl⟩ | exact ⟨_, rfl⟩ | exact ⟨trivial, _, rfl⟩

theorem small_pure (a : List Nat) (d : Nat) (ha : Nt a) (hd : 0 < d) (hd2 : d < 4294967296) : PureC Pr F_ref01_small [natV a, .int .u64 d] (.tup [natV (limbs (val a / d)), .int .u64 ((val a % d : Nat) : Int)]) := by
  have hLB : LB = 4294967296 := rfl
  have hal := ha.len
  have hla := ha.lim
  have hw0 : IntKind.wrap .i64 ((a.length : Int) - 1) = (a.length : Int) - 1 := by rw [wrap_i64] <;> omega
  refine PureC.intro ref01_small_fn ref01_small_ok (Nat.le_of_ble_eq_true rfl) (.tup _ (by intro c hc; simp only [List.mem_cons, List.not_mem_nil, or_false] at hc; rcases hc with rfl | rfl; exact natV_cl _; exact .int _ _)) fun H hH => ?_
  refine Safe.rg rfl ?_
  simp only [ref01_small_r0, E2, Nat.reduceLeDiff, Nat.reduceSub, Nat.reduceAdd, Nat.reduceEqDiff, reduceCtorEq, ↓reduceIte]
  refine Safe.rg rfl ?_
  simp only [ref01_small_r1, mksl_nat _ H [] .i64 .i64 a.length (by omega), E2, Nat.reduceLeDiff, Nat.reduceSub, Nat.reduceAdd, Nat.reduceEqDiff, reduceCtorEq, ↓reduceIte]
  refine Safe.rg rfl ?_
  simp only [ref01_small_r2, E2, Nat.reduceLeDiff, Nat.reduceSub, Nat.reduceAdd, Nat.reduceEqDiff, reduceCtorEq, ↓reduceIte]
  refine Safe.rg rfl ?_
  simp only [ref01_small_r3, hw0, E2, Nat.reduceLeDiff, Nat.reduceSub, Nat.reduceAdd, Nat.reduceEqDiff, reduceCtorEq, ↓reduceIte]
  refine Safe.lp rfl ?_
  refine Safe.keep [0, 1, 6, 7, 8] ?_
  simp only [E2, Nat.reduceLeDiff, Nat.reduceSub, Nat.reduceAdd, Nat.reduceEqDiff, reduceCtorEq, ↓reduceIte]
  refine Safe.loopD a.length (fun i => [(0, natV a), (1, .int .u64 d), (6, .mu (lid H 0) 0 a.length (some a.length)), (7, .int .u64 ((sdiv d (a.drop i)).2 : Nat)), (8, .int .i64 ((i : Int) - 1))]) (fun i => hap H [some ⟨1, u32s (List.replicate i 0 ++ (sdiv d (a.drop i)).1)⟩]) (by simp [sdiv]) (by simp [sdiv]) (fun i hi ih => ?_) ?_
  · have hidx : ((i + 1 : Nat) : Int) - 1 = (i : Int) := by omega
    have hr := sdiv_rem hd (a.drop (i + 1))
    have hx : a.getD i 0 < 4294967296 := by
      rw [List.getD_eq_getElem?_getD, List.getElem?_eq_getElem hi]; exact hla _ (List.getElem_mem hi)
    have hdrop : a.drop i = a.getD i 0 :: a.drop (i + 1) := by
      rw [List.drop_eq_getElem_cons hi, List.getD_eq_getElem?_getD, List.getElem?_eq_getElem hi]; rfl
    rw [hdrop, sdiv_cons] at ih
    generalize hs : sdiv d (a.drop (i + 1)) = s at *
    obtain ⟨qs, r⟩ := s
    simp only at hr ih
    have hql : qs.length = a.length - (i + 1) := by have := sdiv_len d (a.drop (i + 1)); rw [hs, List.length_drop] at this; exact this
    generalize hx2 : a.getD i 0 = x0 at *
    have ht : r * LB + x0 < 18446744073709551616 := by
      have : r * LB ≤ 4294967294 * LB := Nat.mul_le_mul_right _ (by omega)
      omega
    have hq : (r * LB + x0) / d < 4294967296 := by
      rw [Nat.div_lt_iff_lt_mul hd]
      have : r * LB ≤ (d - 1) * LB := Nat.mul_le_mul_right _ (by omega)
      have e : (d - 1) * LB + LB = 4294967296 * d := by rw [← Nat.succ_mul, Nat.mul_comm]; congr 1; omega
      omega
    have hwx : IntKind.wrap .u64 (x0 : Int) = (x0 : Int) := wrap_u64 (by omega) (by omega)
    have hwq : IntKind.wrap .u32 (((r * LB + x0) / d : Nat) : Int) = (((r * LB + x0) / d : Nat) : Int) := wrapn_u32 hq
    have hwm : IntKind.wrap .u64 ((r : Int) * 4294967296) = ((r * LB : Nat) : Int) := by
      rw [show (r : Int) * 4294967296 = ((r * LB : Nat) : Int) by rw [Int.natCast_mul]; rfl, wrapn_u64 (lb_room0 (by omega))]
    have hwa : IntKind.wrap .u64 (((r * LB : Nat) : Int) + (x0 : Int)) = ((r * LB + x0 : Nat) : Int) := by
      rw [← Int.natCast_add, wrapn_u64 ht]
    have hw1 : IntKind.wrap .i64 ((i : Int) - 1) = (i : Int) - 1 := by rw [wrap_i64] <;> omega
    refine Safe.inLoop ?_
    refine Safe.rg rfl ?_
    simp only [ref01_small_r4, hidx, ge_iff_le, Int.natCast_nonneg, E2, Nat.reduceLeDiff, Nat.reduceSub, Nat.reduceAdd, Nat.reduceEqDiff, reduceCtorEq, ↓reduceIte]
    refine Safe.cd rfl ?_
    simp only [E2, Nat.reduceLeDiff, Nat.reduceSub, Nat.reduceAdd, Nat.reduceEqDiff, reduceCtorEq, ↓reduceIte]
    refine Safe.rg rfl ?_
    simp only [ref01_small_r5, hidx, hwm, natV_idx _ a _ i hi, hx2, hwx, hwa, E2, Nat.reduceLeDiff, Nat.reduceSub, Nat.reduceAdd, Nat.reduceEqDiff, reduceCtorEq, ↓reduceIte]
    refine Safe.rg rfl ?_
    simp only [ref01_small_r6, hidx, quo_u64 _ d hd ht, hwq, idx_r0 hi, one_st H _ (List.replicate (i + 1) 0 ++ qs) i ((r * LB + x0) / d) (by simp; omega), rep_set, E2, Nat.reduceLeDiff, Nat.reduceSub, Nat.reduceAdd, Nat.reduceEqDiff, reduceCtorEq, ↓reduceIte]
    refine Safe.rg rfl ?_
    simp only [ref01_small_r7, rem_u64 _ d hd, E2, Nat.reduceLeDiff, Nat.reduceSub, Nat.reduceAdd, Nat.reduceEqDiff, reduceCtorEq, ↓reduceIte]
    refine Safe.rg rfl ?_
    simp only [ref01_small_r8, hidx, hw1, E2, Nat.reduceLeDiff, Nat.reduceSub, Nat.reduceAdd, Nat.reduceEqDiff, reduceCtorEq, ↓reduceIte]
    refine Safe.keep [0, 1, 6, 7, 8] ?_
    simp only [E2, Nat.reduceLeDiff, Nat.reduceSub, Nat.reduceAdd, Nat.reduceEqDiff, reduceCtorEq, ↓reduceIte]
    exact ih
  · refine Safe.inLoop ?_
    refine Safe.rg rfl ?_
    simp only [ref01_small_r4, Int.natCast_zero, Int.zero_sub, show ¬ (-1 : Int) ≥ 0 by decide, show ¬ (0 : Int) ≤ -1 by decide, E2, Nat.reduceLeDiff, Nat.reduceSub, Nat.reduceAdd, Nat.reduceEqDiff, reduceCtorEq, ↓reduceIte]
    refine Safe.cd rfl ?_
    simp only [E2, Nat.reduceLeDiff, Nat.reduceSub, Nat.reduceAdd, Nat.reduceEqDiff, reduceCtorEq, ↓reduceIte]
    have hl : ((sdiv d a).1).length = a.length := sdiv_len d a
    have hfm : frz (lid H 0) ⟨1, u32s (sdiv d a).1⟩ (.mu (lid H 0) 0 a.length (some a.length)) = natV (sdiv d a).1 := by
      have := frz_mu_nat H 0 (sdiv d a).1 (some a.length)
      rwa [hl] at this
    simp only [List.replicate_zero, List.nil_append, List.drop_zero]
    refine Safe.freeze 0 hH rfl rfl (blk_u32 _) ?_
    refine Safe.keep [6, 7] ?_
    simp only [hfm, E2, Nat.reduceLeDiff, Nat.reduceSub, Nat.reduceAdd, Nat.reduceEqDiff, reduceCtorEq, ↓reduceIte]
    have htr := refnorm_pure (sdiv d a).1 ⟨sdiv_lim hd hla, by rw [hl]; exact hal⟩
    rw [sdiv_div hd] at htr
    rw [sdiv_mod hd]
    refine Safe.rg rfl ?_
    simp only [ref01_small_r9, E2, Nat.reduceLeDiff, Nat.reduceSub, Nat.reduceAdd, Nat.reduceEqDiff, reduceCtorEq, ↓reduceIte]
    first | refine (htr).acall ?_ | refine (htr).dcall ?_
    try simp only [E2, Nat.reduceLeDiff, Nat.reduceSub, Nat.reduceAdd, Nat.reduceEqDiff, reduceCtorEq, ↓reduceIte]
    refine Safe.rt rfl ?_
    simp only [E2, Nat.reduceLeDiff, Nat.reduceSub, Nat.reduceAdd, Nat.reduceEqDiff, reduceCtorEq, ↓reduceIte]
    first | exact ⟨rfl, _, rfl⟩ | exact ⟨_, rfl⟩ | exact ⟨trivial, _, rfl⟩

section
variable {H L : Heap} {env : Env} {n0 : Nat}
/-- One byte, or many, behind a row of bytes. -/
theorem app_byt (hH : HRefs H) (hn : n0 ≤ lid H 0) (hL : RC L) (l m : List UInt8) (len : Nat) (y : AV) (str : Bool) (hy : srcEls (hap H (some ⟨1, byts l⟩ :: L)) 1 str y = some (byts m)) (hlen : len = l.length) (hb : l.length + m.length ≤ 140737488355328) :
    appV n0 1 1 str (.mu (lid H 0) 0 len none) y env (hap H (some ⟨1, byts l⟩ :: L)) = some (.mu (lid H 0) 0 (len + m.length) none, scrub (lid H 0) env, hap H (some ⟨1, byts (l ++ m)⟩ :: L)) := by
  have := appV_own n0 env H (some ⟨1, byts l⟩ :: L) 1 1 str 0 len none y (byts l) (byts m) hH rfl (by rw [byts_len]; exact hlen) hn hy (aside_cl (RC.byts hL)) (by
    intro a ha
    rw [byts_flat] at ha
    obtain ⟨b, _, rfl⟩ := List.mem_map.1 ha
    exact .int _ _) (by rw [byts_len]; omega) (by rw [byts_len]; omega) rfl
  rw [byts_len] at this
  simpa only [capAfter, Option.bind_none, List.set_cons_zero, ← byts_append] using this
theorem atb_r0 {l : List UInt8} {j : Nat} (h : j < l.length) : atV (hap H (some ⟨1, byts l⟩ :: L)) (.loc (lid H 0) j 0) = some [.int .u8 ((l.getD j 0).toNat : Int)] := by
  rw [loc_load H _ 0 j rfl (by rw [byts_len]; exact h)]
  have : (byts l).getD j .top = .int .u8 ((l.getD j 0).toNat : Int) := by simp [byts, h]
  rw [this]; rfl
theorem stb_r0 {l : List UInt8} {j : Nat} {b : UInt8} (h : j < l.length) : storeV 1 (.loc (lid H 0) j 0) (.int .u8 (b.toNat : Int)) env (hap H (some ⟨1, byts l⟩ :: L)) = some (.top, env, hap H (some ⟨1, byts (l.set j b)⟩ :: L)) := by
  rw [storeV_loc env H _ 1 0 j 0 _ rfl (by rw [byts_len]; exact h) rfl rfl (Nat.le_refl 1)]
  have : (byts l).set j (.int .u8 (b.toNat : Int)) = byts (l.set j b) := by simp [byts, List.map_set]
  simp only [upd_whole, this, List.set_cons_zero]
theorem b2s_r0 (l : List UInt8) (len : Nat) (h : len = l.length) : b2sV (hap H (some ⟨1, byts l⟩ :: L)) (.mu (lid H 0) 0 len none) = some (strU l) := by
  subst h
  rw [b2sV_mu, hrow_hap]
  simp only [List.getElem?_cons_zero, Option.join_some, Option.bind_some]
  rw [if_pos ⟨trivial, by rw [byts_len]; omega⟩, List.drop_zero, ← byts_len, List.take_length, strB_byts]
end
theorem dig_wrap (k : Nat) (h : k < 10) : IntKind.wrap .u8 ((48 : Int) + (k : Int)) = ((dig k).toNat : Int) := by
  rw [dig_nat h]
  simp [IntKind.wrap, IntKind.bits, IntKind.signed]; omega

/-- The bytes turned about from both ends, i of them done. -/
def rvl (i : Nat) (l : List UInt8) : List UInt8 := (List.range l.length).map fun j => if j < i ∨ l.length - i ≤ j then l.getD (l.length - 1 - j) 0 else l.getD j 0
theorem rvl_len (i : Nat) (l : List UInt8) : (rvl i l).length = l.length := by simp [rvl]
theorem rvl_zero (l : List UInt8) : rvl 0 l = l := by
  apply List.ext_getElem
  · simp [rvl]
  · intro j h1 h2
    simp only [rvl, List.getElem_map, List.getElem_range]
    rw [if_neg (by omega), List.getD_eq_getElem?_getD, List.getElem?_eq_getElem h2]; rfl
theorem rvl_getD (i j : Nat) (l : List UInt8) (h : j < l.length) : (rvl i l).getD j 0 = if j < i ∨ l.length - i ≤ j then l.getD (l.length - 1 - j) 0 else l.getD j 0 := by
  rw [List.getD_eq_getElem?_getD, List.getElem?_eq_getElem (by rw [rvl_len]; exact h)]
  simp [rvl]
theorem rvl_half (l : List UInt8) : rvl (l.length / 2) l = l.reverse := by
  apply List.ext_getElem
  · simp [rvl]
  · intro j h1 h2
    have hj : j < l.length := by simpa [rvl] using h1
    simp only [rvl, List.getElem_map, List.getElem_range, List.getElem_reverse]
    split
    · rw [List.getD_eq_getElem?_getD, List.getElem?_eq_getElem (by omega)]; rfl
    · rename_i h
      have e : l.length - 1 - j = j := by omega
      simp only [e]
      rw [List.getD_eq_getElem?_getD, List.getElem?_eq_getElem hj]; rfl
theorem rvl_step (i : Nat) (l : List UInt8) (h : i < l.length / 2) : ((rvl i l).set i (l.getD (l.length - 1 - i) 0)).set (l.length - 1 - i) (l.getD i 0) = rvl (i + 1) l := by
  apply List.ext_getElem
  · simp [rvl]
  · intro j h1 h2
    have hj : j < l.length := by simpa [rvl] using h2
    rw [List.getElem_set, List.getElem_set]
    simp only [rvl, List.getElem_map, List.getElem_range]
    by_cases e1 : l.length - 1 - i = j
    · rw [if_pos e1, if_pos (by omega)]
      congr 1; omega
    · rw [if_neg e1]
      by_cases e2 : i = j
      · subst e2
        rw [if_pos rfl, if_pos (by omega)]
      · rw [if_neg e2]
        by_cases e3 : j < i ∨ l.length - i ≤ j
        · rw [if_pos e3, if_pos (by omega)]
        · rw [if_neg e3, if_neg (by omega)]

theorem grp_mod {q r k : Nat} (hk : k < 9) : (q * 10 ^ (9 - k) + r) % 10 = r % 10 := by
  rw [show 9 - k = (8 - k) + 1 by omega, Nat.pow_succ, ← Nat.mul_assoc]; omega
theorem grp_div {q r k : Nat} (hk : k < 9) : (q * 10 ^ (9 - k) + r) / 10 = q * 10 ^ (9 - (k + 1)) + r / 10 := by
  rw [show 9 - k = (9 - (k + 1)) + 1 by omega, Nat.pow_succ, ← Nat.mul_assoc]; omega
theorem grp_lt {r k : Nat} (hk : k < 9) (h : r < 10 ^ (9 - k)) : r / 10 < 10 ^ (9 - (k + 1)) := by
  rw [show 9 - k = (9 - (k + 1)) + 1 by omega, Nat.pow_succ] at h; omega
theorem grp_zero {q k : Nat} (h : q * 10 ^ (9 - k) + 0 = 0) : q = 0 := by
  rcases Nat.eq_zero_or_pos q with h0 | h0
  · exact h0
  · have : 0 < q * 10 ^ (9 - k) := Nat.mul_pos h0 (Nat.pow_pos (by decide))
    omega
theorem limbs_yes {m : Nat} (h : m ≠ 0) : ((limbs m).length : Int) > 0 := by
  rw [limbs_pos h, List.length_cons]; omega
theorem limbs_no : ¬ ((limbs 0).length : Int) > 0 := by rw [limbs_zero]; decide

theorem nattext_pure (a : List Nat) (ha : Nt a) (hs : a.length ≤ 8796093022208) : PureC Pr F_nat_Text [natV a] (strU (dec (val a))) := by
  have hal := ha.len
  have hla := ha.lim
  generalize hn : val a = n
  have hlm : ∀ m, m ≤ n → Nt (limbs m) := fun m hm => ⟨lim_limbs m, Nat.le_trans (limbs_len_le (Nat.lt_of_le_of_lt hm (by rw [← hn]; exact val_lt hla))) hal⟩
  have hdl : (digs n).length ≤ 87960930222080 := Nat.le_trans (digs_len (10 * a.length) n (Nat.lt_of_lt_of_le (by rw [← hn]; exact val_lt hla) (lb_ten _))) (by omega)
  have hnorm := norm_pure a ha
  rw [hn] at hnorm
  refine PureC.intro nat_Text_fn nat_Text_ok (Nat.le_of_ble_eq_true rfl) (strU_cl _) fun H hH => ?_
  refine Safe.rg rfl ?_
  simp only [nat_Text_r0, E2, Nat.reduceLeDiff, Nat.reduceSub, Nat.reduceAdd, Nat.reduceEqDiff, reduceCtorEq, ↓reduceIte]
  refine Safe.rg rfl ?_
  simp only [nat_Text_r1, E2, Nat.reduceLeDiff, Nat.reduceSub, Nat.reduceAdd, Nat.reduceEqDiff, reduceCtorEq, ↓reduceIte]
  first | refine (hnorm).acall ?_ | refine (hnorm).dcall ?_
  try simp only [E2, Nat.reduceLeDiff, Nat.reduceSub, Nat.reduceAdd, Nat.reduceEqDiff, reduceCtorEq, ↓reduceIte]
  refine Safe.rg rfl ?_
  simp only [nat_Text_r2, E2, Nat.reduceLeDiff, Nat.reduceSub, Nat.reduceAdd, Nat.reduceEqDiff, reduceCtorEq, ↓reduceIte]
  refine Safe.cd rfl ?_
  simp only [E2, Nat.reduceLeDiff, Nat.reduceSub, Nat.reduceAdd, Nat.reduceEqDiff, reduceCtorEq, ↓reduceIte]
  by_cases h0 : n = 0
  · subst h0
    have hz : ((limbs 0).length : Int) = 0 := by rw [limbs_zero]; rfl
    simp only [hz, E2, Nat.reduceLeDiff, Nat.reduceSub, Nat.reduceAdd, Nat.reduceEqDiff, reduceCtorEq, ↓reduceIte]
    refine Safe.rg rfl ?_
    simp only [nat_Text_r3, E2, Nat.reduceLeDiff, Nat.reduceSub, Nat.reduceAdd, Nat.reduceEqDiff, reduceCtorEq, ↓reduceIte]
    refine Safe.rt rfl ?_
    simp only [E2, Nat.reduceLeDiff, Nat.reduceSub, Nat.reduceAdd, Nat.reduceEqDiff, reduceCtorEq, ↓reduceIte]
    exact ⟨rfl, _, rfl⟩
  · have hz : ¬ ((limbs n).length : Int) = 0 := by have := limbs_yes h0; omega
    have hdec : dec n = (digs n).reverse := by simp [dec, h0]
    simp only [hz, E2, Nat.reduceLeDiff, Nat.reduceSub, Nat.reduceAdd, Nat.reduceEqDiff, reduceCtorEq, ↓reduceIte]
    refine Safe.rg rfl ?_
    simp only [nat_Text_r4, E2, Nat.reduceLeDiff, Nat.reduceSub, Nat.reduceAdd, Nat.reduceEqDiff, reduceCtorEq, ↓reduceIte]
    refine Safe.nilrow 3 1 (by decide) (by simp only [E2, Nat.reduceLeDiff, Nat.reduceSub, Nat.reduceAdd, Nat.reduceEqDiff, reduceCtorEq, ↓reduceIte]) ?_
    refine Safe.lp rfl ?_
    refine Safe.keep [0, 3] ?_
    simp only [E2, Nat.reduceLeDiff, Nat.reduceSub, Nat.reduceAdd, Nat.reduceEqDiff, reduceCtorEq, ↓reduceIte]
    refine Safe.loopW (α := Nat × List UInt8) (fun p => p.1) (fun p => [(0, natV (limbs p.1)), (3, .mu (lid H 0) 0 p.2.length none)]) (fun p => hap H [some ⟨1, byts p.2⟩]) (fun p => p.1 ≤ n ∧ p.2 ++ digs p.1 = digs n) (n, []) rfl rfl ⟨Nat.le_refl _, rfl⟩ ?_
    rintro ⟨m, bs⟩ ⟨hm, hinv⟩ ih
    simp only at hm hinv ih ⊢
    refine Safe.inLoop ?_
    by_cases hm0 : m = 0
    · subst hm0
      rw [digs_zero, List.append_nil] at hinv
      subst hinv
      generalize hbs : digs n = bs at *
      have hb1 : 0 < bs.length := by
        rcases Nat.eq_zero_or_pos bs.length with h | h
        · rw [digs_pos h0] at hbs
          rw [← hbs] at h; simp at h
        · exact h
      refine Safe.rg rfl ?_
      simp only [nat_Text_r5, limbs_no, E2, Nat.reduceLeDiff, Nat.reduceSub, Nat.reduceAdd, Nat.reduceEqDiff, reduceCtorEq, ↓reduceIte]
      refine Safe.cd rfl ?_
      simp only [E2, Nat.reduceLeDiff, Nat.reduceSub, Nat.reduceAdd, Nat.reduceEqDiff, reduceCtorEq, ↓reduceIte]
      have hw1 : IntKind.wrap .i64 ((bs.length : Int) - 1) = (bs.length : Int) - 1 := by rw [wrap_i64] <;> omega
      refine Safe.rg rfl ?_
      simp only [nat_Text_r13, hw1, E2, Nat.reduceLeDiff, Nat.reduceSub, Nat.reduceAdd, Nat.reduceEqDiff, reduceCtorEq, ↓reduceIte]
      refine Safe.lp rfl ?_
      refine Safe.keep [3, 7, 8] ?_
      simp only [E2, Nat.reduceLeDiff, Nat.reduceSub, Nat.reduceAdd, Nat.reduceEqDiff, reduceCtorEq, ↓reduceIte]
      refine Safe.loopN (bs.length / 2) (fun i => [(3, .mu (lid H 0) 0 bs.length none), (7, .int .i64 i), (8, .int .i64 ((bs.length : Int) - 1 - (i : Int)))]) (fun i => hap H [some ⟨1, byts (rvl i bs)⟩]) (by simp) (by rw [rvl_zero]) (fun i hi ih3 => ?_) ?_
      · have hlt : (i : Int) < (bs.length : Int) - 1 - (i : Int) := by omega
        have hk : (bs.length : Int) - 1 - (i : Int) = ((bs.length - 1 - i : Nat) : Int) := by omega
        have hk2 : IntKind.wrap .i64 (((bs.length - 1 - i : Nat) : Int) - 1) = (bs.length : Int) - 1 - ((i + 1 : Nat) : Int) := by rw [wrap_i64] <;> omega
        have l1 : i < (rvl i bs).length := by rw [rvl_len]; omega
        have l2 : bs.length - 1 - i < (rvl i bs).length := by rw [rvl_len]; omega
        have g1 := rvl_getD i i bs (by omega)
        rw [if_neg (by omega)] at g1
        have g2 := rvl_getD i (bs.length - 1 - i) bs (by omega)
        rw [if_neg (by omega)] at g2
        have hlt' : (i : Int) < ((bs.length - 1 - i : Nat) : Int) := by omega
        have hiw : IntKind.wrap .i64 ((i : Int) + 1) = ((i + 1 : Nat) : Int) := by rw [wrap_i64] <;> omega
        refine Safe.inLoop ?_
        refine Safe.rg rfl ?_
        simp only [nat_Text_r14, hk, hlt', E2, Nat.reduceLeDiff, Nat.reduceSub, Nat.reduceAdd, Nat.reduceEqDiff, reduceCtorEq, ↓reduceIte]
        refine Safe.cd rfl ?_
        simp only [E2, Nat.reduceLeDiff, Nat.reduceSub, Nat.reduceAdd, Nat.reduceEqDiff, reduceCtorEq, ↓reduceIte]
        refine Safe.rg rfl ?_
        simp only [nat_Text_r15, hk, idx_r0 (show bs.length - 1 - i < bs.length by omega), idx_r0 (show i < bs.length by omega), atb_r0 l1, atb_r0 l2, g1, g2, stb_r0 l1, stb_r0 (show bs.length - 1 - i < ((rvl i bs).set i (bs.getD (bs.length - 1 - i) 0)).length by rw [List.length_set]; exact l2), rvl_step i bs hi, E2, Nat.reduceLeDiff, Nat.reduceSub, Nat.reduceAdd, Nat.reduceEqDiff, reduceCtorEq, ↓reduceIte]
        refine Safe.rg rfl ?_
        simp only [nat_Text_r16, hk, hk2, hiw, E2, Nat.reduceLeDiff, Nat.reduceSub, Nat.reduceAdd, Nat.reduceEqDiff, reduceCtorEq, ↓reduceIte]
        refine Safe.keep [3, 7, 8] ?_
        simp only [E2, Nat.reduceLeDiff, Nat.reduceSub, Nat.reduceAdd, Nat.reduceEqDiff, reduceCtorEq, ↓reduceIte]
        exact ih3
      · have hlt : ¬ ((bs.length / 2 : Nat) : Int) < (bs.length : Int) - 1 - ((bs.length / 2 : Nat) : Int) := by omega
        refine Safe.inLoop ?_
        refine Safe.rg rfl ?_
        simp only [nat_Text_r14, hlt, E2, Nat.reduceLeDiff, Nat.reduceSub, Nat.reduceAdd, Nat.reduceEqDiff, reduceCtorEq, ↓reduceIte]
        refine Safe.cd rfl ?_
        simp only [E2, Nat.reduceLeDiff, Nat.reduceSub, Nat.reduceAdd, Nat.reduceEqDiff, reduceCtorEq, ↓reduceIte]
        rw [rvl_half]
        refine Safe.rg rfl ?_
        simp only [nat_Text_r17, b2s_r0 bs.reverse bs.length (List.length_reverse).symm, E2, Nat.reduceLeDiff, Nat.reduceSub, Nat.reduceAdd, Nat.reduceEqDiff, reduceCtorEq, ↓reduceIte]
        refine Safe.rt rfl ?_
        simp only [E2, Nat.reduceLeDiff, Nat.reduceSub, Nat.reduceAdd, Nat.reduceEqDiff, reduceCtorEq, ↓reduceIte]
        rw [hdec]
        exact ⟨rfl, _, rfl⟩
    · have hsh := short_pure (limbs m) 1000000000 (hlm m hm) (by decide) (by decide)
      rw [val_limbs] at hsh
      refine Safe.rg rfl ?_
      simp only [nat_Text_r5, limbs_yes hm0, E2, Nat.reduceLeDiff, Nat.reduceSub, Nat.reduceAdd, Nat.reduceEqDiff, reduceCtorEq, ↓reduceIte]
      refine Safe.cd rfl ?_
      simp only [E2, Nat.reduceLeDiff, Nat.reduceSub, Nat.reduceAdd, Nat.reduceEqDiff, reduceCtorEq, ↓reduceIte]
      refine Safe.rg rfl ?_
      simp only [nat_Text_r6, E2, Nat.reduceLeDiff, Nat.reduceSub, Nat.reduceAdd, Nat.reduceEqDiff, reduceCtorEq, ↓reduceIte]
      first | refine (hsh).acall ?_ | refine (hsh).dcall ?_
      try simp only [E2, Nat.reduceLeDiff, Nat.reduceSub, Nat.reduceAdd, Nat.reduceEqDiff, reduceCtorEq, ↓reduceIte]
      refine Safe.rg rfl ?_
      simp only [nat_Text_r7, E2, Nat.reduceLeDiff, Nat.reduceSub, Nat.reduceAdd, Nat.reduceEqDiff, reduceCtorEq, ↓reduceIte]
      refine Safe.lp rfl ?_
      refine Safe.keep [3, 4, 5, 6] ?_
      simp only [E2, Nat.reduceLeDiff, Nat.reduceSub, Nat.reduceAdd, Nat.reduceEqDiff, reduceCtorEq, ↓reduceIte]
      refine Safe.loopW (α := Nat × Nat × List UInt8) (fun p => 9 - p.1) (fun p => [(3, .mu (lid H 0) 0 p.2.2.length none), (4, natV (limbs (m / 1000000000))), (5, .int .u32 p.2.1), (6, .int .i64 p.1)]) (fun p => hap H [some ⟨1, byts p.2.2⟩])
        (fun p => p.1 ≤ 9 ∧ p.2.1 < 10 ^ (9 - p.1) ∧ p.2.2 ++ digs (m / 1000000000 * 10 ^ (9 - p.1) + p.2.1) = digs n) (0, m % 1000000000, bs) rfl rfl ⟨Nat.zero_le _, by show m % 1000000000 < 10 ^ 9; omega, by
          show bs ++ digs (m / 1000000000 * 10 ^ 9 + m % 1000000000) = digs n
          rw [show m / 1000000000 * 10 ^ 9 + m % 1000000000 = m by omega]; exact hinv⟩ ?_
      rintro ⟨k, r, cs⟩ ⟨hk9, hr, hinv2⟩ ih2
      simp only at hk9 hr hinv2 ih2 ⊢
      have hfin : m / 1000000000 * 10 ^ (9 - k) + r = m / 1000000000 → Safe ⟨Pr, fun _ _ => false, F_nat_Text, 71, [.tmp 2], H.length⟩ [.code (.region nat_Text_r12 false), .inBlock 1, .inLoop nat_Text_l0, .inBlock 0, .code (.seq (.seq (.region nat_Text_r13 false) (.block 4 (.loop nat_Text_l2))) (.seq (.region nat_Text_r17 false) (.ret)))]
          [(3, .mu (lid H 0) 0 cs.length none), (4, natV (limbs (m / 1000000000))), (5, .int .u32 r), (6, .int .i64 k)] (hap H [some ⟨1, byts cs⟩]) fun r' H' => r' = strU (dec n) ∧ ∃ L, H' = hap H L := by
        intro e
        rw [e] at hinv2
        refine Safe.rg rfl ?_
        simp only [nat_Text_r12, E2, Nat.reduceLeDiff, Nat.reduceSub, Nat.reduceAdd, Nat.reduceEqDiff, reduceCtorEq, ↓reduceIte]
        repeat (first | refine Safe.seq ?_ | refine Safe.skip ?_ | refine Safe.inBlock ?_ | refine Safe.block ?_ | refine Safe.exit rfl ?_)
        refine Safe.keep [0, 3] ?_
        simp only [E2, Nat.reduceLeDiff, Nat.reduceSub, Nat.reduceAdd, Nat.reduceEqDiff, reduceCtorEq, ↓reduceIte]
        exact ih (m / 1000000000, cs) ⟨by omega, hinv2⟩ (by show m / 1000000000 < m; omega)
      refine Safe.inLoop ?_
      by_cases hk : k < 9
      · have hki : (k : Int) < 9 := by omega
        by_cases hv : m / 1000000000 * 10 ^ (9 - k) + r = 0
        · have hr0 : r = 0 := by omega
          subst hr0
          have hq0 := grp_zero hv
          have hri : ¬ ((0 : Nat) : Int) > 0 := by decide
          rw [hq0] at hfin ⊢
          refine Safe.rg rfl ?_
          simp only [nat_Text_r8, hki, limbs_no, hri, E2, Nat.reduceLeDiff, Nat.reduceSub, Nat.reduceAdd, Nat.reduceEqDiff, reduceCtorEq, ↓reduceIte]
          refine Safe.cd rfl ?_
          simp only [E2, Nat.reduceLeDiff, Nat.reduceSub, Nat.reduceAdd, Nat.reduceEqDiff, reduceCtorEq, ↓reduceIte]
          repeat (first | refine Safe.seq ?_ | refine Safe.skip ?_ | refine Safe.inBlock ?_ | refine Safe.block ?_ | refine Safe.exit rfl ?_)
          refine Safe.keep [3, 4, 5, 6] ?_
          simp only [E2, Nat.reduceLeDiff, Nat.reduceSub, Nat.reduceAdd, Nat.reduceEqDiff, reduceCtorEq, ↓reduceIte]
          exact hfin (by simp)
        · have hbody : Safe ⟨Pr, fun _ _ => false, F_nat_Text, 71, [.tmp 2], H.length⟩ [.code (.block 3 (.seq (.region nat_Text_r9 false) (.region nat_Text_r10 false))), .code (.region nat_Text_r11 false), .inLoop nat_Text_l1, .inBlock 2, .code (.region nat_Text_r12 false), .inBlock 1, .inLoop nat_Text_l0, .inBlock 0, .code (.seq (.seq (.region nat_Text_r13 false) (.block 4 (.loop nat_Text_l2))) (.seq (.region nat_Text_r17 false) (.ret)))]
              [(3, .mu (lid H 0) 0 cs.length none), (4, natV (limbs (m / 1000000000))), (5, .int .u32 r), (6, .int .i64 k)] (hap H [some ⟨1, byts cs⟩]) fun r' H' => r' = strU (dec n) ∧ ∃ L, H' = hap H L := by
            have hr9 : r < 4294967296 := Nat.lt_of_lt_of_le hr (Nat.le_trans (Nat.pow_le_pow_right (by decide) (show 9 - k ≤ 9 by omega)) (by decide))
            have hm10 : r % 10 < 10 := Nat.mod_lt _ (by decide)
            have hw48 : IntKind.wrap .u32 ((48 : Int) + ((r % 10 : Nat) : Int)) = (48 : Int) + ((r % 10 : Nat) : Int) := wrap_u32 (by omega) (by omega)
            rw [digs_pos hv, grp_mod hk, grp_div hk] at hinv2
            have hcl : cs.length < (digs n).length := by rw [← hinv2]; simp
            have happ := fun env => app_byt (H := H) (L := []) (env := env) (n0 := H.length) hH (lid_ge H 0) RC.nil cs [dig (r % 10)] cs.length (.sl 1 [.int .u8 ((dig (r % 10)).toNat : Int)]) false (srcEls_sl _ 1 _) rfl (by simp only [List.length_cons, List.length_nil]; omega)
            have hkw : IntKind.wrap .i64 ((k : Int) + 1) = ((k + 1 : Nat) : Int) := by rw [wrap_i64] <;> omega
            refine Safe.rg rfl ?_
            simp only [nat_Text_r9, rem_ten, hw48, dig_wrap _ hm10, happ, E2, Nat.reduceLeDiff, Nat.reduceSub, Nat.reduceAdd, Nat.reduceEqDiff, reduceCtorEq, ↓reduceIte]
            refine Safe.rg rfl ?_
            simp only [nat_Text_r10, quo_ten .u32 (fun n h => wrapn_u32 h) r hr9, E2, Nat.reduceLeDiff, Nat.reduceSub, Nat.reduceAdd, Nat.reduceEqDiff, reduceCtorEq, ↓reduceIte]
            refine Safe.rg rfl ?_
            simp only [nat_Text_r11, hkw, E2, Nat.reduceLeDiff, Nat.reduceSub, Nat.reduceAdd, Nat.reduceEqDiff, reduceCtorEq, ↓reduceIte]
            refine Safe.keep [3, 4, 5, 6] ?_
            simp only [E2, Nat.reduceLeDiff, Nat.reduceSub, Nat.reduceAdd, Nat.reduceEqDiff, reduceCtorEq, ↓reduceIte]
            have := ih2 (k + 1, r / 10, cs ++ [dig (r % 10)]) ⟨by show k + 1 ≤ 9; omega, grp_lt hk hr, by rw [← hinv2]; simp⟩ (by show 9 - (k + 1) < 9 - k; omega)
            simpa only [List.length_append, List.length_cons, List.length_nil, Nat.zero_add] using this
          by_cases hq : m / 1000000000 = 0
          · have hri : (r : Int) > 0 := by rw [hq] at hv; omega
            rw [hq] at hbody ⊢
            refine Safe.rg rfl ?_
            simp only [nat_Text_r8, hki, limbs_no, hri, E2, Nat.reduceLeDiff, Nat.reduceSub, Nat.reduceAdd, Nat.reduceEqDiff, reduceCtorEq, ↓reduceIte]
            refine Safe.cd rfl ?_
            simp only [E2, Nat.reduceLeDiff, Nat.reduceSub, Nat.reduceAdd, Nat.reduceEqDiff, reduceCtorEq, ↓reduceIte]
            refine Safe.skip (Safe.seq ?_)
            refine Safe.keep [3, 4, 5, 6] ?_
            simp only [E2, Nat.reduceLeDiff, Nat.reduceSub, Nat.reduceAdd, Nat.reduceEqDiff, reduceCtorEq, ↓reduceIte]
            exact hbody
          · refine Safe.rg rfl ?_
            simp only [nat_Text_r8, hki, limbs_yes hq, E2, Nat.reduceLeDiff, Nat.reduceSub, Nat.reduceAdd, Nat.reduceEqDiff, reduceCtorEq, ↓reduceIte]
            refine Safe.cd rfl ?_
            simp only [E2, Nat.reduceLeDiff, Nat.reduceSub, Nat.reduceAdd, Nat.reduceEqDiff, reduceCtorEq, ↓reduceIte]
            refine Safe.skip (Safe.seq ?_)
            refine Safe.keep [3, 4, 5, 6] ?_
            simp only [E2, Nat.reduceLeDiff, Nat.reduceSub, Nat.reduceAdd, Nat.reduceEqDiff, reduceCtorEq, ↓reduceIte]
            exact hbody
      · have hki : ¬ (k : Int) < 9 := by omega
        have hk' : k = 9 := by omega
        subst hk'
        have hr0 : r = 0 := by simpa using hr
        subst hr0
        refine Safe.rg rfl ?_
        simp only [nat_Text_r8, hki, E2, Nat.reduceLeDiff, Nat.reduceSub, Nat.reduceAdd, Nat.reduceEqDiff, reduceCtorEq, ↓reduceIte]
        refine Safe.cd rfl ?_
        simp only [E2, Nat.reduceLeDiff, Nat.reduceSub, Nat.reduceAdd, Nat.reduceEqDiff, reduceCtorEq, ↓reduceIte]
        repeat (first | refine Safe.seq ?_ | refine Safe.skip ?_ | refine Safe.inBlock ?_ | refine Safe.block ?_ | refine Safe.exit rfl ?_)
        refine Safe.keep [3, 4, 5, 6] ?_
        simp only [E2, Nat.reduceLeDiff, Nat.reduceSub, Nat.reduceAdd, Nat.reduceEqDiff, reduceCtorEq, ↓reduceIte]
        exact hfin (by simp)

theorem strU_nil : strU [] = .str ⟨#[]⟩ := rfl
theorem reftext_pure (a : List Nat) (ha : Nt a) (hs : a.length ≤ 8796093022208) : PureC Pr F_ref01_Text [natV a] (strU (dec (val a))) := by
  have hal := ha.len
  have hla := ha.lim
  generalize hn : val a = n
  have hlm : ∀ m, m ≤ n → Nt (limbs m) := fun m hm => ⟨lim_limbs m, Nat.le_trans (limbs_len_le (Nat.lt_of_le_of_lt hm (by rw [← hn]; exact val_lt hla))) hal⟩
  have hdl : (digs n).reverse.length ≤ 87960930222080 := by
    rw [List.length_reverse]
    exact Nat.le_trans (digs_len (10 * a.length) n (Nat.lt_of_lt_of_le (by rw [← hn]; exact val_lt hla) (lb_ten _))) (by omega)
  have hnorm := refnorm_pure a ha
  rw [hn] at hnorm
  refine PureC.intro ref01_Text_fn ref01_Text_ok (Nat.le_of_ble_eq_true rfl) (strU_cl _) fun H hH => ?_
  refine Safe.rg rfl ?_
  simp only [ref01_Text_r0, E2, Nat.reduceLeDiff, Nat.reduceSub, Nat.reduceAdd, Nat.reduceEqDiff, reduceCtorEq, ↓reduceIte]
  refine Safe.rg rfl ?_
  simp only [ref01_Text_r1, E2, Nat.reduceLeDiff, Nat.reduceSub, Nat.reduceAdd, Nat.reduceEqDiff, reduceCtorEq, ↓reduceIte]
  first | refine (hnorm).acall ?_ | refine (hnorm).dcall ?_
  try simp only [E2, Nat.reduceLeDiff, Nat.reduceSub, Nat.reduceAdd, Nat.reduceEqDiff, reduceCtorEq, ↓reduceIte]
  refine Safe.rg rfl ?_
  simp only [ref01_Text_r2, E2, Nat.reduceLeDiff, Nat.reduceSub, Nat.reduceAdd, Nat.reduceEqDiff, reduceCtorEq, ↓reduceIte]
  refine Safe.cd rfl ?_
  simp only [E2, Nat.reduceLeDiff, Nat.reduceSub, Nat.reduceAdd, Nat.reduceEqDiff, reduceCtorEq, ↓reduceIte]
  by_cases h0 : n = 0
  · subst h0
    have hz : ((limbs 0).length : Int) = 0 := by rw [limbs_zero]; rfl
    simp only [hz, E2, Nat.reduceLeDiff, Nat.reduceSub, Nat.reduceAdd, Nat.reduceEqDiff, reduceCtorEq, ↓reduceIte]
    refine Safe.rg rfl ?_
    simp only [ref01_Text_r3, E2, Nat.reduceLeDiff, Nat.reduceSub, Nat.reduceAdd, Nat.reduceEqDiff, reduceCtorEq, ↓reduceIte]
    refine Safe.rt rfl ?_
    simp only [E2, Nat.reduceLeDiff, Nat.reduceSub, Nat.reduceAdd, Nat.reduceEqDiff, reduceCtorEq, ↓reduceIte]
    exact ⟨rfl, _, rfl⟩
  · have hz : ¬ ((limbs n).length : Int) = 0 := by have := limbs_yes h0; omega
    have hdec : dec n = (digs n).reverse := by simp [dec, h0]
    simp only [hz, E2, Nat.reduceLeDiff, Nat.reduceSub, Nat.reduceAdd, Nat.reduceEqDiff, reduceCtorEq, ↓reduceIte]
    refine Safe.rg rfl ?_
    simp only [ref01_Text_r4, E2, Nat.reduceLeDiff, Nat.reduceSub, Nat.reduceAdd, Nat.reduceEqDiff, reduceCtorEq, ↓reduceIte]
    refine Safe.lp rfl ?_
    refine Safe.keep [3, 4] ?_
    simp only [E2, Nat.reduceLeDiff, Nat.reduceSub, Nat.reduceAdd, Nat.reduceEqDiff, reduceCtorEq, ↓reduceIte]
    refine Safe.loopW (α := Nat × List UInt8) (fun p => p.1) (fun p => [(3, natV (limbs p.1)), (4, strU p.2)]) (fun p => hap H []) (fun p => p.1 ≤ n ∧ (digs p.1).reverse ++ p.2 = (digs n).reverse) (n, []) rfl rfl ⟨Nat.le_refl _, List.append_nil _⟩ ?_
    rintro ⟨m, bs⟩ ⟨hm, hinv⟩ ih
    simp only at hm hinv ih ⊢
    refine Safe.inLoop ?_
    by_cases hm0 : m = 0
    · subst hm0
      rw [digs_zero, List.reverse_nil, List.nil_append] at hinv
      refine Safe.rg rfl ?_
      simp only [ref01_Text_r5, limbs_no, E2, Nat.reduceLeDiff, Nat.reduceSub, Nat.reduceAdd, Nat.reduceEqDiff, reduceCtorEq, ↓reduceIte]
      refine Safe.cd rfl ?_
      simp only [E2, Nat.reduceLeDiff, Nat.reduceSub, Nat.reduceAdd, Nat.reduceEqDiff, reduceCtorEq, ↓reduceIte]
      refine Safe.rg rfl ?_
      simp only [ref01_Text_r15, ES, E2, Nat.reduceLeDiff, Nat.reduceSub, Nat.reduceAdd, Nat.reduceEqDiff, reduceCtorEq, ↓reduceIte]
      refine Safe.rt rfl ?_
      simp only [ES, E2, Nat.reduceLeDiff, Nat.reduceSub, Nat.reduceAdd, Nat.reduceEqDiff, reduceCtorEq, ↓reduceIte]
      rw [hdec, hinv]
      exact ⟨rfl, _, rfl⟩
    · have hsh := small_pure (limbs m) 1000000000 (hlm m hm) (by decide) (by decide)
      rw [val_limbs] at hsh
      refine Safe.rg rfl ?_
      simp only [ref01_Text_r5, limbs_yes hm0, E2, Nat.reduceLeDiff, Nat.reduceSub, Nat.reduceAdd, Nat.reduceEqDiff, reduceCtorEq, ↓reduceIte]
      refine Safe.cd rfl ?_
      simp only [E2, Nat.reduceLeDiff, Nat.reduceSub, Nat.reduceAdd, Nat.reduceEqDiff, reduceCtorEq, ↓reduceIte]
      refine Safe.rg rfl ?_
      simp only [ref01_Text_r6, E2, Nat.reduceLeDiff, Nat.reduceSub, Nat.reduceAdd, Nat.reduceEqDiff, reduceCtorEq, ↓reduceIte]
      first | refine (hsh).acall ?_ | refine (hsh).dcall ?_
      try simp only [E2, Nat.reduceLeDiff, Nat.reduceSub, Nat.reduceAdd, Nat.reduceEqDiff, reduceCtorEq, ↓reduceIte]
      refine Safe.rg rfl ?_
      simp only [ref01_Text_r7, E2, Nat.reduceLeDiff, Nat.reduceSub, Nat.reduceAdd, Nat.reduceEqDiff, reduceCtorEq, ↓reduceIte]
      refine Safe.rg rfl ?_
      simp only [ref01_Text_r8, E2, Nat.reduceLeDiff, Nat.reduceSub, Nat.reduceAdd, Nat.reduceEqDiff, reduceCtorEq, ↓reduceIte]
      refine Safe.rg rfl ?_
      simp only [ref01_Text_r9, E2, Nat.reduceLeDiff, Nat.reduceSub, Nat.reduceAdd, Nat.reduceEqDiff, reduceCtorEq, ↓reduceIte]
      refine Safe.lp rfl ?_
      refine Safe.keep [3, 4, 6, 7, 8] ?_
      simp only [E2, Nat.reduceLeDiff, Nat.reduceSub, Nat.reduceAdd, Nat.reduceEqDiff, reduceCtorEq, ↓reduceIte]
      refine Safe.loopW (α := Nat × Nat × List UInt8) (fun p => 9 - p.1) (fun p => [(3, natV (limbs (m / 1000000000))), (4, strU bs), (6, .int .u64 p.2.1), (7, strU p.2.2), (8, .int .i64 p.1)]) (fun p => hap H [])
        (fun p => p.1 ≤ 9 ∧ p.2.1 < 10 ^ (9 - p.1) ∧ (digs (m / 1000000000 * 10 ^ (9 - p.1) + p.2.1)).reverse ++ (p.2.2 ++ bs) = (digs n).reverse) (0, m % 1000000000, []) rfl rfl ⟨Nat.zero_le _, by show m % 1000000000 < 10 ^ 9; omega, by
          show (digs (m / 1000000000 * 10 ^ 9 + m % 1000000000)).reverse ++ ([] ++ bs) = (digs n).reverse
          rw [show m / 1000000000 * 10 ^ 9 + m % 1000000000 = m by omega]; exact hinv⟩ ?_
      rintro ⟨k, r, cs⟩ ⟨hk9, hr, hinv2⟩ ih2
      simp only at hk9 hr hinv2 ih2 ⊢
      have hbl : cs.length + bs.length ≤ (digs n).reverse.length := by
        rw [← hinv2, List.length_append, List.length_append]; omega
      have hfin : m / 1000000000 * 10 ^ (9 - k) + r = m / 1000000000 → Safe ⟨Pr, fun _ _ => false, F_ref01_Text, 50, [.tmp 2], H.length⟩ [.code (.region ref01_Text_r14 false), .inBlock 1, .inLoop ref01_Text_l0, .inBlock 0, .code (.seq (.region ref01_Text_r15 false) (.ret))]
          [(3, natV (limbs (m / 1000000000))), (4, strU bs), (6, .int .u64 r), (7, strU cs), (8, .int .i64 k)] (hap H []) fun r' H' => r' = strU (dec n) ∧ ∃ L, H' = hap H L := by
        intro e
        rw [e] at hinv2
        refine Safe.rg rfl ?_
        simp only [ref01_Text_r14, ES, sadd_strU cs bs (by omega), E2, Nat.reduceLeDiff, Nat.reduceSub, Nat.reduceAdd, Nat.reduceEqDiff, reduceCtorEq, ↓reduceIte]
        repeat (first | refine Safe.seq ?_ | refine Safe.skip ?_ | refine Safe.inBlock ?_ | refine Safe.block ?_ | refine Safe.exit rfl ?_)
        refine Safe.keep [3, 4] ?_
        simp only [ES, E2, Nat.reduceLeDiff, Nat.reduceSub, Nat.reduceAdd, Nat.reduceEqDiff, reduceCtorEq, ↓reduceIte]
        exact ih (m / 1000000000, cs ++ bs) ⟨by omega, hinv2⟩ (by show m / 1000000000 < m; omega)
      refine Safe.inLoop ?_
      by_cases hk : k < 9
      · have hki : (k : Int) < 9 := by omega
        by_cases hv : m / 1000000000 * 10 ^ (9 - k) + r = 0
        · have hr0 : r = 0 := by omega
          subst hr0
          have hq0 := grp_zero hv
          have hri : ¬ ((0 : Nat) : Int) > 0 := by decide
          rw [hq0] at hfin ⊢
          refine Safe.rg rfl ?_
          simp only [ref01_Text_r10, hki, limbs_no, hri, E2, Nat.reduceLeDiff, Nat.reduceSub, Nat.reduceAdd, Nat.reduceEqDiff, reduceCtorEq, ↓reduceIte]
          refine Safe.cd rfl ?_
          simp only [E2, Nat.reduceLeDiff, Nat.reduceSub, Nat.reduceAdd, Nat.reduceEqDiff, reduceCtorEq, ↓reduceIte]
          repeat (first | refine Safe.seq ?_ | refine Safe.skip ?_ | refine Safe.inBlock ?_ | refine Safe.block ?_ | refine Safe.exit rfl ?_)
          refine Safe.keep [3, 4, 6, 7, 8] ?_
          simp only [ES, E2, Nat.reduceLeDiff, Nat.reduceSub, Nat.reduceAdd, Nat.reduceEqDiff, reduceCtorEq, ↓reduceIte]
          exact hfin (by simp)
        · have hbody : Safe ⟨Pr, fun _ _ => false, F_ref01_Text, 50, [.tmp 2], H.length⟩ [.code (.block 3 (.seq (.region ref01_Text_r11 false) (.region ref01_Text_r12 false))), .code (.region ref01_Text_r13 false), .inLoop ref01_Text_l1, .inBlock 2, .code (.region ref01_Text_r14 false), .inBlock 1, .inLoop ref01_Text_l0, .inBlock 0, .code (.seq (.region ref01_Text_r15 false) (.ret))]
              [(3, natV (limbs (m / 1000000000))), (4, strU bs), (6, .int .u64 r), (7, strU cs), (8, .int .i64 k)] (hap H []) fun r' H' => r' = strU (dec n) ∧ ∃ L, H' = hap H L := by
            have hr9 : r < 4294967296 := Nat.lt_of_lt_of_le hr (Nat.le_trans (Nat.pow_le_pow_right (by decide) (show 9 - k ≤ 9 by omega)) (by decide))
            have hm10 : r % 10 < 10 := Nat.mod_lt _ (by decide)
            have hw48 : IntKind.wrap .u64 ((48 : Int) + ((r % 10 : Nat) : Int)) = (48 : Int) + ((r % 10 : Nat) : Int) := wrap_u64 (by omega) (by omega)
            have hb2s : b2sV (hap H []) (.sl 1 [.int .u8 ((dig (r % 10)).toNat : Int)]) = some (strU [dig (r % 10)]) := b2s_sl (hap H []) [dig (r % 10)]
            rw [digs_pos hv, grp_mod hk, grp_div hk, List.reverse_cons, List.append_assoc] at hinv2
            have hkw : IntKind.wrap .i64 ((k : Int) + 1) = ((k + 1 : Nat) : Int) := by rw [wrap_i64] <;> omega
            refine Safe.rg rfl ?_
            simp only [ref01_Text_r11, ES, rem_ten, hw48, dig_wrap _ hm10, hb2s, sadd_strU [dig (r % 10)] cs (by simp only [List.length_cons, List.length_nil]; omega), E2, Nat.reduceLeDiff, Nat.reduceSub, Nat.reduceAdd, Nat.reduceEqDiff, reduceCtorEq, ↓reduceIte]
            refine Safe.rg rfl ?_
            simp only [ref01_Text_r12, quo_ten .u64 (fun n h => wrapn_u64 (by omega)) r hr9, E2, Nat.reduceLeDiff, Nat.reduceSub, Nat.reduceAdd, Nat.reduceEqDiff, reduceCtorEq, ↓reduceIte]
            refine Safe.rg rfl ?_
            simp only [ref01_Text_r13, hkw, E2, Nat.reduceLeDiff, Nat.reduceSub, Nat.reduceAdd, Nat.reduceEqDiff, reduceCtorEq, ↓reduceIte]
            refine Safe.keep [3, 4, 6, 7, 8] ?_
            simp only [ES, E2, Nat.reduceLeDiff, Nat.reduceSub, Nat.reduceAdd, Nat.reduceEqDiff, reduceCtorEq, ↓reduceIte]
            exact ih2 (k + 1, r / 10, dig (r % 10) :: cs) ⟨by show k + 1 ≤ 9; omega, grp_lt hk hr, by rw [← hinv2]; rfl⟩ (by show 9 - (k + 1) < 9 - k; omega)
          by_cases hq : m / 1000000000 = 0
          · have hri : (r : Int) > 0 := by rw [hq] at hv; omega
            rw [hq] at hbody ⊢
            refine Safe.rg rfl ?_
            simp only [ref01_Text_r10, hki, limbs_no, hri, E2, Nat.reduceLeDiff, Nat.reduceSub, Nat.reduceAdd, Nat.reduceEqDiff, reduceCtorEq, ↓reduceIte]
            refine Safe.cd rfl ?_
            simp only [E2, Nat.reduceLeDiff, Nat.reduceSub, Nat.reduceAdd, Nat.reduceEqDiff, reduceCtorEq, ↓reduceIte]
            refine Safe.skip (Safe.seq ?_)
            refine Safe.keep [3, 4, 6, 7, 8] ?_
            simp only [ES, E2, Nat.reduceLeDiff, Nat.reduceSub, Nat.reduceAdd, Nat.reduceEqDiff, reduceCtorEq, ↓reduceIte]
            exact hbody
          · by_cases hr0 : r = 0
            · have hri : ¬ (r : Int) > 0 := by omega
              refine Safe.rg rfl ?_
              simp only [ref01_Text_r10, hki, limbs_yes hq, hri, E2, Nat.reduceLeDiff, Nat.reduceSub, Nat.reduceAdd, Nat.reduceEqDiff, reduceCtorEq, ↓reduceIte]
              refine Safe.cd rfl ?_
              simp only [E2, Nat.reduceLeDiff, Nat.reduceSub, Nat.reduceAdd, Nat.reduceEqDiff, reduceCtorEq, ↓reduceIte]
              refine Safe.skip (Safe.seq ?_)
              refine Safe.keep [3, 4, 6, 7, 8] ?_
              simp only [ES, E2, Nat.reduceLeDiff, Nat.reduceSub, Nat.reduceAdd, Nat.reduceEqDiff, reduceCtorEq, ↓reduceIte]
              exact hbody
            · have hri : (r : Int) > 0 := by omega
              refine Safe.rg rfl ?_
              simp only [ref01_Text_r10, hki, limbs_yes hq, hri, E2, Nat.reduceLeDiff, Nat.reduceSub, Nat.reduceAdd, Nat.reduceEqDiff, reduceCtorEq, ↓reduceIte]
              refine Safe.cd rfl ?_
              simp only [E2, Nat.reduceLeDiff, Nat.reduceSub, Nat.reduceAdd, Nat.reduceEqDiff, reduceCtorEq, ↓reduceIte]
              refine Safe.skip (Safe.seq ?_)
              refine Safe.keep [3, 4, 6, 7, 8] ?_
              simp only [ES, E2, Nat.reduceLeDiff, Nat.reduceSub, Nat.reduceAdd, Nat.reduceEqDiff, reduceCtorEq, ↓reduceIte]
              exact hbody
      · have hki : ¬ (k : Int) < 9 := by omega
        have hk' : k = 9 := by omega
        subst hk'
        have hr0 : r = 0 := by simpa using hr
        subst hr0
        refine Safe.rg rfl ?_
        simp only [ref01_Text_r10, hki, E2, Nat.reduceLeDiff, Nat.reduceSub, Nat.reduceAdd, Nat.reduceEqDiff, reduceCtorEq, ↓reduceIte]
        refine Safe.cd rfl ?_
        simp only [E2, Nat.reduceLeDiff, Nat.reduceSub, Nat.reduceAdd, Nat.reduceEqDiff, reduceCtorEq, ↓reduceIte]
        repeat (first | refine Safe.seq ?_ | refine Safe.skip ?_ | refine Safe.inBlock ?_ | refine Safe.block ?_ | refine Safe.exit rfl ?_)
        refine Safe.keep [3, 4, 6, 7, 8] ?_
        simp only [ES, E2, Nat.reduceLeDiff, Nat.reduceSub, Nat.reduceAdd, Nat.reduceEqDiff, reduceCtorEq, ↓reduceIte]
        exact hfin (by simp)

end Go.Abs

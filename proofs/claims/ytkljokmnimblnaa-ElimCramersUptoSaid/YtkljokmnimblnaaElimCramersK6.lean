/- Part 6 of the proof of ElimCramers: W9, W10, W11, W12, W13, W14, W15, W16, W17, W18. -/
import Derived.Test.YtkljokmnimblnaaElimCramersK5
set_option linter.unusedVariables false
set_option linter.unusedSimpArgs false
namespace Go.Abs
theorem digs_zero {n : Nat} (M : Nat) : (fl n fun j => if n ≤ j then dig M j else 0) = fl n fun _ => 0 := fl_congr fun i hi => if_neg (by omega)
theorem digs_step {n i : Nat} (M : Nat) : (fl n fun j => if j = i then dig M i else if i + 1 ≤ j then dig M j else 0) = fl n fun j => if i ≤ j then dig M j else 0 := fl_congr fun j _ => by
  by_cases h : j = i
  · subst h; rw [if_pos rfl, if_pos (Nat.le_refl _)]
  · rw [if_neg h]
    by_cases h2 : i + 1 ≤ j
    · rw [if_pos h2, if_pos (by omega)]
    · rw [if_neg h2, if_neg (by omega)]
theorem digs_all {n : Nat} (M : Nat) : (fl n fun j => if 0 ≤ j then dig M j else 0) = fl n (dig M) := fl_congr fun j _ => if_pos (Nat.zero_le _)
theorem div_lt_pow {A n d : Nat} (h : A < LB ^ n) : A / d < LB ^ n := Nat.lt_of_le_of_lt (Nat.div_le_self _ _) h
theorem short_pure (a : List Nat) (d : Nat) (ha : Nt a) (hd : 0 < d) (hd2 : d < LB) : PureC Pr F_nat_short [natV a, .int .u32 d] (.tup [natV (limbs (val a / d)), .int .u32 (val a % d : Nat)]) := by
  have hLB : LB = 4294967296 := rfl
  have hlen := ha.len
  have hv := val_lt ha.lim
  refine PureC.intro nat_short_fn nat_short_ok (Nat.le_of_ble_eq_true rfl) (cl_tup2 (natV_cl _) (.int _ _)) fun H hH => ?_
  refine Safe.rg rfl ?_
  simp only [nat_short_r0, E3, Nat.reduceLeDiff, Nat.reduceSub, Nat.reduceAdd, Nat.reduceEqDiff, reduceCtorEq, ↓reduceIte]
  refine Safe.rg rfl ?_
  simp only [nat_short_r1, mksl_fl (H := H) (L := []) (n := a.length) (by omega), E3, Nat.reduceLeDiff, Nat.reduceSub, Nat.reduceAdd, Nat.reduceEqDiff, reduceCtorEq, ↓reduceIte]
  refine Safe.rg rfl ?_
  simp only [nat_short_r2, E3, Nat.reduceLeDiff, Nat.reduceSub, Nat.reduceAdd, Nat.reduceEqDiff, reduceCtorEq, ↓reduceIte]
  refine Safe.rg rfl ?_
  simp only [nat_short_r3, wrap_i64 (n := (a.length : Int) - 1) (by omega) (by omega), E3, Nat.reduceLeDiff, Nat.reduceSub, Nat.reduceAdd, Nat.reduceEqDiff, reduceCtorEq, ↓reduceIte]
  refine Safe.lp rfl ?_
  refine Safe.keep [0, 1, 6, 7, 8] ?_
  simp only [E3, Nat.reduceLeDiff, Nat.reduceSub, Nat.reduceAdd, Nat.reduceEqDiff, reduceCtorEq, ↓reduceIte]
  refine Safe.loopD a.length (fun i => [(0, natV a), (1, .int .u32 d), (6, .mu (lid H 0) 0 a.length (some a.length)), (7, .int .u64 (val a / LB ^ i % d : Nat)), (8, .int .i64 ((i : Int) - 1))])
    (fun i => hap H [some ⟨1, u32s (fl a.length fun j => if i ≤ j then dig (val a / d) j else 0)⟩]) ?_ ?_ (fun i hi ih => ?_) ?_
  · rw [Nat.div_eq_of_lt hv]; rfl
  · rw [digs_zero]
  · have e1 : ((i + 1 : Nat) : Int) - 1 = (i : Int) := by omega
    rw [e1]
    refine Safe.inLoop ?_
    refine Safe.rg rfl ?_
    simp only [nat_short_r4, Int.natCast_nonneg i, E3, Nat.reduceLeDiff, Nat.reduceSub, Nat.reduceAdd, Nat.reduceEqDiff, reduceCtorEq, ↓reduceIte]
    refine Safe.cd rfl ?_
    simp only [E3, Nat.reduceLeDiff, Nat.reduceSub, Nat.reduceAdd, Nat.reduceEqDiff, reduceCtorEq, ↓reduceIte]
    have hr : val a / LB ^ (i + 1) % d < LB := Nat.lt_trans (Nat.mod_lt _ hd) hd2
    have hai : a.getD i 0 < LB := getD_lt ha.lim i
    refine Safe.rg rfl ?_
    simp only [nat_short_r5, natV_idx _ a _ i hi, shl32 hr, wrap64 (x := a.getD i 0) (by omega), wrap_or64 hr hai, E3, Nat.reduceLeDiff, Nat.reduceSub, Nat.reduceAdd, Nat.reduceEqDiff, reduceCtorEq, ↓reduceIte]
    rw [← dig_val ha.lim i]
    have hs := short_mod (val a) d i
    have hq := short_div (val a) d i
    have hb : val a / LB ^ (i + 1) % d * LB + dig (val a) i < 18446744073709551616 := by
      have := dig_lt (val a) i
      have : val a / LB ^ (i + 1) % d * LB ≤ 4294967295 * LB := Nat.mul_le_mul_right _ (by omega)
      omega
    refine Safe.rg rfl ?_
    simp only [nat_short_r6, wrap64 (x := d) (by omega), quo_nat hd hb, hq, wrap32 (dig_lt _ _), fidx0 hi, fst0 hi, E3, Nat.reduceLeDiff, Nat.reduceSub, Nat.reduceAdd, Nat.reduceEqDiff, reduceCtorEq, ↓reduceIte]
    refine Safe.rg rfl ?_
    simp only [nat_short_r7, wrap64 (x := d) (by omega), rem_nat hd, hs, E3, Nat.reduceLeDiff, Nat.reduceSub, Nat.reduceAdd, Nat.reduceEqDiff, reduceCtorEq, ↓reduceIte]
    refine Safe.rg rfl ?_
    simp only [nat_short_r8, wrap_i64 (n := (i : Int) - 1) (by omega) (by omega), E3, Nat.reduceLeDiff, Nat.reduceSub, Nat.reduceAdd, Nat.reduceEqDiff, reduceCtorEq, ↓reduceIte]
    refine Safe.keep [0, 1, 6, 7, 8] ?_
    simp only [E3, Nat.reduceLeDiff, Nat.reduceSub, Nat.reduceAdd, Nat.reduceEqDiff, reduceCtorEq, ↓reduceIte]
    rw [digs_step]
    exact ih
  · refine Safe.inLoop ?_
    refine Safe.rg rfl ?_
    simp only [nat_short_r4, show (0 ≤ ((0 : Nat) : Int) - 1) = False by simp, E3, Nat.reduceLeDiff, Nat.reduceSub, Nat.reduceAdd, Nat.reduceEqDiff, reduceCtorEq, ↓reduceIte]
    refine Safe.cd rfl ?_
    simp only [E3, Nat.reduceLeDiff, Nat.reduceSub, Nat.reduceAdd, Nat.reduceEqDiff, reduceCtorEq, ↓reduceIte]
    refine Safe.freeze 0 hH rfl rfl (blk_u32 _) ?_
    refine Safe.keep [6, 7] ?_
    simp only [frz_fl, E3, Nat.reduceLeDiff, Nat.reduceSub, Nat.reduceAdd, Nat.reduceEqDiff, reduceCtorEq, ↓reduceIte]
    rw [digs_all]
    have hr : val a % d < LB := Nat.lt_trans (Nat.mod_lt _ hd) hd2
    refine Safe.rg rfl ?_
    simp only [nat_short_r9, E3, Nat.reduceLeDiff, Nat.reduceSub, Nat.reduceAdd, Nat.reduceEqDiff, reduceCtorEq, ↓reduceIte]
    first | refine (trim_pure _ (lim_dig _ _) (by rw [fl_len]; exact hlen)).acall ?_ | refine (trim_pure _ (lim_dig _ _) (by rw [fl_len]; exact hlen)).dcall ?_
    try simp only [E3, Nat.reduceLeDiff, Nat.reduceSub, Nat.reduceAdd, Nat.reduceEqDiff, reduceCtorEq, ↓reduceIte]
    simp only [val_fl_all (div_lt_pow hv (d := d)), Nat.pow_zero, Nat.div_one, wrap32 hr, E3, Nat.reduceLeDiff, Nat.reduceSub, Nat.reduceAdd, Nat.reduceEqDiff, reduceCtorEq, ↓reduceIte]
    refine Safe.rt rfl ?_
    simp only [E3, Nat.reduceLeDiff, Nat.reduceSub, Nat.reduceAdd, Nat.reduceEqDiff, reduceCtorEq, ↓reduceIte]
    first | exact ⟨rfl, _, rfl⟩ | exact ⟨_, rfl⟩ | exact ⟨trivial, _, rfl⟩
theorem clz_pure (n : Nat) (h : n < LB) : PureC Pr F_math_bits_LeadingZeros32 [.int .u32 n] (.int .i64 ((32 - blen n : Nat) : Int)) := by
  have hLB : LB = 4294967296 := rfl
  have hb : blen n ≤ 32 := by
    rcases Nat.lt_or_ge 32 (blen n) with hc | hc
    · exfalso
      have h0 : n ≠ 0 := by rintro rfl; simp [blen_zero] at hc
      have := blen_ge h0
      have h2 : 2 ^ 32 ≤ 2 ^ (blen n - 1) := Nat.pow_le_pow_right (by decide) (by omega)
      have : (2 : Nat) ^ 32 = LB := by decide
      omega
    · exact hc
  refine PureC.intro math_bits_LeadingZeros32_fn math_bits_LeadingZeros32_ok (Nat.le_of_ble_eq_true rfl) (.int _ _) fun H hH => ?_
  refine Safe.rg rfl ?_
  simp only [math_bits_LeadingZeros32_r0, E3, Nat.reduceLeDiff, Nat.reduceSub, Nat.reduceAdd, Nat.reduceEqDiff, reduceCtorEq, ↓reduceIte]
  refine Safe.rg rfl ?_
  simp only [math_bits_LeadingZeros32_r1, E3, Nat.reduceLeDiff, Nat.reduceSub, Nat.reduceAdd, Nat.reduceEqDiff, reduceCtorEq, ↓reduceIte]
  first | refine (len32_pure n (by omega)).acall ?_ | refine (len32_pure n (by omega)).dcall ?_
  try simp only [E3, Nat.reduceLeDiff, Nat.reduceSub, Nat.reduceAdd, Nat.reduceEqDiff, reduceCtorEq, ↓reduceIte]
  have hw : IntKind.wrap .i64 ((32 : Int) - ((blen n : Nat) : Int)) = ((32 - blen n : Nat) : Int) := by rw [wrap_i64] <;> omega
  simp only [hw, E3, Nat.reduceLeDiff, Nat.reduceSub, Nat.reduceAdd, Nat.reduceEqDiff, reduceCtorEq, ↓reduceIte]
  refine Safe.rt rfl ?_
  simp only [E3, Nat.reduceLeDiff, Nat.reduceSub, Nat.reduceAdd, Nat.reduceEqDiff, reduceCtorEq, ↓reduceIte]
  first | exact ⟨rfl, _, rfl⟩ | exact ⟨_, rfl⟩ | exact ⟨trivial, _, rfl⟩
section
variable {H L : Heap} {id : Nat} {b : Blk}
theorem lrow (h : H[id]? = some (some b)) : hrow (hap H L) id = some b := by
  have hlt := lt_of_live h
  rw [hrow_old _ _ _ hlt]
  unfold hrow; rw [h]; rfl
theorem llen (h : H[id]? = some (some b)) (off len : Nat) (oc : Option Nat) : lenV (hap H L) (.mu id off len oc) = some (.int .i64 len) := by rw [lenV_mu, lrow h]; rfl
theorem lidx (h : H[id]? = some (some b)) {wd off len j : Nat} (hw : b.wd = wd) (oc : Option Nat) (k : IntKind) (hj : j < len) : idxV (hap H L) wd (.mu id off len oc) (.int k j) = some (.loc id (off + j) 0) := by
  rw [idxV_mu _ _ _ _ _ _ _ _ (by omega) (by omega), lrow h]; simp [hw]
theorem lat (h : H[id]? = some (some b)) {j : Nat} (hj : j < b.xs.length) : atV (hap H L) (.loc id j 0) = some (b.xs.getD j .top).cells := by rw [atV_loc, lrow h]; simp [hj]
theorem lslc (h : H[id]? = some (some b)) {wd off len n : Nat} (hw : b.wd = wd) (oc : Option Nat) (k : IntKind) (hn : n ≤ len) : slcV (hap H L) wd (.mu id off len oc) none (some (.int k n)) none = some (.mu id off n oc) := by
  simp only [slcV, lrow h, Option.bind_some, boundV]
  rw [if_pos ⟨hw, by omega, by omega, by omega⟩]
  cases oc <;> simp
theorem hap_get {i : Nat} (h : L[i]? = some (some b)) : (hap H L)[lid H i]? = some (some b) := by
  unfold hap lid
  rw [List.getElem?_append_right (by omega), Nat.add_sub_cancel_left]; exact h
end
theorem trim_mu (X : List Nat) (hX : Lim X) (hb : X.length ≤ 17592186044416) {H : Heap} {id : Nat} (h : H[id]? = some (some ⟨1, u32s X⟩)) (n : Nat) (hn : n = X.length) (oc : Option Nat) :
    ACalls Pr F_nat_trim [.mu id 0 n oc] H fun r' H' => r' = .mu id 0 (limbs (val X)).length oc ∧ H' = H := by
  subst hn
  have hid := lt_of_live h
  refine ACalls.eff nat_trim_fn nat_trim_ok (Nat.le_of_ble_eq_true rfl) fun hH => ?_
  have kk : ∀ k : Nat, k ≤ X.length → val (X.take k) = val X → Safe ⟨Pr, fun _ _ => false, F_nat_trim, 21, [.tmp 2], H.length⟩ [.inLoop nat_trim_l0, .inBlock 0, .code ((ACode.region nat_trim_r3 false).seq ACode.ret)] [(0, .mu id 0 k oc)] (hap H [])
      fun r' H' => ∃ H1 L, H' = hap H1 L ∧ H1.length = H.length ∧ HRefs H1 ∧ Ref (· < H.length) r' ∧ r' = .mu id 0 (limbs (val X)).length oc ∧ H1 = H := by
    have stop : ∀ (k : Nat) (env : Env), k ≤ X.length → val (X.take k) = val X → ((X.take k).getLast?).getD 1 ≠ 0 → look env 0 = .mu id 0 k oc → Safe ⟨Pr, fun _ _ => false, F_nat_trim, 21, [.tmp 2], H.length⟩ [.code ((ACode.region nat_trim_r3 false).seq ACode.ret)] env (hap H [])
        fun r' H' => ∃ H1 L, H' = hap H1 L ∧ H1.length = H.length ∧ HRefs H1 ∧ Ref (· < H.length) r' ∧ r' = .mu id 0 (limbs (val X)).length oc ∧ H1 = H := by
      intro k env hk hv hl h0
      refine Safe.rg rfl ?_
      simp only [nat_trim_r3, h0, E3, Nat.reduceLeDiff, Nat.reduceSub, Nat.reduceAdd, Nat.reduceEqDiff, reduceCtorEq, ↓reduceIte]
      refine Safe.rt rfl ?_
      simp only [E3, Nat.reduceLeDiff, Nat.reduceSub, Nat.reduceAdd, Nat.reduceEqDiff, reduceCtorEq, ↓reduceIte]
      refine ⟨H, [], rfl, rfl, hH, .mu _ _ _ _ hid, ?_, rfl⟩
      rw [← hv, limbs_val (hX.take k) hl, List.length_take, Nat.min_eq_left hk]
    intro k
    induction k with
    | zero =>
      intro hk hv
      refine Safe.inLoop ?_
      refine Safe.rg rfl ?_
      simp only [nat_trim_r1, llen h, show ((0 : Int) < ((0 : Nat) : Int)) = False by simp, E3, Nat.reduceLeDiff, Nat.reduceSub, Nat.reduceAdd, Nat.reduceEqDiff, reduceCtorEq, ↓reduceIte]
      refine Safe.cd rfl ?_
      simp only [E3, Nat.reduceLeDiff, Nat.reduceSub, Nat.reduceAdd, Nat.reduceEqDiff, reduceCtorEq, ↓reduceIte]
      refine Safe.exit rfl ?_
      exact stop 0 _ hk hv (by simp) (by simp only [E3, Nat.reduceLeDiff, Nat.reduceSub, Nat.reduceAdd, Nat.reduceEqDiff, reduceCtorEq, ↓reduceIte])
    | succ k ih =>
      intro hk hv
      refine Safe.inLoop ?_
      have hw : IntKind.i64.wrap (((k + 1 : Nat) : Int) - 1) = (k : Int) := by rw [wrap_i64] <;> omega
      have hp : (0 < ((k + 1 : Nat) : Int)) = True := eq_true (by omega)
      have hat := lat (L := []) h (j := k) (by rw [u32s_len]; omega)
      rw [u32s_getD (by omega)] at hat
      refine Safe.rg rfl ?_
      simp only [nat_trim_r1, llen h, hw, hp, lidx h rfl oc .i64 (Nat.lt_succ_self k), hat, E3, Nat.reduceLeDiff, Nat.reduceSub, Nat.reduceAdd, Nat.reduceEqDiff, reduceCtorEq, ↓reduceIte]
      have hlast : ((X.take (k + 1)).getLast?).getD 1 = X.getD k 0 := by rw [take_snoc (by omega)]; simp
      by_cases hd : X.getD k 0 = 0
      · have e : (((X.getD k 0 : Nat) : Int) = 0) = True := eq_true (by omega)
        refine Safe.cd rfl ?_
        simp only [e, E3, Nat.reduceLeDiff, Nat.reduceSub, Nat.reduceAdd, Nat.reduceEqDiff, reduceCtorEq, ↓reduceIte]
        refine Safe.rg rfl ?_
        simp only [nat_trim_r2, llen h, hw, lslc h rfl oc .i64 (Nat.le_succ k), E3, Nat.reduceLeDiff, Nat.reduceSub, Nat.reduceAdd, Nat.reduceEqDiff, reduceCtorEq, ↓reduceIte]
        refine Safe.inBlock ?_
        refine Safe.keep [0] ?_
        simp only [E3, Nat.reduceLeDiff, Nat.reduceSub, Nat.reduceAdd, Nat.reduceEqDiff, reduceCtorEq, ↓reduceIte]
        refine ih (by omega) ?_
        rw [← hv, val_take_getD, hd]; simp
      · have e : (((X.getD k 0 : Nat) : Int) = 0) = False := eq_false (by omega)
        refine Safe.cd rfl ?_
        simp only [e, E3, Nat.reduceLeDiff, Nat.reduceSub, Nat.reduceAdd, Nat.reduceEqDiff, reduceCtorEq, ↓reduceIte]
        refine Safe.exit rfl ?_
        exact stop (k + 1) _ hk hv (by rw [hlast]; exact hd) (by simp only [E3, Nat.reduceLeDiff, Nat.reduceSub, Nat.reduceAdd, Nat.reduceEqDiff, reduceCtorEq, ↓reduceIte])
  refine Safe.rg rfl ?_
  simp only [nat_trim_r0, E3, Nat.reduceLeDiff, Nat.reduceSub, Nat.reduceAdd, Nat.reduceEqDiff, reduceCtorEq, ↓reduceIte]
  refine Safe.lp rfl ?_
  refine Safe.keep [0] ?_
  simp only [E3, Nat.reduceLeDiff, Nat.reduceSub, Nat.reduceAdd, Nat.reduceEqDiff, reduceCtorEq, ↓reduceIte]
  exact kk X.length (Nat.le_refl _) (by rw [List.take_length])
theorem shl_step {l : List Nat} (hl : Lim l) {i n : Nat} (hi : i < l.length) (hn : n < 32) (j : Nat) :
    (if j = i + 1 then l.getD i 0 * 2 ^ n / LB else if j = i then l.getD i 0 % 2 ^ (32 - n) * 2 ^ n + dig (val (l.take i) * 2 ^ n) i else dig (val (l.take i) * 2 ^ n) j) = dig (val (l.take (i + 1)) * 2 ^ n) j := by
  have hLB : LB = 2 ^ (32 - n) * 2 ^ n := by rw [← Nat.pow_add, show 32 - n + n = 32 by omega]
  have hp : 0 < 2 ^ n := Nat.pow_pos (by decide)
  have hai := getD_lt hl i
  have hM := val_take_lt hl i
  rw [val_take_getD, Nat.add_mul]
  have e : LB ^ i * l.getD i 0 * 2 ^ n = LB ^ i * (l.getD i 0 * 2 ^ n) := Nat.mul_assoc _ _ _
  rw [e]
  generalize l.getD i 0 = a at *
  generalize hV : val (l.take i) = V at *
  have hy : V * 2 ^ n / LB ^ i < 2 ^ n := by
    rw [Nat.div_lt_iff_lt_mul (pow_pos' i), Nat.mul_comm]
    exact Nat.mul_lt_mul_of_pos_left hM hp
  have h2n : 2 ^ n ≤ LB := by rw [hLB]; exact Nat.le_mul_of_pos_left _ (Nat.pow_pos (by decide))
  have hmod : a * 2 ^ n % LB = a % 2 ^ (32 - n) * 2 ^ n := by rw [hLB, Nat.mul_mod_mul_right]
  have hx : a % 2 ^ (32 - n) * 2 ^ n + V * 2 ^ n / LB ^ i < LB := by
    have h1 : (a % 2 ^ (32 - n) + 1) * 2 ^ n ≤ 2 ^ (32 - n) * 2 ^ n := Nat.mul_le_mul_right _ (Nat.mod_lt _ (Nat.pow_pos (by decide)))
    rw [← hLB, Nat.add_mul] at h1
    omega
  have hs : (V * 2 ^ n + LB ^ i * (a * 2 ^ n)) / LB ^ i = V * 2 ^ n / LB ^ i + a * 2 ^ n := Nat.add_mul_div_left _ _ (pow_pos' i)
  have hdm := Nat.mod_add_div (a * 2 ^ n) LB
  rw [hmod] at hdm
  by_cases h1 : j = i + 1
  · rw [if_pos h1, h1]
    unfold dig
    rw [div_succ_pow, hs]
    have h3 : (V * 2 ^ n / LB ^ i + a * 2 ^ n) / LB = a * 2 ^ n / LB := by
      conv => lhs; rw [← hdm, ← Nat.add_assoc, Nat.add_mul_div_left _ _ (show 0 < LB by decide)]
      rw [Nat.div_eq_of_lt (by omega), Nat.zero_add]
    rw [h3, Nat.mod_eq_of_lt]
    rw [Nat.div_lt_iff_lt_mul (by decide)]
    exact Nat.lt_of_lt_of_le (Nat.mul_lt_mul_of_pos_right hai hp) (Nat.mul_le_mul_left _ h2n)
  · rw [if_neg h1]
    by_cases h2 : j = i
    · rw [if_pos h2, h2]
      have h5 : (V * 2 ^ n / LB ^ i + a * 2 ^ n) % LB = V * 2 ^ n / LB ^ i + a % 2 ^ (32 - n) * 2 ^ n := by
        have : V * 2 ^ n / LB ^ i + a * 2 ^ n = (V * 2 ^ n / LB ^ i + a % 2 ^ (32 - n) * 2 ^ n) + LB * (a * 2 ^ n / LB) := by omega
        rw [this, Nat.add_mul_mod_self_left, Nat.mod_eq_of_lt (by omega)]
      unfold dig
      rw [hs, h5, Nat.mod_eq_of_lt (show V * 2 ^ n / LB ^ i < LB by omega), Nat.add_comm]
    · rw [if_neg h2]
      rcases Nat.lt_or_ge j i with h3 | h3
      · exact (dig_add_mul _ h3).symm
      · have hbig : LB ^ (i + 1) * LB ≤ LB ^ j := by
          rw [← Nat.pow_succ]; exact Nat.pow_le_pow_right (by decide) (by omega)
        have hlow : V * 2 ^ n < LB ^ (i + 1) := by
          rw [Nat.pow_succ]
          exact Nat.lt_of_lt_of_le (Nat.mul_lt_mul_of_pos_right hM hp) (Nat.mul_le_mul_left _ h2n)
        have hall : V * 2 ^ n + LB ^ i * (a * 2 ^ n) < LB ^ (i + 1) * LB := by
          have q1 : V * 2 ^ n + LB ^ i * (a * 2 ^ n) = (V + LB ^ i * a) * 2 ^ n := by rw [Nat.add_mul, Nat.mul_assoc]
          have q2 : LB ^ i * (a + 1) ≤ LB ^ (i + 1) := by rw [Nat.pow_succ]; exact Nat.mul_le_mul_left _ hai
          rw [Nat.mul_add, Nat.mul_one] at q2
          rw [q1]
          exact Nat.lt_of_lt_of_le (Nat.mul_lt_mul_of_pos_right (show V + LB ^ i * a < LB ^ (i + 1) by omega) hp) (Nat.mul_le_mul_left _ h2n)
        have hL1 : LB ^ (i + 1) ≤ LB ^ (i + 1) * LB := Nat.le_mul_of_pos_right _ (by decide)
        rw [dig_high (by omega), dig_high (by omega)]
theorem ACalls.introH {P : Program} {mu : Nat → Nat → Bool} {f : FuncId} {fn : Func} (hf : P.funcs[f]? = some fn) {ac : ACode} {rs : List ResV} {nt : Nat} (hc : fchk P mu fn = some (ac, rs, nt))
    {args : List AV} {H : Heap} {R : AV → Heap → Prop} (ha : args.length ≤ nt) (h : HRefs H → Safe ⟨P, mu, f, nt, rs, H.length⟩ [.code ac] (envOf 0 args) (hap H []) R) : ACalls P f args H R := ACalls.intro hf hc ha fun hH => by
  have := h hH
  rw [hap_nil] at this
  exact this
theorem shl_calls (a : List Nat) (n : Nat) (ha : Nt a) (hal : a.length < 17592186044416) (hv : val a ≠ 0) (hn : n < 32) (H : Heap) : ACalls Pr F_nat_shl [natV a, .int .i64 n] H fun r' H' =>
    r' = .mu (lid H 0) 0 (limbs (val a * 2 ^ n)).length (some ((limbs (val a)).length + 1)) ∧ H' = hap H [some ⟨1, u32s (fl ((limbs (val a)).length + 1) (dig (val a * 2 ^ n)))⟩] := by
  have hlb : (limbs (val a)).length < 17592186044416 := Nat.lt_of_le_of_lt (limbs_val_len ha.lim) hal
  have hlim := lim_limbs (val a)
  have hval := val_limbs (val a)
  have hne : (limbs (val a)).length ≠ 0 := by
    intro h0
    have := List.length_eq_zero_iff.1 h0
    rw [this] at hval
    exact hv hval.symm
  have hLB : LB = 4294967296 := rfl
  refine ACalls.introH nat_shl_fn nat_shl_ok (Nat.le_of_ble_eq_true rfl) fun hH => ?_
  refine Safe.rg rfl ?_
  simp only [nat_shl_r0, E3, Nat.reduceLeDiff, Nat.reduceSub, Nat.reduceAdd, Nat.reduceEqDiff, reduceCtorEq, ↓reduceIte]
  refine Safe.rg rfl ?_
  simp only [nat_shl_r1, E3, Nat.reduceLeDiff, Nat.reduceSub, Nat.reduceAdd, Nat.reduceEqDiff, reduceCtorEq, ↓reduceIte]
  first | refine (trim_pure a ha.lim ha.len).acall ?_ | refine (trim_pure a ha.lim ha.len).dcall ?_
  try simp only [E3, Nat.reduceLeDiff, Nat.reduceSub, Nat.reduceAdd, Nat.reduceEqDiff, reduceCtorEq, ↓reduceIte]
  generalize limbs (val a) = l at *
  generalize val a = A at *
  subst hval
  have h0 : ((l.length : Int) = 0) = False := eq_false (by omega)
  refine Safe.rg rfl ?_
  simp only [nat_shl_r2, h0, E3, Nat.reduceLeDiff, Nat.reduceSub, Nat.reduceAdd, Nat.reduceEqDiff, reduceCtorEq, ↓reduceIte]
  refine Safe.cd rfl ?_
  simp only [E3, Nat.reduceLeDiff, Nat.reduceSub, Nat.reduceAdd, Nat.reduceEqDiff, reduceCtorEq, ↓reduceIte]
  have hq : binV .quo (.int .i64 (n : Int)) (.int .i64 32) = some (.int .i64 0) := by
    have := quo_i (x := n) (y := 32) (by decide) (by omega)
    rw [Nat.div_eq_of_lt hn] at this; exact this
  have hr : binV .rem (.int .i64 (n : Int)) (.int .i64 32) = some (.int .i64 (n : Int)) := by
    have := rem_i (x := n) (y := 32) (by decide)
    rw [Nat.mod_eq_of_lt hn] at this; exact this
  refine Safe.rg rfl ?_
  simp only [nat_shl_r4, hq, hr, wrap64 (x := n) (by omega), E3, Nat.reduceLeDiff, Nat.reduceSub, Nat.reduceAdd, Nat.reduceEqDiff, reduceCtorEq, ↓reduceIte]
  have w1 : IntKind.wrap .i64 ((l.length : Int) + 0) = (l.length : Int) := by rw [Int.add_zero]; exact wrap63 (by omega)
  have w2 : IntKind.wrap .i64 ((l.length : Int) + 1) = ((l.length + 1 : Nat) : Int) := by rw [wrap_i64] <;> omega
  refine Safe.rg rfl ?_
  simp only [nat_shl_r5, w1, w2, mksl_fl (H := H) (L := []) (n := l.length + 1) (by omega), E3, Nat.reduceLeDiff, Nat.reduceSub, Nat.reduceAdd, Nat.reduceEqDiff, reduceCtorEq, ↓reduceIte]
  refine Safe.rg rfl ?_
  simp only [nat_shl_r6, E3, Nat.reduceLeDiff, Nat.reduceSub, Nat.reduceAdd, Nat.reduceEqDiff, reduceCtorEq, ↓reduceIte]
  refine Safe.lp rfl ?_
  refine Safe.keep [0, 5, 6, 7, 27, 28] ?_
  simp only [E3, Nat.reduceLeDiff, Nat.reduceSub, Nat.reduceAdd, Nat.reduceEqDiff, reduceCtorEq, ↓reduceIte]
  refine Safe.loopN l.length (fun i => [(0, natV l), (5, .int .i64 0), (6, .int .u64 (n : Int)), (7, .mu (lid H 0) 0 (l.length + 1) (some (l.length + 1))), (27, .int .i64 l.length), (28, .int .i64 i)])
    (fun i => hap H [some ⟨1, u32s (fl (l.length + 1) (dig (val (l.take i) * 2 ^ n)))⟩]) rfl ?_ (fun i hi ih => ?_) ?_
  · congr 5
    refine fl_congr fun j _ => ?_
    simp [dig, val]
  · have hlt : ((i : Int) < (l.length : Int)) = True := eq_true (by omega)
    refine Safe.inLoop ?_
    refine Safe.rg rfl ?_
    simp only [nat_shl_r7, hlt, E3, Nat.reduceLeDiff, Nat.reduceSub, Nat.reduceAdd, Nat.reduceEqDiff, reduceCtorEq, ↓reduceIte]
    refine Safe.cd rfl ?_
    simp only [E3, Nat.reduceLeDiff, Nat.reduceSub, Nat.reduceAdd, Nat.reduceEqDiff, reduceCtorEq, ↓reduceIte]
    have hai := getD_lt hlim i
    refine Safe.rg rfl ?_
    simp only [nat_shl_r8, E3, Nat.reduceLeDiff, Nat.reduceSub, Nat.reduceAdd, Nat.reduceEqDiff, reduceCtorEq, ↓reduceIte]
    refine Safe.rg rfl ?_
    simp only [nat_shl_r9, natV_idx _ l _ i hi, wrap64 (x := l.getD i 0) (by omega), shl64 hai (show n < 33 by omega), E3, Nat.reduceLeDiff, Nat.reduceSub, Nat.reduceAdd, Nat.reduceEqDiff, reduceCtorEq, ↓reduceIte]
    have w3 : IntKind.wrap .i64 ((i : Int) + 0) = (i : Int) := by rw [Int.add_zero]; exact wrap63 (by omega)
    have w4 : IntKind.wrap .i64 ((i : Int) + 1) = ((i + 1 : Nat) : Int) := by rw [wrap_i64] <;> omega
    have hLB2 : LB = 2 ^ (32 - n) * 2 ^ n := by rw [← Nat.pow_add, show 32 - n + n = 32 by omega]
    have w5 : IntKind.wrap .u32 ((l.getD i 0 * 2 ^ n : Nat) : Int) = ((l.getD i 0 % 2 ^ (32 - n) * 2 ^ n : Nat) : Int) := by
      rw [wrap_u32_mod]; congr 1
      rw [hLB2, Nat.mul_mod_mul_right]
    have hy : dig (val (l.take i) * 2 ^ n) i < 2 ^ n := by
      unfold dig
      refine Nat.lt_of_le_of_lt (Nat.mod_le _ _) ?_
      rw [Nat.div_lt_iff_lt_mul (pow_pos' i), Nat.mul_comm]
      exact Nat.mul_lt_mul_of_pos_left (val_take_lt hlim i) (Nat.pow_pos (by decide))
    have w6 := wrap_or32 (x := l.getD i 0 % 2 ^ (32 - n)) n (Nat.mod_lt _ (Nat.pow_pos (by decide))) (by omega) hy
    refine Safe.rg rfl ?_
    simp only [nat_shl_r10, w3, fidx0 (show i < l.length + 1 by omega), fat0 (show i < l.length + 1 by omega), w5, w6, fst0 (show i < l.length + 1 by omega), E3, Nat.reduceLeDiff, Nat.reduceSub, Nat.reduceAdd, Nat.reduceEqDiff, reduceCtorEq, ↓reduceIte]
    have hq2 : l.getD i 0 * 2 ^ n / LB < LB := by
      rw [Nat.div_lt_iff_lt_mul (by decide)]
      have h2n : 2 ^ n ≤ LB := by rw [hLB2]; exact Nat.le_mul_of_pos_left _ (Nat.pow_pos (by decide))
      exact Nat.lt_of_lt_of_le (Nat.mul_lt_mul_of_pos_right hai (Nat.pow_pos (by decide))) (Nat.mul_le_mul_left _ h2n)
    refine Safe.rg rfl ?_
    simp only [nat_shl_r11, w3, w4, shr_32, wrap32 hq2, fidx0 (show i + 1 < l.length + 1 by omega), fst0 (show i + 1 < l.length + 1 by omega), E3, Nat.reduceLeDiff, Nat.reduceSub, Nat.reduceAdd, Nat.reduceEqDiff, reduceCtorEq, ↓reduceIte]
    refine Safe.rg rfl ?_
    simp only [nat_shl_r12, w4, E3, Nat.reduceLeDiff, Nat.reduceSub, Nat.reduceAdd, Nat.reduceEqDiff, reduceCtorEq, ↓reduceIte]
    refine Safe.keep [0, 5, 6, 7, 27, 28] ?_
    simp only [E3, Nat.reduceLeDiff, Nat.reduceSub, Nat.reduceAdd, Nat.reduceEqDiff, reduceCtorEq, ↓reduceIte]
    rw [fl_congr fun j _ => shl_step hlim hi hn j]
    exact ih
  · refine Safe.inLoop ?_
    refine Safe.rg rfl ?_
    simp only [nat_shl_r7, Int.lt_irrefl, E3, Nat.reduceLeDiff, Nat.reduceSub, Nat.reduceAdd, Nat.reduceEqDiff, reduceCtorEq, ↓reduceIte]
    refine Safe.cd rfl ?_
    simp only [E3, Nat.reduceLeDiff, Nat.reduceSub, Nat.reduceAdd, Nat.reduceEqDiff, reduceCtorEq, ↓reduceIte]
    rw [List.take_length]
    refine Safe.rg rfl ?_
    simp only [nat_shl_r13, E3, Nat.reduceLeDiff, Nat.reduceSub, Nat.reduceAdd, Nat.reduceEqDiff, reduceCtorEq, ↓reduceIte]
    have hb : val l * 2 ^ n < LB ^ (l.length + 1) := by
      rw [Nat.pow_succ]
      have h2n : 2 ^ n ≤ LB := by
        have : LB = 2 ^ (32 - n) * 2 ^ n := by rw [← Nat.pow_add, show 32 - n + n = 32 by omega]
        rw [this]; exact Nat.le_mul_of_pos_left _ (Nat.pow_pos (by decide))
      exact Nat.lt_of_lt_of_le (Nat.mul_lt_mul_of_pos_right (val_lt hlim) (Nat.pow_pos (by decide))) (Nat.mul_le_mul_left _ h2n)
    refine ACalls.mono (trim_mu _ (lim_dig _ _) (by rw [fl_len]; omega) (hap_get rfl) (l.length + 1) (fl_len _ _).symm (some (l.length + 1))) ?_
    rintro r' H' ⟨rfl, rfl⟩
    rw [val_fl_all hb]
    simp only [E3, Nat.reduceLeDiff, Nat.reduceSub, Nat.reduceAdd, Nat.reduceEqDiff, reduceCtorEq, ↓reduceIte]
    refine Safe.rt rfl ?_
    simp only [E3, Nat.reduceLeDiff, Nat.reduceSub, Nat.reduceAdd, Nat.reduceEqDiff, reduceCtorEq, ↓reduceIte]
theorem val_drop_succ (l : List Nat) (i : Nat) : val (l.drop i) = l.getD i 0 + LB * val (l.drop (i + 1)) := by
  rcases Nat.lt_or_ge i l.length with h | h
  · rw [List.drop_eq_getElem_cons h, List.getD_eq_getElem?_getD, List.getElem?_eq_getElem h]; rfl
  · rw [List.drop_eq_nil_of_le h, List.drop_eq_nil_of_le (by omega), getD_out h]; rfl
theorem val_div_pow {l : List Nat} (hl : Lim l) (i : Nat) : val l / LB ^ i = val (l.drop i) := by
  rw [val_split l i, Nat.add_mul_div_left _ _ (pow_pos' i), Nat.div_eq_of_lt (val_take_lt hl i), Nat.zero_add]
theorem shr_step {l : List Nat} (hl : Lim l) (i : Nat) {n : Nat} (hn : n < 32) : (l.getD (i + 1) 0 * LB + l.getD i 0) / 2 ^ n % LB = dig (val l / 2 ^ n) i := by
  have hLB : LB = 2 ^ (32 - n) * 2 ^ n := by rw [← Nat.pow_add, show 32 - n + n = 32 by omega]
  unfold dig
  rw [Nat.div_div_eq_div_mul, Nat.mul_comm (2 ^ n), ← Nat.div_div_eq_div_mul, val_div_pow hl, val_drop_succ, val_drop_succ l (i + 1)]
  have e : l.getD i 0 + LB * (l.getD (i + 1) 0 + LB * val (l.drop (i + 1 + 1))) = (l.getD (i + 1) 0 * LB + l.getD i 0) + 2 ^ n * (LB * (2 ^ (32 - n) * val (l.drop (i + 1 + 1)))) := by
    have h1 : LB * (LB * val (l.drop (i + 1 + 1))) = 2 ^ n * (LB * (2 ^ (32 - n) * val (l.drop (i + 1 + 1)))) := by
      conv => lhs; rw [Nat.mul_left_comm]; lhs; rw [hLB]
      rw [Nat.mul_comm (2 ^ (32 - n)), Nat.mul_assoc]
      congr 1
      rw [Nat.mul_left_comm]
    rw [Nat.mul_add, h1, Nat.mul_comm LB (l.getD (i + 1) 0)]
    omega
  rw [e, Nat.add_mul_div_left _ _ (Nat.pow_pos (by decide)), Nat.add_mul_mod_self_left]
theorem shr_pure (a : List Nat) (n : Nat) (ha : Nt a) (hn : n < 32) : PureC Pr F_nat_shr [natV a, .int .i64 n] (natV (limbs (val a / 2 ^ n))) := by
  have hlb := ha.limbs.len
  have hlim := lim_limbs (val a)
  have hval := val_limbs (val a)
  have hLB : LB = 4294967296 := rfl
  refine PureC.introL nat_shr_fn nat_shr_ok (Nat.le_of_ble_eq_true rfl) (natV_cl _) fun H hH => ?_
  refine Safe.rg rfl ?_
  simp only [nat_shr_r0, E3, Nat.reduceLeDiff, Nat.reduceSub, Nat.reduceAdd, Nat.reduceEqDiff, reduceCtorEq, ↓reduceIte]
  refine Safe.rg rfl ?_
  simp only [nat_shr_r1, E3, Nat.reduceLeDiff, Nat.reduceSub, Nat.reduceAdd, Nat.reduceEqDiff, reduceCtorEq, ↓reduceIte]
  first | refine (trim_pure a ha.lim ha.len).acall ?_ | refine (trim_pure a ha.lim ha.len).dcall ?_
  try simp only [E3, Nat.reduceLeDiff, Nat.reduceSub, Nat.reduceAdd, Nat.reduceEqDiff, reduceCtorEq, ↓reduceIte]
  generalize limbs (val a) = l at *
  generalize val a = A at *
  subst hval
  have hq : binV .quo (.int .i64 (n : Int)) (.int .i64 32) = some (.int .i64 0) := by
    have := quo_i (x := n) (y := 32) (by decide) (by omega)
    rw [Nat.div_eq_of_lt hn] at this; exact this
  have hr : binV .rem (.int .i64 (n : Int)) (.int .i64 32) = some (.int .i64 (n : Int)) := by
    have := rem_i (x := n) (y := 32) (by decide)
    rw [Nat.mod_eq_of_lt hn] at this; exact this
  refine Safe.rg rfl ?_
  simp only [nat_shr_r2, hq, hr, wrap64 (x := n) (by omega), E3, Nat.reduceLeDiff, Nat.reduceSub, Nat.reduceAdd, Nat.reduceEqDiff, reduceCtorEq, ↓reduceIte]
  by_cases h0 : l.length = 0
  · have hc : ((l.length : Int) ≤ 0) = True := eq_true (by omega)
    refine Safe.rg rfl ?_
    simp only [nat_shr_r3, hc, E3, Nat.reduceLeDiff, Nat.reduceSub, Nat.reduceAdd, Nat.reduceEqDiff, reduceCtorEq, ↓reduceIte]
    refine Safe.cd rfl ?_
    simp only [E3, Nat.reduceLeDiff, Nat.reduceSub, Nat.reduceAdd, Nat.reduceEqDiff, reduceCtorEq, ↓reduceIte]
    refine Safe.rg rfl ?_
    simp only [nat_shr_r4, E3, Nat.reduceLeDiff, Nat.reduceSub, Nat.reduceAdd, Nat.reduceEqDiff, reduceCtorEq, ↓reduceIte]
    have : l = [] := List.length_eq_zero_iff.1 h0
    subst this
    refine Safe.rt rfl ?_
    simp only [E3, Nat.reduceLeDiff, Nat.reduceSub, Nat.reduceAdd, Nat.reduceEqDiff, reduceCtorEq, ↓reduceIte]
    refine ⟨?_, [], rfl⟩
    have : limbs (val [] / 2 ^ n) = [] := by simp [val, limbs_zero]
    rw [this]
    exact Le.nil 1 (by decide)
  · have hc : ((l.length : Int) ≤ 0) = False := eq_false (by omega)
    refine Safe.rg rfl ?_
    simp only [nat_shr_r3, hc, E3, Nat.reduceLeDiff, Nat.reduceSub, Nat.reduceAdd, Nat.reduceEqDiff, reduceCtorEq, ↓reduceIte]
    refine Safe.cd rfl ?_
    simp only [E3, Nat.reduceLeDiff, Nat.reduceSub, Nat.reduceAdd, Nat.reduceEqDiff, reduceCtorEq, ↓reduceIte]
    have w1 : IntKind.wrap .i64 ((l.length : Int) - 0) = (l.length : Int) := by rw [Int.sub_zero]; exact wrap63 (by omega)
    refine Safe.rg rfl ?_
    simp only [nat_shr_r5, w1, mksl_fl (H := H) (L := []) (n := l.length) (by omega), E3, Nat.reduceLeDiff, Nat.reduceSub, Nat.reduceAdd, Nat.reduceEqDiff, reduceCtorEq, ↓reduceIte]
    refine Safe.rg rfl ?_
    simp only [nat_shr_r6, one_len, E3, Nat.reduceLeDiff, Nat.reduceSub, Nat.reduceAdd, Nat.reduceEqDiff, reduceCtorEq, ↓reduceIte]
    refine Safe.lp rfl ?_
    refine Safe.keep [0, 5, 6, 7, 27, 28] ?_
    simp only [E3, Nat.reduceLeDiff, Nat.reduceSub, Nat.reduceAdd, Nat.reduceEqDiff, reduceCtorEq, ↓reduceIte]
    refine Safe.loopN l.length (fun i => [(0, natV l), (5, .int .i64 0), (6, .int .u64 (n : Int)), (7, .mu (lid H 0) 0 l.length (some l.length)), (27, .int .i64 l.length), (28, .int .i64 i)])
      (fun i => hap H [some ⟨1, u32s (fl l.length fun j => if j < i then dig (val l / 2 ^ n) j else 0)⟩]) rfl ?_ (fun i hi ih => ?_) ?_
    · congr 5
    · have hlt : ((i : Int) < (l.length : Int)) = True := eq_true (by omega)
      refine Safe.inLoop ?_
      refine Safe.rg rfl ?_
      simp only [nat_shr_r7, hlt, E3, Nat.reduceLeDiff, Nat.reduceSub, Nat.reduceAdd, Nat.reduceEqDiff, reduceCtorEq, ↓reduceIte]
      refine Safe.cd rfl ?_
      simp only [E3, Nat.reduceLeDiff, Nat.reduceSub, Nat.reduceAdd, Nat.reduceEqDiff, reduceCtorEq, ↓reduceIte]
      have hai := getD_lt hlim i
      have hai1 := getD_lt hlim (i + 1)
      have w3 : IntKind.wrap .i64 ((i : Int) + 0) = (i : Int) := by rw [Int.add_zero]; exact wrap63 (by omega)
      have w4 : IntKind.wrap .i64 ((i : Int) + 1) = ((i + 1 : Nat) : Int) := by rw [wrap_i64] <;> omega
      refine Safe.rg rfl ?_
      simp only [nat_shr_r8, E3, Nat.reduceLeDiff, Nat.reduceSub, Nat.reduceAdd, Nat.reduceEqDiff, reduceCtorEq, ↓reduceIte]
      refine Safe.rg rfl ?_
      simp only [nat_shr_r9, natV_idx _ l _ i hi, wrap64 (x := l.getD i 0) (by omega), w3, E3, Nat.reduceLeDiff, Nat.reduceSub, Nat.reduceAdd, Nat.reduceEqDiff, reduceCtorEq, ↓reduceIte]
      have rest : ∀ env : Env, look env 0 = natV l → look env 5 = .int .i64 0 → look env 6 = .int .u64 (n : Int) → look env 7 = .mu (lid H 0) 0 l.length (some l.length) → look env 27 = .int .i64 l.length → look env 28 = .int .i64 i → look env 8 = .int .i64 i →
          look env 9 = .int .u64 (l.getD (i + 1) 0 * LB + l.getD i 0 : Nat) → Safe ⟨Pr, fun _ _ => false, F_nat_shr, 66, [.tmp 4], H.length⟩ [.code (.region nat_shr_r12 false), .inBlock 1, .code (.region nat_shr_r13 false), .inLoop nat_shr_l0, .inBlock 0, .code ((ACode.region nat_shr_r14 false).seq .ret)]
            env (hap H [some ⟨1, u32s (fl l.length fun j => if j < i then dig (val l / 2 ^ n) j else 0)⟩]) fun r' H' => Le r' (natV (limbs (val l / 2 ^ n))) ∧ ∃ L, H' = hap H L := by
        intro env e0 e5 e6 e7 e27 e28 e8 e9
        have w5 := wrap_u32_mod ((l.getD (i + 1) 0 * LB + l.getD i 0) / 2 ^ n)
        rw [shr_step hlim i hn] at w5
        refine Safe.rg rfl ?_
        simp only [nat_shr_r12, e7, e8, e9, e6, shr64 (show n ≤ 64 by omega), w5, fidx0 hi, fst0 hi, E3, Nat.reduceLeDiff, Nat.reduceSub, Nat.reduceAdd, Nat.reduceEqDiff, reduceCtorEq, ↓reduceIte]
        refine Safe.inBlock ?_
        refine Safe.rg rfl ?_
        simp only [nat_shr_r13, e28, w4, E3, Nat.reduceLeDiff, Nat.reduceSub, Nat.reduceAdd, Nat.reduceEqDiff, reduceCtorEq, ↓reduceIte]
        refine Safe.keep [0, 5, 6, 7, 27, 28] ?_
        simp only [E3, Nat.reduceLeDiff, Nat.reduceSub, Nat.reduceAdd, Nat.reduceEqDiff, reduceCtorEq, ↓reduceIte]
        simp only [e0, e5, e6, e7, e27]
        rw [show (fl l.length fun j => if j = i then dig (val l / 2 ^ n) i else if j < i then dig (val l / 2 ^ n) j else 0) = fl l.length fun j => if j < i + 1 then dig (val l / 2 ^ n) j else 0 from fl_congr fun j _ => by
          by_cases h : j = i
          · subst h; rw [if_pos rfl, if_pos (by omega)]
          · rw [if_neg h]
            by_cases h2 : j < i
            · rw [if_pos h2, if_pos (by omega)]
            · rw [if_neg h2, if_neg (by omega)]]
        exact ih
      by_cases h1 : i + 1 < l.length
      · have hlt1 : (((i + 1 : Nat) : Int) < (l.length : Int)) = True := eq_true (by omega)
        refine Safe.rg rfl ?_
        simp only [nat_shr_r10, w3, w4, hlt1, E3, Nat.reduceLeDiff, Nat.reduceSub, Nat.reduceAdd, Nat.reduceEqDiff, reduceCtorEq, ↓reduceIte]
        refine Safe.cd rfl ?_
        simp only [E3, Nat.reduceLeDiff, Nat.reduceSub, Nat.reduceAdd, Nat.reduceEqDiff, reduceCtorEq, ↓reduceIte]
        refine Safe.rg rfl ?_
        simp only [nat_shr_r11, w3, w4, natV_idx _ l _ (i + 1) h1, wrap64 (x := l.getD (i + 1) 0) (by omega), shl32 hai1, wrap_or64' hai1 hai, E3, Nat.reduceLeDiff, Nat.reduceSub, Nat.reduceAdd, Nat.reduceEqDiff, reduceCtorEq, ↓reduceIte]
        exact rest _ (by simp only [E3, Nat.reduceLeDiff, Nat.reduceSub, Nat.reduceAdd, Nat.reduceEqDiff, reduceCtorEq, ↓reduceIte]) (by simp only [E3, Nat.reduceLeDiff, Nat.reduceSub, Nat.reduceAdd, Nat.reduceEqDiff, reduceCtorEq, ↓reduceIte]) (by simp only [E3, Nat.reduceLeDiff, Nat.reduceSub, Nat.reduceAdd, Nat.reduceEqDiff, reduceCtorEq, ↓reduceIte]) (by simp only [E3, Nat.reduceLeDiff, Nat.reduceSub, Nat.reduceAdd, Nat.reduceEqDiff, reduceCtorEq, ↓reduceIte]) (by simp only [E3, Nat.reduceLeDiff, Nat.reduceSub, Nat.reduceAdd, Nat.reduceEqDiff, reduceCtorEq, ↓reduceIte]) (by simp only [E3, Nat.reduceLeDiff, Nat.reduceSub, Nat.reduceAdd, Nat.reduceEqDiff, reduceCtorEq, ↓reduceIte]) (by simp only [E3, Nat.reduceLeDiff, Nat.reduceSub, Nat.reduceAdd, Nat.reduceEqDiff, reduceCtorEq, ↓reduceIte]) (by simp only [E3, Nat.reduceLeDiff, Nat.reduceSub, Nat.reduceAdd, Nat.reduceEqDiff, reduceCtorEq, ↓reduceIte])
      · have hlt1 : (((i + 1 : Nat) : Int) < (l.length : Int)) = False := eq_false (by omega)
        refine Safe.rg rfl ?_
        simp only [nat_shr_r10, w3, w4, hlt1, E3, Nat.reduceLeDiff, Nat.reduceSub, Nat.reduceAdd, Nat.reduceEqDiff, reduceCtorEq, ↓reduceIte]
        refine Safe.cd rfl ?_
        simp only [E3, Nat.reduceLeDiff, Nat.reduceSub, Nat.reduceAdd, Nat.reduceEqDiff, reduceCtorEq, ↓reduceIte]
        have hz : l.getD (i + 1) 0 * LB + l.getD i 0 = l.getD i 0 := by rw [getD_out (a := l) (i := i + 1) (by omega)]; omega
        refine Safe.skip (rest _ (by simp only [E3, Nat.reduceLeDiff, Nat.reduceSub, Nat.reduceAdd, Nat.reduceEqDiff, reduceCtorEq, ↓reduceIte]) (by simp only [E3, Nat.reduceLeDiff, Nat.reduceSub, Nat.reduceAdd, Nat.reduceEqDiff, reduceCtorEq, ↓reduceIte]) (by simp only [E3, Nat.reduceLeDiff, Nat.reduceSub, Nat.reduceAdd, Nat.reduceEqDiff, reduceCtorEq, ↓reduceIte]) (by simp only [E3, Nat.reduceLeDiff, Nat.reduceSub, Nat.reduceAdd, Nat.reduceEqDiff, reduceCtorEq, ↓reduceIte]) (by simp only [E3, Nat.reduceLeDiff, Nat.reduceSub, Nat.reduceAdd, Nat.reduceEqDiff, reduceCtorEq, ↓reduceIte]) (by simp only [E3, Nat.reduceLeDiff, Nat.reduceSub, Nat.reduceAdd, Nat.reduceEqDiff, reduceCtorEq, ↓reduceIte]) (by simp only [E3, Nat.reduceLeDiff, Nat.reduceSub, Nat.reduceAdd, Nat.reduceEqDiff, reduceCtorEq, ↓reduceIte]) (by rw [hz]; simp only [E3, Nat.reduceLeDiff, Nat.reduceSub, Nat.reduceAdd, Nat.reduceEqDiff, reduceCtorEq, ↓reduceIte]))
    · refine Safe.inLoop ?_
      refine Safe.rg rfl ?_
      simp only [nat_shr_r7, Int.lt_irrefl, E3, Nat.reduceLeDiff, Nat.reduceSub, Nat.reduceAdd, Nat.reduceEqDiff, reduceCtorEq, ↓reduceIte]
      refine Safe.cd rfl ?_
      simp only [E3, Nat.reduceLeDiff, Nat.reduceSub, Nat.reduceAdd, Nat.reduceEqDiff, reduceCtorEq, ↓reduceIte]
      refine Safe.freeze 0 hH rfl rfl (blk_u32 _) ?_
      refine Safe.keep [7] ?_
      simp only [frz_fl, E3, Nat.reduceLeDiff, Nat.reduceSub, Nat.reduceAdd, Nat.reduceEqDiff, reduceCtorEq, ↓reduceIte]
      rw [show (fl l.length fun j => if j < l.length then dig (val l / 2 ^ n) j else 0) = fl l.length (dig (val l / 2 ^ n)) from fl_congr fun j hj => if_pos hj]
      refine Safe.rg rfl ?_
      simp only [nat_shr_r14, E3, Nat.reduceLeDiff, Nat.reduceSub, Nat.reduceAdd, Nat.reduceEqDiff, reduceCtorEq, ↓reduceIte]
      first | refine (trim_pure _ (lim_dig _ _) (by rw [fl_len]; omega)).acall ?_ | refine (trim_pure _ (lim_dig _ _) (by rw [fl_len]; omega)).dcall ?_
      try simp only [E3, Nat.reduceLeDiff, Nat.reduceSub, Nat.reduceAdd, Nat.reduceEqDiff, reduceCtorEq, ↓reduceIte]
      simp only [val_fl_all (div_lt_pow (val_lt hlim) (d := 2 ^ n)), E3, Nat.reduceLeDiff, Nat.reduceSub, Nat.reduceAdd, Nat.reduceEqDiff, reduceCtorEq, ↓reduceIte]
      refine Safe.rt rfl ?_
      simp only [E3, Nat.reduceLeDiff, Nat.reduceSub, Nat.reduceAdd, Nat.reduceEqDiff, reduceCtorEq, ↓reduceIte]
      exact ⟨Le.refl _, _, rfl⟩
def xr (g : Nat → Nat) (off : Nat) (x : List Nat) : Nat → Nat := fun j => if off ≤ j ∧ j < off + x.length then x.getD (j - off) 0 else g j
section
variable {g : Nat → Nat} {off N : Nat} {x y : List Nat}
theorem xr_nil : xr g off [] = g := by funext j; unfold xr; rw [if_neg (by simp)]
theorem xr_snoc (d : Nat) : (fun j => if j = off + x.length then d else xr g off x j) = xr g off (x ++ [d]) := by
  funext j; unfold xr
  rw [List.length_append, List.length_singleton]
  by_cases h : j = off + x.length
  · subst h; rw [if_pos rfl, if_pos (by omega), Nat.add_sub_cancel_left]; simp
  · rw [if_neg h]
    by_cases h2 : off ≤ j ∧ j < off + x.length
    · rw [if_pos h2, if_pos (by omega)]
      simp only [List.getD_eq_getElem?_getD]
      rw [List.getElem?_append_left (by omega)]
    · rw [if_neg h2, if_neg (by omega)]
theorem xr_at : xr g off x (off + x.length) = g (off + x.length) := by unfold xr; rw [if_neg (by omega)]
theorem xr_lt (hg : ∀ i, i < N → g i < LB) (hx : Lim x) : ∀ i, i < N → xr g off x i < LB := by
  intro i hi; unfold xr; split
  · exact getD_lt hx _
  · exact hg i hi
theorem xr_seg : fl x.length (fun i => xr g off x (off + i)) = x := by
  refine Eq.trans ?_ (fl_eq (l := x) rfl).symm
  refine fl_congr fun i hi => ?_
  unfold xr; rw [if_pos (by omega), Nat.add_sub_cancel_left]
theorem xr_xr (h : x.length = y.length) : xr (xr g off x) off y = xr g off y := by
  funext j; unfold xr; rw [h]
  split
  · rfl
  · rfl
end
section
variable {H L : Heap} {id N : Nat} {f : Nat → Nat} (hid : id < H.length)
include hid
theorem ofat {j : Nat} (h : j < N) : atV (hap (H.set id (some ⟨1, u32s (fl N f)⟩)) L) (.loc id j 0) = some [.int .u32 (f j : Nat)] := by
  rw [old_at hid _ j (by rw [u32s_len, fl_len]; exact h)]
  simp only [u32s_getD (l := fl N f) (i := j) (by rw [fl_len]; exact h), fl_get h, AV.cells]
theorem ofst {env : Env} {j : Nat} (h : j < N) (d : Nat) : storeV 1 (.loc id j 0) (.int .u32 (d : Int)) env (hap (H.set id (some ⟨1, u32s (fl N f)⟩)) L) = some (.top, env, hap (H.set id (some ⟨1, u32s (fl N fun i => if i = j then d else f i)⟩)) L) := by
  rw [old_st hid env _ 1 j _ (by rw [u32s_len, fl_len]; exact h) rfl rfl (Nat.le_refl 1)]
  simp only [upd_whole, u32s_set, fl_set]
end
noncomputable abbrev digX (n0 : Nat) : Cx := ⟨Pr, fun _ _ => false, F_nat_digit, 117, [.tmp 4], n0⟩
theorem digit_add {H : Heap} {id off N n : Nat} {oc : Option Nat} {v : List Nat} {g : Nat → Nat} {todo : List AItem} {R : AV → Heap → Prop} {q b : Nat} (hid : id < H.length) (hv : Lim v) (hn : v.length = n) (hoff : off + n + 1 ≤ N) (hN : N ≤ 17592186044416) (hg : ∀ i, i < N → g i < LB)
    (k : ∀ y c, y.length = n + 1 → Lim y → c ≤ 1 → val y + LB ^ (n + 1) * c = val (fl (n + 1) fun i => g (off + i)) + val v →
      Safe (digX H.length) todo [(0, .mu id off (n + 1) oc), (1, natV v), (5, .int .i64 n), (7, .int .u64 q), (9, .int .u64 b), (13, .int .u64 c)] (hap (H.set id (some ⟨1, u32s (fl N (xr g off y))⟩)) []) R) :
    Safe (digX H.length) (.inLoop nat_digit_l2 :: .inBlock 4 :: todo) [(0, .mu id off (n + 1) oc), (1, natV v), (5, .int .i64 n), (7, .int .u64 q), (9, .int .u64 b), (13, .int .u64 0), (83, .int .i64 ((n + 1 : Nat) : Int)), (84, .int .i64 0)] (hap (H.set id (some ⟨1, u32s (fl N g)⟩)) []) R := by
  have hLB : LB = 4294967296 := rfl
  have key : ∀ (m i c : Nat) (y : List Nat), i + m = n + 1 → y.length = i → Lim y → c ≤ 1 → val y + LB ^ i * c = val ((fl (n + 1) fun i => g (off + i)).take i) + val (v.take i) →
      Safe (digX H.length) (.inLoop nat_digit_l2 :: .inBlock 4 :: todo) [(0, .mu id off (n + 1) oc), (1, natV v), (5, .int .i64 n), (7, .int .u64 q), (9, .int .u64 b), (13, .int .u64 c), (83, .int .i64 ((n + 1 : Nat) : Int)), (84, .int .i64 i)] (hap (H.set id (some ⟨1, u32s (fl N (xr g off y))⟩)) []) R := by
    intro m
    induction m with
    | zero =>
      intro i c y him hy ly hc hval
      have hi : i = n + 1 := by omega
      subst hi
      refine Safe.inLoop ?_
      refine Safe.rg rfl ?_
      simp only [nat_digit_r20, Int.lt_irrefl, E3, Nat.reduceLeDiff, Nat.reduceSub, Nat.reduceAdd, Nat.reduceEqDiff, reduceCtorEq, ↓reduceIte]
      refine Safe.cd rfl ?_
      simp only [E3, Nat.reduceLeDiff, Nat.reduceSub, Nat.reduceAdd, Nat.reduceEqDiff, reduceCtorEq, ↓reduceIte]
      refine Safe.exit rfl ?_
      refine Safe.keep [0, 1, 5, 7, 9, 13] ?_
      simp only [E3, Nat.reduceLeDiff, Nat.reduceSub, Nat.reduceAdd, Nat.reduceEqDiff, reduceCtorEq, ↓reduceIte]
      refine k y c hy ly hc ?_
      rw [hval, List.take_of_length_le (l := fl _ _) (by rw [fl_len]; omega), List.take_of_length_le (l := v) (by omega)]
    | succ m ih =>
      intro i c y him hy ly hc hval
      have hlt : ((i : Int) < ((n + 1 : Nat) : Int)) = True := eq_true (by omega)
      refine Safe.inLoop ?_
      refine Safe.rg rfl ?_
      simp only [nat_digit_r20, hlt, E3, Nat.reduceLeDiff, Nat.reduceSub, Nat.reduceAdd, Nat.reduceEqDiff, reduceCtorEq, ↓reduceIte]
      refine Safe.cd rfl ?_
      simp only [E3, Nat.reduceLeDiff, Nat.reduceSub, Nat.reduceAdd, Nat.reduceEqDiff, reduceCtorEq, ↓reduceIte]
      have hgi : g (off + i) < LB := hg _ (by omega)
      have hxi : xr g off y (off + i) = g (off + i) := by subst hy; exact xr_at
      have hvi := getD_lt hv i
      refine Safe.rg rfl ?_
      simp only [nat_digit_r21, E3, Nat.reduceLeDiff, Nat.reduceSub, Nat.reduceAdd, Nat.reduceEqDiff, reduceCtorEq, ↓reduceIte]
      refine Safe.rg rfl ?_
      simp only [nat_digit_r22, old_idx hid 1 _ off (n + 1) i oc .i64 (show i < n + 1 by omega), ofat hid (show off + i < N by omega), hxi, wrap64 (x := g (off + i)) (by omega), wrap_add64 (x := c) (y := g (off + i)) (by omega), E3, Nat.reduceLeDiff, Nat.reduceSub, Nat.reduceAdd, Nat.reduceEqDiff, reduceCtorEq, ↓reduceIte]
      have rest : ∀ env : Env, look env 0 = .mu id off (n + 1) oc → look env 1 = natV v → look env 5 = .int .i64 n → look env 7 = .int .u64 q → look env 9 = .int .u64 b → look env 83 = .int .i64 ((n + 1 : Nat) : Int) → look env 84 = .int .i64 i → look env 14 = .int .i64 i → look env 13 = .int .u64 (c + g (off + i) + v.getD i 0 : Nat) →
          Safe (digX H.length) (.code (.seq (.region nat_digit_r25 false) (.region nat_digit_r26 false)) :: .inBlock 5 :: .code (.region nat_digit_r27 false) :: .inLoop nat_digit_l2 :: .inBlock 4 :: todo) env (hap (H.set id (some ⟨1, u32s (fl N (xr g off y))⟩)) []) R := by
        intro env e0 e1 e5 e7 e9 e83 e84 e14 e13
        have w5 := wrap_u32_mod (c + g (off + i) + v.getD i 0)
        refine Safe.rg rfl ?_
        simp only [nat_digit_r25, e0, e14, e13, w5, old_idx hid 1 _ off (n + 1) i oc .i64 (show i < n + 1 by omega), ofst hid (show off + i < N by omega), E3, Nat.reduceLeDiff, Nat.reduceSub, Nat.reduceAdd, Nat.reduceEqDiff, reduceCtorEq, ↓reduceIte]
        refine Safe.rg rfl ?_
        simp only [nat_digit_r26, e13, shr_32, E3, Nat.reduceLeDiff, Nat.reduceSub, Nat.reduceAdd, Nat.reduceEqDiff, reduceCtorEq, ↓reduceIte]
        refine Safe.inBlock ?_
        have w4 : IntKind.wrap .i64 ((i : Int) + 1) = ((i + 1 : Nat) : Int) := by rw [wrap_i64] <;> omega
        refine Safe.rg rfl ?_
        simp only [nat_digit_r27, e84, w4, E3, Nat.reduceLeDiff, Nat.reduceSub, Nat.reduceAdd, Nat.reduceEqDiff, reduceCtorEq, ↓reduceIte]
        refine Safe.keep [0, 1, 5, 7, 9, 13, 83, 84] ?_
        simp only [E3, Nat.reduceLeDiff, Nat.reduceSub, Nat.reduceAdd, Nat.reduceEqDiff, reduceCtorEq, ↓reduceIte]
        simp only [e0, e1, e5, e7, e9, e83]
        rw [← hy, xr_snoc, hy]
        refine ih (i + 1) _ _ (by omega) (by simp [hy]) (val_snoc_lim ly (Nat.mod_lt _ (by decide))) ?_ ?_
        · have : c + g (off + i) + v.getD i 0 < LB * 2 := by omega
          have := Nat.div_lt_of_lt_mul this
          omega
        · rw [val_snoc, hy, val_take_getD, val_take_getD, Nat.pow_succ, fl_get (by omega)]
          exact sum_step (i := 0) hval
      by_cases hin : i < n
      · have hl2 : ((i : Int) < (n : Int)) = True := eq_true (by omega)
        refine Safe.rg rfl ?_
        simp only [nat_digit_r23, hl2, E3, Nat.reduceLeDiff, Nat.reduceSub, Nat.reduceAdd, Nat.reduceEqDiff, reduceCtorEq, ↓reduceIte]
        refine Safe.cd rfl ?_
        simp only [E3, Nat.reduceLeDiff, Nat.reduceSub, Nat.reduceAdd, Nat.reduceEqDiff, reduceCtorEq, ↓reduceIte]
        refine Safe.rg rfl ?_
        simp only [nat_digit_r24, natV_idx _ v _ i (by omega), wrap64 (x := v.getD i 0) (by omega), wrap_add64 (x := c + g (off + i)) (y := v.getD i 0) (by omega), E3, Nat.reduceLeDiff, Nat.reduceSub, Nat.reduceAdd, Nat.reduceEqDiff, reduceCtorEq, ↓reduceIte]
        exact rest _ (by simp only [E3, Nat.reduceLeDiff, Nat.reduceSub, Nat.reduceAdd, Nat.reduceEqDiff, reduceCtorEq, ↓reduceIte]) (by simp only [E3, Nat.reduceLeDiff, Nat.reduceSub, Nat.reduceAdd, Nat.reduceEqDiff, reduceCtorEq, ↓reduceIte]) (by simp only [E3, Nat.reduceLeDiff, Nat.reduceSub, Nat.reduceAdd, Nat.reduceEqDiff, reduceCtorEq, ↓reduceIte]) (by simp only [E3, Nat.reduceLeDiff, Nat.reduceSub, Nat.reduceAdd, Nat.reduceEqDiff, reduceCtorEq, ↓reduceIte]) (by simp only [E3, Nat.reduceLeDiff, Nat.reduceSub, Nat.reduceAdd, Nat.reduceEqDiff, reduceCtorEq, ↓reduceIte]) (by simp only [E3, Nat.reduceLeDiff, Nat.reduceSub, Nat.reduceAdd, Nat.reduceEqDiff, reduceCtorEq, ↓reduceIte]) (by simp only [E3, Nat.reduceLeDiff, Nat.reduceSub, Nat.reduceAdd, Nat.reduceEqDiff, reduceCtorEq, ↓reduceIte]) (by simp only [E3, Nat.reduceLeDiff, Nat.reduceSub, Nat.reduceAdd, Nat.reduceEqDiff, reduceCtorEq, ↓reduceIte]) (by simp only [E3, Nat.reduceLeDiff, Nat.reduceSub, Nat.reduceAdd, Nat.reduceEqDiff, reduceCtorEq, ↓reduceIte])
      · have hl2 : ((i : Int) < (n : Int)) = False := eq_false (by omega)
        refine Safe.rg rfl ?_
        simp only [nat_digit_r23, hl2, E3, Nat.reduceLeDiff, Nat.reduceSub, Nat.reduceAdd, Nat.reduceEqDiff, reduceCtorEq, ↓reduceIte]
        refine Safe.cd rfl ?_
        simp only [E3, Nat.reduceLeDiff, Nat.reduceSub, Nat.reduceAdd, Nat.reduceEqDiff, reduceCtorEq, ↓reduceIte]
        have hz : c + g (off + i) + v.getD i 0 = c + g (off + i) := by rw [getD_out (a := v) (by omega), Nat.add_zero]
        exact Safe.skip (rest _ (by simp only [E3, Nat.reduceLeDiff, Nat.reduceSub, Nat.reduceAdd, Nat.reduceEqDiff, reduceCtorEq, ↓reduceIte]) (by simp only [E3, Nat.reduceLeDiff, Nat.reduceSub, Nat.reduceAdd, Nat.reduceEqDiff, reduceCtorEq, ↓reduceIte]) (by simp only [E3, Nat.reduceLeDiff, Nat.reduceSub, Nat.reduceAdd, Nat.reduceEqDiff, reduceCtorEq, ↓reduceIte]) (by simp only [E3, Nat.reduceLeDiff, Nat.reduceSub, Nat.reduceAdd, Nat.reduceEqDiff, reduceCtorEq, ↓reduceIte]) (by simp only [E3, Nat.reduceLeDiff, Nat.reduceSub, Nat.reduceAdd, Nat.reduceEqDiff, reduceCtorEq, ↓reduceIte]) (by simp only [E3, Nat.reduceLeDiff, Nat.reduceSub, Nat.reduceAdd, Nat.reduceEqDiff, reduceCtorEq, ↓reduceIte]) (by simp only [E3, Nat.reduceLeDiff, Nat.reduceSub, Nat.reduceAdd, Nat.reduceEqDiff, reduceCtorEq, ↓reduceIte]) (by simp only [E3, Nat.reduceLeDiff, Nat.reduceSub, Nat.reduceAdd, Nat.reduceEqDiff, reduceCtorEq, ↓reduceIte]) (by rw [hz]; simp only [E3, Nat.reduceLeDiff, Nat.reduceSub, Nat.reduceAdd, Nat.reduceEqDiff, reduceCtorEq, ↓reduceIte]))
  have := key (n + 1) 0 0 [] (by omega) rfl lim_nil (by omega) (by simp [val])
  rw [xr_nil] at this
  exact this
theorem sub_step {vx qv vu B b c q vi lo d bo c' u : Nat} (h : vx + qv = vu + B * (b + c)) (hd : u + LB * bo = d + lo + b) (hl : lo + LB * c' = c + q * vi) : (vx + B * d) + (qv + B * (q * vi)) = (vu + B * u) + (B * LB) * (bo + c') := by
  have e1 : B * (u + LB * bo) = B * (d + lo + b) := by rw [hd]
  have e2 : B * (lo + LB * c') = B * (c + q * vi) := by rw [hl]
  simp only [Nat.mul_add, ← Nat.mul_assoc] at *
  omega
theorem digit_sub {H : Heap} {id off N n : Nat} {oc : Option Nat} {v : List Nat} {g : Nat → Nat} {todo : List AItem} {R : AV → Heap → Prop} {q : Nat} (hid : id < H.length) (hv : Lim v) (hn : v.length = n) (hoff : off + n + 1 ≤ N) (hN : N ≤ 17592186044416) (hg : ∀ i, i < N → g i < LB) (hq : q < LB)
    (k : ∀ y b, y.length = n + 1 → Lim y → b ≤ 1 → val y + q * val v = val (fl (n + 1) fun i => g (off + i)) + LB ^ (n + 1) * b →
      Safe (digX H.length) todo [(0, .mu id off (n + 1) oc), (1, natV v), (5, .int .i64 n), (7, .int .u64 q), (9, .int .u64 b)] (hap (H.set id (some ⟨1, u32s (fl N (xr g off y))⟩)) []) R) :
    Safe (digX H.length) (.inLoop nat_digit_l0 :: .inBlock 0 :: todo) [(0, .mu id off (n + 1) oc), (1, natV v), (5, .int .i64 n), (7, .int .u64 q), (8, .int .u64 0), (9, .int .u64 0), (40, .int .i64 ((n + 1 : Nat) : Int)), (41, .int .i64 0)] (hap (H.set id (some ⟨1, u32s (fl N g)⟩)) []) R := by
  have hLB : LB = 4294967296 := rfl
  have key : ∀ (m i b c : Nat) (y : List Nat), i + m = n + 1 → y.length = i → Lim y → b ≤ 1 → c < LB → val y + q * val (v.take i) = val ((fl (n + 1) fun i => g (off + i)).take i) + LB ^ i * (b + c) → LB ^ i * c ≤ q * val (v.take i) →
      Safe (digX H.length) (.inLoop nat_digit_l0 :: .inBlock 0 :: todo) [(0, .mu id off (n + 1) oc), (1, natV v), (5, .int .i64 n), (7, .int .u64 q), (8, .int .u64 c), (9, .int .u64 b), (40, .int .i64 ((n + 1 : Nat) : Int)), (41, .int .i64 i)] (hap (H.set id (some ⟨1, u32s (fl N (xr g off y))⟩)) []) R := by
    intro m
    induction m with
    | zero =>
      intro i b c y him hy ly hb hc hval hcl
      have hi : i = n + 1 := by omega
      subst hi
      refine Safe.inLoop ?_
      refine Safe.rg rfl ?_
      simp only [nat_digit_r6, Int.lt_irrefl, E3, Nat.reduceLeDiff, Nat.reduceSub, Nat.reduceAdd, Nat.reduceEqDiff, reduceCtorEq, ↓reduceIte]
      refine Safe.cd rfl ?_
      simp only [E3, Nat.reduceLeDiff, Nat.reduceSub, Nat.reduceAdd, Nat.reduceEqDiff, reduceCtorEq, ↓reduceIte]
      refine Safe.exit rfl ?_
      refine Safe.keep [0, 1, 5, 7, 9] ?_
      simp only [E3, Nat.reduceLeDiff, Nat.reduceSub, Nat.reduceAdd, Nat.reduceEqDiff, reduceCtorEq, ↓reduceIte]
      refine k y b hy ly hb ?_
      rw [List.take_of_length_le (l := v) (by omega)] at hval hcl
      rw [List.take_of_length_le (l := fl _ _) (by rw [fl_len]; omega)] at hval
      have hc0 : c = 0 := by
        have h1 := val_lt hv
        rw [hn] at h1
        have h2 : q * val v < LB * LB ^ n := Nat.mul_lt_mul'' hq h1
        rw [← Nat.pow_succ'] at h2
        have h3 : LB ^ (n + 1) * c < LB ^ (n + 1) * 1 := by rw [Nat.mul_one]; exact Nat.lt_of_le_of_lt hcl h2
        have := Nat.lt_of_mul_lt_mul_left h3
        omega
      rw [hval, hc0, show b + 0 = b from rfl]
    | succ m ih =>
      intro i b c y him hy ly hb hc hval hcl
      have hlt : ((i : Int) < ((n + 1 : Nat) : Int)) = True := eq_true (by omega)
      refine Safe.inLoop ?_
      refine Safe.rg rfl ?_
      simp only [nat_digit_r6, hlt, E3, Nat.reduceLeDiff, Nat.reduceSub, Nat.reduceAdd, Nat.reduceEqDiff, reduceCtorEq, ↓reduceIte]
      refine Safe.cd rfl ?_
      simp only [E3, Nat.reduceLeDiff, Nat.reduceSub, Nat.reduceAdd, Nat.reduceEqDiff, reduceCtorEq, ↓reduceIte]
      have hgi : g (off + i) < LB := hg _ (by omega)
      have hxi : xr g off y (off + i) = g (off + i) := by subst hy; exact xr_at
      have hvi := getD_lt hv i
      have hqv : c + q * v.getD i 0 < LB * LB := by
        have h1 : q * v.getD i 0 ≤ (LB - 1) * (LB - 1) := Nat.mul_le_mul (by omega) (by omega)
        have h2 : (LB - 1) * (LB - 1) + (LB - 1) < LB * LB := by decide
        omega
      have hqv2 : LB * LB = 18446744073709551616 := by decide
      refine Safe.rg rfl ?_
      simp only [nat_digit_r7, E3, Nat.reduceLeDiff, Nat.reduceSub, Nat.reduceAdd, Nat.reduceEqDiff, reduceCtorEq, ↓reduceIte]
      refine Safe.rg rfl ?_
      simp only [nat_digit_r8, E3, Nat.reduceLeDiff, Nat.reduceSub, Nat.reduceAdd, Nat.reduceEqDiff, reduceCtorEq, ↓reduceIte]
      have rest : ∀ env : Env, look env 0 = .mu id off (n + 1) oc → look env 1 = natV v → look env 5 = .int .i64 n → look env 7 = .int .u64 q → look env 9 = .int .u64 b → look env 40 = .int .i64 ((n + 1 : Nat) : Int) → look env 41 = .int .i64 i → look env 10 = .int .i64 i → look env 11 = .int .u64 (c + q * v.getD i 0 : Nat) →
          Safe (digX H.length) (.code (.seq (.region nat_digit_r11 false) (.seq (.region nat_digit_r12 false) (.seq (.region nat_digit_r13 false) (.region nat_digit_r14 false)))) :: .inBlock 1 :: .code (.region nat_digit_r15 false) :: .inLoop nat_digit_l0 :: .inBlock 0 :: todo) env (hap (H.set id (some ⟨1, u32s (fl N (xr g off y))⟩)) []) R := by
        intro env e0 e1 e5 e7 e9 e40 e41 e10 e11
        have w5 := wrap_u32_mod (c + q * v.getD i 0)
        have htl : (c + q * v.getD i 0) % LB < LB := Nat.mod_lt _ (by decide)
        have htm := Nat.mod_add_div (c + q * v.getD i 0) LB
        have htd : (c + q * v.getD i 0) / LB < LB := by rw [Nat.div_lt_iff_lt_mul (by decide)]; exact hqv
        have h4w : IntKind.wrap .u64 (IntKind.wrap .u64 (((g (off + i) : Nat) : Int) - (((c + q * v.getD i 0) % LB : Nat) : Int)) - (b : Int)) = (((g (off + i) : Nat) : Int) - (((c + q * v.getD i 0) % LB : Nat) : Int) - (b : Int)) % 18446744073709551616 := by
          rw [wrap_u64_mod, wrap_u64_mod]; omega
        refine Safe.rg rfl ?_
        simp only [nat_digit_r11, e11, shr_32, E3, Nat.reduceLeDiff, Nat.reduceSub, Nat.reduceAdd, Nat.reduceEqDiff, reduceCtorEq, ↓reduceIte]
        refine Safe.rg rfl ?_
        simp only [nat_digit_r12, e0, e10, e11, e9, old_idx hid 1 _ off (n + 1) i oc .i64 (show i < n + 1 by omega), ofat hid (show off + i < N by omega), hxi, wrap64 (x := g (off + i)) (by omega), w5, wrap64 (x := (c + q * v.getD i 0) % LB) (by omega), h4w, E3, Nat.reduceLeDiff, Nat.reduceSub, Nat.reduceAdd, Nat.reduceEqDiff, reduceCtorEq, ↓reduceIte]
        obtain ⟨d, bo, hd, hbo, hdl, hD, hB⟩ : ∃ d bo : Nat, g (off + i) + LB * bo = d + (c + q * v.getD i 0) % LB + b ∧ bo ≤ 1 ∧ d < LB ∧ ((((g (off + i) : Nat) : Int) - (((c + q * v.getD i 0) % LB : Nat) : Int) - (b : Int)) % 18446744073709551616) % 4294967296 = (d : Int) ∧ ((((g (off + i) : Nat) : Int) - (((c + q * v.getD i 0) % LB : Nat) : Int) - (b : Int)) % 18446744073709551616) / 9223372036854775808 = (bo : Int) := by
          generalize (c + q * v.getD i 0) % LB = lo at *
          by_cases hlt : g (off + i) < lo + b
          · exact ⟨g (off + i) + LB - lo - b, 1, by omega, by omega, by omega, by omega, by omega⟩
          · exact ⟨g (off + i) - lo - b, 0, by omega, by omega, by omega, by omega, by omega⟩
        refine Safe.rg rfl ?_
        simp only [nat_digit_r13, e0, e10, wrap_u32_emod, hD, old_idx hid 1 _ off (n + 1) i oc .i64 (show i < n + 1 by omega), ofst hid (show off + i < N by omega), E3, Nat.reduceLeDiff, Nat.reduceSub, Nat.reduceAdd, Nat.reduceEqDiff, reduceCtorEq, ↓reduceIte]
        have hs63 : ∀ n : Int, Int.fdiv n (2 ^ min (Int.toNat 63) IntKind.u64.bits) = n / 9223372036854775808 := by
          intro n
          rw [show (2 : Int) ^ min (Int.toNat 63) IntKind.u64.bits = 9223372036854775808 by decide, Int.fdiv_eq_ediv_of_nonneg _ (by decide)]
        refine Safe.rg rfl ?_
        simp only [nat_digit_r14, shBin_shr _ _ _ (show (0 : Int) ≤ 63 by decide), hs63, hB, E3, Nat.reduceLeDiff, Nat.reduceSub, Nat.reduceAdd, Nat.reduceEqDiff, reduceCtorEq, ↓reduceIte]
        refine Safe.inBlock ?_
        have w4 : IntKind.wrap .i64 ((i : Int) + 1) = ((i + 1 : Nat) : Int) := by rw [wrap_i64] <;> omega
        refine Safe.rg rfl ?_
        simp only [nat_digit_r15, e41, w4, E3, Nat.reduceLeDiff, Nat.reduceSub, Nat.reduceAdd, Nat.reduceEqDiff, reduceCtorEq, ↓reduceIte]
        refine Safe.keep [0, 1, 5, 7, 8, 9, 40, 41] ?_
        simp only [E3, Nat.reduceLeDiff, Nat.reduceSub, Nat.reduceAdd, Nat.reduceEqDiff, reduceCtorEq, ↓reduceIte]
        simp only [e0, e1, e5, e7, e40]
        rw [← hy, xr_snoc, hy]
        refine ih (i + 1) bo _ _ (by omega) (by simp [hy]) (val_snoc_lim ly hdl) hbo htd ?_ ?_
        · rw [val_snoc, hy, val_take_getD, val_take_getD, Nat.pow_succ, fl_get (by omega), Nat.mul_add, Nat.mul_left_comm]
          exact sub_step hval hd htm
        · rw [val_take_getD, Nat.mul_add, Nat.mul_left_comm q, Nat.pow_succ, Nat.mul_assoc]
          have h1 : LB ^ i * (LB * ((c + q * v.getD i 0) / LB)) ≤ LB ^ i * (c + q * v.getD i 0) := Nat.mul_le_mul_left _ (Nat.mul_div_le _ _)
          rw [Nat.mul_add] at h1
          omega
      by_cases hin : i < n
      · have hl2 : ((i : Int) < (n : Int)) = True := eq_true (by omega)
        refine Safe.rg rfl ?_
        simp only [nat_digit_r9, hl2, E3, Nat.reduceLeDiff, Nat.reduceSub, Nat.reduceAdd, Nat.reduceEqDiff, reduceCtorEq, ↓reduceIte]
        refine Safe.cd rfl ?_
        simp only [E3, Nat.reduceLeDiff, Nat.reduceSub, Nat.reduceAdd, Nat.reduceEqDiff, reduceCtorEq, ↓reduceIte]
        refine Safe.rg rfl ?_
        simp only [nat_digit_r10, natV_idx _ v _ i (by omega), wrap64 (x := v.getD i 0) (by omega), wrap_mul64 (x := q) (y := v.getD i 0) (by omega), wrap_add64 (x := c) (y := q * v.getD i 0) (by omega), E3, Nat.reduceLeDiff, Nat.reduceSub, Nat.reduceAdd, Nat.reduceEqDiff, reduceCtorEq, ↓reduceIte]
        exact rest _ (by simp only [E3, Nat.reduceLeDiff, Nat.reduceSub, Nat.reduceAdd, Nat.reduceEqDiff, reduceCtorEq, ↓reduceIte]) (by simp only [E3, Nat.reduceLeDiff, Nat.reduceSub, Nat.reduceAdd, Nat.reduceEqDiff, reduceCtorEq, ↓reduceIte]) (by simp only [E3, Nat.reduceLeDiff, Nat.reduceSub, Nat.reduceAdd, Nat.reduceEqDiff, reduceCtorEq, ↓reduceIte]) (by simp only [E3, Nat.reduceLeDiff, Nat.reduceSub, Nat.reduceAdd, Nat.reduceEqDiff, reduceCtorEq, ↓reduceIte]) (by simp only [E3, Nat.reduceLeDiff, Nat.reduceSub, Nat.reduceAdd, Nat.reduceEqDiff, reduceCtorEq, ↓reduceIte]) (by simp only [E3, Nat.reduceLeDiff, Nat.reduceSub, Nat.reduceAdd, Nat.reduceEqDiff, reduceCtorEq, ↓reduceIte]) (by simp only [E3, Nat.reduceLeDiff, Nat.reduceSub, Nat.reduceAdd, Nat.reduceEqDiff, reduceCtorEq, ↓reduceIte]) (by simp only [E3, Nat.reduceLeDiff, Nat.reduceSub, Nat.reduceAdd, Nat.reduceEqDiff, reduceCtorEq, ↓reduceIte]) (by simp only [E3, Nat.reduceLeDiff, Nat.reduceSub, Nat.reduceAdd, Nat.reduceEqDiff, reduceCtorEq, ↓reduceIte])
      · have hl2 : ((i : Int) < (n : Int)) = False := eq_false (by omega)
        refine Safe.rg rfl ?_
        simp only [nat_digit_r9, hl2, E3, Nat.reduceLeDiff, Nat.reduceSub, Nat.reduceAdd, Nat.reduceEqDiff, reduceCtorEq, ↓reduceIte]
        refine Safe.cd rfl ?_
        simp only [E3, Nat.reduceLeDiff, Nat.reduceSub, Nat.reduceAdd, Nat.reduceEqDiff, reduceCtorEq, ↓reduceIte]
        have hz : c + q * v.getD i 0 = c := by rw [getD_out (a := v) (by omega)]; omega
        exact Safe.skip (rest _ (by simp only [E3, Nat.reduceLeDiff, Nat.reduceSub, Nat.reduceAdd, Nat.reduceEqDiff, reduceCtorEq, ↓reduceIte]) (by simp only [E3, Nat.reduceLeDiff, Nat.reduceSub, Nat.reduceAdd, Nat.reduceEqDiff, reduceCtorEq, ↓reduceIte]) (by simp only [E3, Nat.reduceLeDiff, Nat.reduceSub, Nat.reduceAdd, Nat.reduceEqDiff, reduceCtorEq, ↓reduceIte]) (by simp only [E3, Nat.reduceLeDiff, Nat.reduceSub, Nat.reduceAdd, Nat.reduceEqDiff, reduceCtorEq, ↓reduceIte]) (by simp only [E3, Nat.reduceLeDiff, Nat.reduceSub, Nat.reduceAdd, Nat.reduceEqDiff, reduceCtorEq, ↓reduceIte]) (by simp only [E3, Nat.reduceLeDiff, Nat.reduceSub, Nat.reduceAdd, Nat.reduceEqDiff, reduceCtorEq, ↓reduceIte]) (by simp only [E3, Nat.reduceLeDiff, Nat.reduceSub, Nat.reduceAdd, Nat.reduceEqDiff, reduceCtorEq, ↓reduceIte]) (by simp only [E3, Nat.reduceLeDiff, Nat.reduceSub, Nat.reduceAdd, Nat.reduceEqDiff, reduceCtorEq, ↓reduceIte]) (by rw [hz]; simp only [E3, Nat.reduceLeDiff, Nat.reduceSub, Nat.reduceAdd, Nat.reduceEqDiff, reduceCtorEq, ↓reduceIte]))
  have := key (n + 1) 0 0 0 [] (by omega) rfl lim_nil (by omega) (by decide) (by simp [val]) (by simp)
  rw [xr_nil] at this
  exact this
theorem digit_calls {H : Heap} {id off N n : Nat} {oc : Option Nat} {v : List Nat} {f : Nat → Nat} (hl : H[id]? = some (some ⟨1, u32s (fl N f)⟩)) (hv : Lim v) (hn : v.length = n) (hn0 : 0 < n) (ht : 0 < v.getD (n - 1) 0) (hoff : off + n + 1 ≤ N) (hN : N ≤ 17592186044416) (hf : ∀ i, i < N → f i < LB)
    {S : Nat} (hS : val (fl (n + 1) fun i => f (off + i)) = S) (hlt : S < LB * val v) : ACalls Pr F_nat_digit [.mu id off (n + 1) oc, natV v] H fun r' H' => r' = .int .u32 (S / val v : Nat) ∧ H' = H.set id (some ⟨1, u32s (fl N (xr f off (fl (n + 1) (dig (S % val v)))))⟩) := by
  have hLB : LB = 4294967296 := rfl
  have hid := lt_of_live hl
  have hv0 : 0 < val v := by
    have := val_split v (n - 1)
    have h2 : val (v.drop (n - 1)) ≠ 0 := by
      rw [val_drop_succ]; rw [show n - 1 + 1 = n by omega]; omega
    have h3 : 0 < LB ^ (n - 1) * val (v.drop (n - 1)) := Nat.mul_pos (pow_pos' _) (by omega)
    omega
  have hUl : (fl (n + 1) fun i => f (off + i)).length = n + 1 := fl_len _ _
  have hU : Lim (fl (n + 1) fun i => f (off + i)) := fl_lim fun i hi => hf _ (by omega)
  have hguess := guess_ge hU hv hUl hn hn0 hv0 (by rw [hS]; exact hlt) ht
  rw [hS, fl_get (by omega), fl_get (by omega)] at hguess
  have hSl : S < LB ^ (n + 1) := by have := val_lt hU; rw [hS, hUl] at this; exact this
  have hvl := val_lt hv
  rw [hn] at hvl
  have hvle : val v ≤ LB ^ (n + 1) := by
    have : LB ^ n ≤ LB ^ (n + 1) := Nat.pow_le_pow_right (by decide) (by omega)
    omega
  have hvt : v.getD (n - 1) 0 < LB := getD_lt hv _
  have hfn : f (off + n) < LB := hf _ (by omega)
  have hfn1 : f (off + (n - 1)) < LB := hf _ (by omega)
  refine ACalls.eff nat_digit_fn nat_digit_ok (Nat.le_of_ble_eq_true rfl) fun hH => ?_
  have h0 : hap H [] = hap (H.set id (some ⟨1, u32s (fl N f)⟩)) [] := by rw [set_self hl]
  rw [h0]
  refine Safe.rg rfl ?_
  simp only [nat_digit_r0, E3, Nat.reduceLeDiff, Nat.reduceSub, Nat.reduceAdd, Nat.reduceEqDiff, reduceCtorEq, ↓reduceIte]
  refine Safe.rg rfl ?_
  simp only [nat_digit_r1, natV_len, E3, Nat.reduceLeDiff, Nat.reduceSub, Nat.reduceAdd, Nat.reduceEqDiff, reduceCtorEq, ↓reduceIte]
  have w1 : IntKind.wrap .i64 ((n : Int) - 1) = ((n - 1 : Nat) : Int) := by rw [wrap_i64] <;> omega
  refine Safe.rg rfl ?_
  simp only [nat_digit_r2, hn, w1, old_idx hid 1 _ off (n + 1) n oc .i64 (Nat.lt_succ_self n), old_idx hid 1 _ off (n + 1) (n - 1) oc .i64 (show n - 1 < n + 1 by omega), ofat hid (show off + n < N by omega), ofat hid (show off + (n - 1) < N by omega), wrap64 (x := f (off + n)) (by omega), wrap64 (x := f (off + (n - 1))) (by omega), shl32 hfn, wrap_or64 hfn hfn1, E3, Nat.reduceLeDiff, Nat.reduceSub, Nat.reduceAdd, Nat.reduceEqDiff, reduceCtorEq, ↓reduceIte]
  have htop : f (off + n) * LB + f (off + (n - 1)) < 18446744073709551616 := by
    have : f (off + n) * LB ≤ 4294967295 * LB := Nat.mul_le_mul_right _ (by omega)
    omega
  have hmin : (if (4294967295 : Int) < (((f (off + n) * LB + f (off + (n - 1))) / v.getD (n - 1) 0 : Nat) : Int) then (4294967295 : Int) else (((f (off + n) * LB + f (off + (n - 1))) / v.getD (n - 1) 0 : Nat) : Int)) = ((min ((f (off + n) * LB + f (off + (n - 1))) / v.getD (n - 1) 0) (LB - 1) : Nat) : Int) := by
    generalize (f (off + n) * LB + f (off + (n - 1))) / v.getD (n - 1) 0 = z
    split
    · rw [Nat.min_eq_right (by omega)]; rfl
    · rw [Nat.min_eq_left (by omega)]
  refine Safe.rg rfl ?_
  simp only [nat_digit_r3, hn, w1, natV_idx _ v _ (n - 1) (by omega), wrap64 (x := v.getD (n - 1) 0) (by omega), quo_nat ht htop, mnxV_int, hmin, E3, Nat.reduceLeDiff, Nat.reduceSub, Nat.reduceAdd, Nat.reduceEqDiff, reduceCtorEq, ↓reduceIte]
  have hq0l : min ((f (off + n) * LB + f (off + (n - 1))) / v.getD (n - 1) 0) (LB - 1) < LB := Nat.lt_of_le_of_lt (Nat.min_le_right _ _) (by decide)
  generalize hq0 : min ((f (off + n) * LB + f (off + (n - 1))) / v.getD (n - 1) 0) (LB - 1) = q0 at *
  refine Safe.rg rfl ?_
  simp only [nat_digit_r4, E3, Nat.reduceLeDiff, Nat.reduceSub, Nat.reduceAdd, Nat.reduceEqDiff, reduceCtorEq, ↓reduceIte]
  have w2 : IntKind.wrap .i64 ((n : Int) + 1) = ((n + 1 : Nat) : Int) := by rw [wrap_i64] <;> omega
  refine Safe.rg rfl ?_
  simp only [nat_digit_r5, w2, hn, E3, Nat.reduceLeDiff, Nat.reduceSub, Nat.reduceAdd, Nat.reduceEqDiff, reduceCtorEq, ↓reduceIte]
  refine Safe.lp rfl ?_
  refine Safe.keep [0, 1, 5, 7, 8, 9, 40, 41] ?_
  simp only [hn, E3, Nat.reduceLeDiff, Nat.reduceSub, Nat.reduceAdd, Nat.reduceEqDiff, reduceCtorEq, ↓reduceIte]
  refine digit_sub hid hv hn hoff hN hf hq0l fun y b hy ly hb hval => ?_
  rw [hS] at hval
  refine Safe.lp rfl ?_
  -- the rows put back
  have key : ∀ (q b : Nat) (y : List Nat), y.length = n + 1 → Lim y → b ≤ 1 → val y + q * val v = S + LB ^ (n + 1) * b → S / val v ≤ q → q < LB →
      Safe (digX H.length) [.inLoop nat_digit_l1, .inBlock 2, .code (.seq (.region nat_digit_r29 false) .ret)] [(0, .mu id off (n + 1) oc), (1, natV v), (5, .int .i64 n), (7, .int .u64 q), (9, .int .u64 b)] (hap (H.set id (some ⟨1, u32s (fl N (xr f off y))⟩)) [])
        fun r' H' => ∃ H1 L, H' = hap H1 L ∧ H1.length = H.length ∧ HRefs H1 ∧ Ref (· < H.length) r' ∧ r' = .int .u32 (S / val v : Nat) ∧ H1 = H.set id (some ⟨1, u32s (fl N (xr f off (fl (n + 1) (dig (S % val v)))))⟩) := by
    intro q
    induction q with
    | zero =>
      intro b y hy ly hb hval hq hql
      have hyl := val_lt ly
      rw [hy] at hyl
      have hb0 : b = 0 := by
        rcases Nat.eq_zero_or_pos b with h | h
        · exact h
        · have : b = 1 := by omega
          subst this; omega
      subst hb0
      refine Safe.inLoop ?_
      refine Safe.rg rfl ?_
      simp only [nat_digit_r16, show ((0 : Int) < ((0 : Nat) : Int)) = False by simp, E3, Nat.reduceLeDiff, Nat.reduceSub, Nat.reduceAdd, Nat.reduceEqDiff, reduceCtorEq, ↓reduceIte]
      refine Safe.cd rfl ?_
      simp only [E3, Nat.reduceLeDiff, Nat.reduceSub, Nat.reduceAdd, Nat.reduceEqDiff, reduceCtorEq, ↓reduceIte]
      refine Safe.exit rfl ?_
      refine Safe.rg rfl ?_
      simp only [nat_digit_r29, wrap32 (x := 0) (by decide), E3, Nat.reduceLeDiff, Nat.reduceSub, Nat.reduceAdd, Nat.reduceEqDiff, reduceCtorEq, ↓reduceIte]
      refine Safe.rt rfl ?_
      simp only [E3, Nat.reduceLeDiff, Nat.reduceSub, Nat.reduceAdd, Nat.reduceEqDiff, reduceCtorEq, ↓reduceIte]
      have e1 : S / val v = 0 := Nat.le_zero.1 hq
      have e2 : S % val v = val y := by
        have := Nat.mod_add_div S (val v)
        rw [e1] at this
        omega
      refine ⟨_, [], rfl, by simp, HRefs.set hH id fun a ha => (blk_u32 _ a ha).ref, .int _ _, by rw [e1], ?_⟩
      rw [e2, ← lim_fl_val ly hy]
    | succ q ih =>
      intro b y hy ly hb hval hq hql
      have hyl := val_lt ly
      rw [hy] at hyl
      refine Safe.inLoop ?_
      by_cases hb0 : b = 0
      · subst hb0
        refine Safe.rg rfl ?_
        simp only [nat_digit_r16, show ((0 : Int) < ((0 : Nat) : Int)) = False by simp, E3, Nat.reduceLeDiff, Nat.reduceSub, Nat.reduceAdd, Nat.reduceEqDiff, reduceCtorEq, ↓reduceIte]
        refine Safe.cd rfl ?_
        simp only [E3, Nat.reduceLeDiff, Nat.reduceSub, Nat.reduceAdd, Nat.reduceEqDiff, reduceCtorEq, ↓reduceIte]
        refine Safe.exit rfl ?_
        refine Safe.rg rfl ?_
        simp only [nat_digit_r29, wrap32 (x := q + 1) (by omega), E3, Nat.reduceLeDiff, Nat.reduceSub, Nat.reduceAdd, Nat.reduceEqDiff, reduceCtorEq, ↓reduceIte]
        refine Safe.rt rfl ?_
        simp only [E3, Nat.reduceLeDiff, Nat.reduceSub, Nat.reduceAdd, Nat.reduceEqDiff, reduceCtorEq, ↓reduceIte]
        have e1 : S / val v = q + 1 := by
          have : (q + 1) ≤ S / val v := by rw [Nat.le_div_iff_mul_le hv0]; omega
          omega
        have e2 : S % val v = val y := by
          have := Nat.mod_add_div S (val v)
          rw [e1, Nat.mul_comm (val v)] at this
          omega
        refine ⟨_, [], rfl, by simp, HRefs.set hH id fun a ha => (blk_u32 _ a ha).ref, .int _ _, by rw [e1], ?_⟩
        rw [e2, ← lim_fl_val ly hy]
      · have hb1 : b = 1 := by omega
        subst hb1
        have hlq : S / val v ≤ q := by
          have h1 : S < (q + 1) * val v := by omega
          have := (Nat.div_lt_iff_lt_mul hv0).2 h1
          omega
        have w3 : IntKind.wrap .u64 (((q + 1 : Nat) : Int) - 1) = (q : Int) := by rw [wrap_u64] <;> omega
        refine Safe.rg rfl ?_
        simp only [nat_digit_r16, show ((0 : Int) < ((1 : Nat) : Int)) = True by simp, E3, Nat.reduceLeDiff, Nat.reduceSub, Nat.reduceAdd, Nat.reduceEqDiff, reduceCtorEq, ↓reduceIte]
        refine Safe.cd rfl ?_
        simp only [E3, Nat.reduceLeDiff, Nat.reduceSub, Nat.reduceAdd, Nat.reduceEqDiff, reduceCtorEq, ↓reduceIte]
        refine Safe.rg rfl ?_
        simp only [nat_digit_r17, w3, E3, Nat.reduceLeDiff, Nat.reduceSub, Nat.reduceAdd, Nat.reduceEqDiff, reduceCtorEq, ↓reduceIte]
        refine Safe.rg rfl ?_
        simp only [nat_digit_r18, E3, Nat.reduceLeDiff, Nat.reduceSub, Nat.reduceAdd, Nat.reduceEqDiff, reduceCtorEq, ↓reduceIte]
        refine Safe.rg rfl ?_
        simp only [nat_digit_r19, w2, E3, Nat.reduceLeDiff, Nat.reduceSub, Nat.reduceAdd, Nat.reduceEqDiff, reduceCtorEq, ↓reduceIte]
        refine Safe.lp rfl ?_
        refine Safe.keep [0, 1, 5, 7, 9, 13, 83, 84] ?_
        simp only [E3, Nat.reduceLeDiff, Nat.reduceSub, Nat.reduceAdd, Nat.reduceEqDiff, reduceCtorEq, ↓reduceIte]
        refine digit_add (b := 1) hid hv hn hoff hN (xr_lt hf ly) fun z c hz lz hc hzv => ?_
        have hseg := xr_seg (g := f) (off := off) (x := y)
        rw [hy] at hseg
        rw [hseg] at hzv
        rw [xr_xr (by rw [hy, hz])]
        have w4 : IntKind.wrap .u64 (((1 : Nat) : Int) - (c : Int)) = ((1 - c : Nat) : Int) := by rw [wrap_u64] <;> omega
        refine Safe.rg rfl ?_
        simp only [nat_digit_r28, w4, E3, Nat.reduceLeDiff, Nat.reduceSub, Nat.reduceAdd, Nat.reduceEqDiff, reduceCtorEq, ↓reduceIte]
        refine Safe.inBlock ?_
        refine Safe.keep [0, 1, 5, 7, 9] ?_
        simp only [E3, Nat.reduceLeDiff, Nat.reduceSub, Nat.reduceAdd, Nat.reduceEqDiff, reduceCtorEq, ↓reduceIte]
        have hexp : (q + 1) * val v = q * val v + val v := by rw [Nat.add_mul, Nat.one_mul]
        refine ih (1 - c) z hz lz (by omega) ?_ hlq (by omega)
        rcases Nat.eq_zero_or_pos c with h | h
        · subst h; omega
        · have : c = 1 := by omega
          subst this; omega
  exact key q0 b y hy ly hb hval hguess hq0l
end Go.Abs
set_option linter.unusedVariables false
set_option linter.unusedSimpArgs false
namespace Go.Abs
theorem hap_hap (H L M : Heap) : hap (hap H L) M = hap H (L ++ M) := by simp [hap]
theorem lid_hap (H L : Heap) (i : Nat) : lid (hap H L) i = lid H (L.length + i) := by simp [hap, lid, Nat.add_assoc]
theorem limbs_idem (n : Nat) : limbs (val (limbs n)) = limbs n := by rw [val_limbs]
theorem fl_limbs {M k n : Nat} (hk : k = (limbs M).length) (hn : k ≤ n) : (fl n (dig M)).take k = limbs M := by
  rw [fl_take _ hn, hk]
  have := lim_fl_val (lim_limbs M) rfl
  rw [val_limbs] at this
  exact this.symm
theorem frz_part {H : Heap} {i len : Nat} {X : List Nat} (oc : Option Nat) (h : len ≤ X.length) : frz (lid H i) ⟨1, u32s X⟩ (.mu (lid H i) 0 len oc) = natV (X.take len) := by
  simp only [frz, if_true, Nat.zero_add, u32s_len, h, List.drop_zero, u32s_take]; rfl
theorem app_part {H : Heap} (hH : HRefs H) {n0 : Nat} {env : Env} {L : Heap} {len c : Nat} {X l : List Nat} {o : Option Blk} (hn : n0 ≤ lid H 0) (hlen : len ≤ X.length) (hc : c < len + l.length) (hb : X.length + l.length ≤ 35184372088832) :
    appV n0 1 4 false (.mu (lid H 0) 0 len (some c)) (.sl 1 (u32s l)) env (hap H [some ⟨1, u32s X⟩]) = some (.mu (lid H 0) 0 (len + l.length) none, scrub (lid H 0) env, hap H [some ⟨1, u32s (X.take len ++ l)⟩]) := by
  have hf : free (hap H [some ⟨1, u32s X⟩]) (lid H 0) = true := free_hap hH (aside_cl fun b hb a ha => by
    simp at hb; subst hb; exact blk_u32 X a ha)
  simp only [appV, srcEls_sl, Option.bind_some, hrow_hap, List.getElem?_cons_zero, Option.join_some, set_hap, List.set_cons_zero]
  rw [if_neg (by simp [u32s_len]; omega), if_pos]
  · simp only [u32s_len, u32s_take, u32s_append, capAfter]
    rw [Option.bind_some, if_neg (by omega)]
  · simp only [u32s_len, true_and]
    refine ⟨hlen, hn, hf, ?_, ?_, by omega, by omega⟩
    · exact List.all_eq_true.2 fun a ha => nref_cl (u32s_clf ha)
    · exact List.all_eq_true.2 fun a ha => nref_cl (u32s_clf ha)
theorem slc_lohi {H L : Heap} {i lo hi len m : Nat} {b : Blk} (hl : L[i]? = some (some b)) {wd : Nat} (hw : b.wd = wd) (oc : Option Nat) (k k' : IntKind) (h1 : hi = lo + m) (h2 : hi ≤ len) :
    slcV (hap H L) wd (.mu (lid H i) 0 len oc) (some (.int k lo)) (some (.int k' hi)) none = some (.mu (lid H i) lo m (oc.map (· - lo))) := by
  subst h1
  simp only [slcV, hrow_hap, hl, Option.join_some, Option.bind_some, boundV]
  rw [if_pos ⟨hw, by omega, by omega, by omega⟩]
  simp
  omega
/-- The rests, from the top. -/
theorem rest_step {U V i nv : Nat} (hV : V < LB ^ nv) (hV0 : 0 < V) : (∀ j, xr (dig (U % (V * LB ^ (i + 1)))) i (fl (nv + 1) (dig (U % (V * LB ^ (i + 1)) / LB ^ i % V))) j = dig (U % (V * LB ^ i)) j) ∧
    U % (V * LB ^ (i + 1)) / LB ^ i / V = dig (U / V) i ∧ val (fl (nv + 1) fun t => dig (U % (V * LB ^ (i + 1))) (i + t)) = U % (V * LB ^ (i + 1)) / LB ^ i ∧ U % (V * LB ^ (i + 1)) / LB ^ i < LB * V := by
  have hp := pow_pos' i
  have e1 : V * LB ^ (i + 1) = V * LB ^ i * LB := by rw [Nat.pow_succ, Nat.mul_assoc]
  have hR1 : U % (V * LB ^ (i + 1)) < V * LB ^ (i + 1) := Nat.mod_lt _ (Nat.mul_pos hV0 (pow_pos' _))
  have hS : U % (V * LB ^ (i + 1)) / LB ^ i < LB * V := by
    rw [Nat.div_lt_iff_lt_mul hp]
    have : LB * V * LB ^ i = V * LB ^ (i + 1) := by rw [e1]; rw [Nat.mul_comm LB, Nat.mul_right_comm]
    rw [this]; exact hR1
  have hSl : U % (V * LB ^ (i + 1)) / LB ^ i < LB ^ (nv + 1) := by
    have : LB * V ≤ LB ^ (nv + 1) := by rw [Nat.pow_succ']; exact Nat.mul_le_mul_left _ (Nat.le_of_lt hV)
    omega
  have hR : U % (V * LB ^ i) = U % (V * LB ^ (i + 1)) % (V * LB ^ i) := by
    rw [e1, Nat.mod_mul_right_mod]
  have hq : U % (V * LB ^ (i + 1)) / LB ^ i % V = U % (V * LB ^ i) / LB ^ i := by
    rw [hR, Nat.mul_comm V (LB ^ i), Nat.mod_mul_right_div_self]
  refine ⟨fun j => ?_, ?_, ?_, hS⟩
  · unfold xr
    rw [fl_len]
    by_cases h : i ≤ j ∧ j < i + (nv + 1)
    · rw [if_pos h, fl_get (by omega), hq, dig_div]
      congr 1; omega
    · rw [if_neg h]
      rcases Nat.lt_or_ge j i with h1 | h1
      · have h2 := Nat.mod_add_div (U % (V * LB ^ (i + 1))) (V * LB ^ i)
        rw [← hR] at h2
        have h3 : V * LB ^ i * (U % (V * LB ^ (i + 1)) / (V * LB ^ i)) = LB ^ i * (V * (U % (V * LB ^ (i + 1)) / (V * LB ^ i))) := by rw [Nat.mul_comm V, Nat.mul_assoc]
        rw [h3] at h2
        conv => lhs; rw [← h2]
        exact dig_add_mul _ h1
      · have hj : i + (nv + 1) ≤ j := by omega
        have hpj : LB ^ (nv + (i + 1)) ≤ LB ^ j := Nat.pow_le_pow_right (by decide) (by omega)
        have h3 : V * LB ^ (i + 1) ≤ LB ^ (nv + (i + 1)) := by rw [Nat.pow_add LB nv (i + 1)]; exact Nat.mul_le_mul_right _ (Nat.le_of_lt hV)
        have h4 : U % (V * LB ^ i) ≤ U % (V * LB ^ (i + 1)) := by rw [hR]; exact Nat.mod_le _ _
        rw [dig_high (by omega), dig_high (by omega)]
  · rw [Nat.div_div_eq_div_mul, Nat.mul_comm (LB ^ i), e1, Nat.mod_mul_right_div_self]
    unfold dig
    rw [Nat.div_div_eq_div_mul]
  · have : (fl (nv + 1) fun t => dig (U % (V * LB ^ (i + 1))) (i + t)) = fl (nv + 1) (dig (U % (V * LB ^ (i + 1)) / LB ^ i)) := fl_congr fun t _ => (dig_div _ _ _).symm
    rw [this, val_fl_all hSl]
theorem last_pos {l : List Nat} (h : (l.getLast?).getD 1 ≠ 0) (hl : 0 < l.length) : 0 < l.getD (l.length - 1) 0 := by
  rw [List.getLast?_eq_getElem?, List.getElem?_eq_getElem (by omega)] at h
  rw [List.getD_eq_getElem?_getD, List.getElem?_eq_getElem (by omega)]
  simp at h ⊢; omega
theorem blen_le32 {n : Nat} (h : n < LB) : blen n ≤ 32 := by
  rcases Nat.lt_or_ge 32 (blen n) with hc | hc
  · exfalso
    have h0 : n ≠ 0 := by rintro rfl; simp [blen_zero] at hc
    have := blen_ge h0
    have h2 : 2 ^ 32 ≤ 2 ^ (blen n - 1) := Nat.pow_le_pow_right (by decide) (by omega)
    have : (2 : Nat) ^ 32 = LB := by decide
    omega
  · exact hc
/-- Doubled till the top bit is set: as many limbs. -/
theorem norm_len {l : List Nat} (hl : Lim l) (h0 : 0 < l.length) (ht : 0 < l.getD (l.length - 1) 0) : val l * 2 ^ (32 - blen (l.getD (l.length - 1) 0)) < LB ^ l.length ∧ LB ^ (l.length - 1) ≤ val l := by
  have hd := getD_lt hl (l.length - 1)
  have hb := blen_le32 hd
  have hs := val_split l (l.length - 1)
  have hdr : val (l.drop (l.length - 1)) = l.getD (l.length - 1) 0 := by
    rw [val_drop_succ, show l.length - 1 + 1 = l.length by omega, List.drop_length]; simp [val]
  rw [hdr] at hs
  have htk := val_take_lt hl (l.length - 1)
  generalize l.getD (l.length - 1) 0 = d at *
  have hlt := blen_lt d
  constructor
  · have h1 : val l < LB ^ (l.length - 1) * 2 ^ blen d := by
      have : LB ^ (l.length - 1) * (d + 1) ≤ LB ^ (l.length - 1) * 2 ^ blen d := Nat.mul_le_mul_left _ hlt
      rw [Nat.mul_add] at this
      omega
    have h2 : LB ^ (l.length - 1) * 2 ^ blen d * 2 ^ (32 - blen d) = LB ^ l.length := by
      rw [Nat.mul_assoc, ← Nat.pow_add, show blen d + (32 - blen d) = 32 by omega, show (2 : Nat) ^ 32 = LB by decide, ← Nat.pow_succ]
      congr 1; omega
    rw [← h2]
    exact Nat.mul_lt_mul_of_pos_right h1 (Nat.pow_pos (by decide))
  · have : LB ^ (l.length - 1) * 1 ≤ LB ^ (l.length - 1) * d := Nat.mul_le_mul_left _ ht
    omega
theorem natV_one (r : Nat) : AV.sl 1 [.int .u32 (r : Int)] = natV [r] := rfl
theorem limbs_one {r : Nat} : val [r] = r := by simp [val]
theorem natdiv_pure (a b : List Nat) (ha : Nt a) (hb : Nt b) (hal : a.length < 17592186044000) (hbl : b.length < 17592186044000) (hb0 : val b ≠ 0) : PureC Pr F_nat_Div [natV a, natV b] (.tup [natV (limbs (val a / val b)), natV (limbs (val a % val b)), .int .i64 0]) := by
  have hLB : LB = 4294967296 := rfl
  have hna := ha.limbs
  have hnb := hb.limbs
  have hlal : (limbs (val a)).length < 17592186044000 := Nat.lt_of_le_of_lt (limbs_val_len ha.lim) hal
  have hlbl : (limbs (val b)).length < 17592186044000 := Nat.lt_of_le_of_lt (limbs_val_len hb.lim) hbl
  have hva := val_limbs (val a)
  have hvb := val_limbs (val b)
  have hlasta := limbs_last (val a)
  have hlastb := limbs_last (val b)
  have hia := limbs_idem (val a)
  have hib := limbs_idem (val b)
  refine PureC.introL nat_Div_fn nat_Div_ok (Nat.le_of_ble_eq_true rfl) (cl_tup3 (natV_cl _) (natV_cl _) (.int _ _)) fun H hH => ?_
  refine Safe.rg rfl ?_
  simp only [nat_Div_r0, E3, Nat.reduceLeDiff, Nat.reduceSub, Nat.reduceAdd, Nat.reduceEqDiff, reduceCtorEq, ↓reduceIte]
  refine Safe.rg rfl ?_
  simp only [nat_Div_r1, E3, Nat.reduceLeDiff, Nat.reduceSub, Nat.reduceAdd, Nat.reduceEqDiff, reduceCtorEq, ↓reduceIte]
  first | refine (trim_pure a ha.lim ha.len).acall ?_ | refine (trim_pure a ha.lim ha.len).dcall ?_
  try simp only [E3, Nat.reduceLeDiff, Nat.reduceSub, Nat.reduceAdd, Nat.reduceEqDiff, reduceCtorEq, ↓reduceIte]
  first | refine (trim_pure b hb.lim hb.len).acall ?_ | refine (trim_pure b hb.lim hb.len).dcall ?_
  try simp only [E3, Nat.reduceLeDiff, Nat.reduceSub, Nat.reduceAdd, Nat.reduceEqDiff, reduceCtorEq, ↓reduceIte]
  generalize limbs (val a) = la at *
  generalize limbs (val b) = lb at *
  generalize val a = A at *
  generalize val b = B at *
  subst hva
  subst hvb
  have hb1 : 0 < lb.length := by
    rcases Nat.eq_zero_or_pos lb.length with h | h
    · exfalso; have := List.length_eq_zero_iff.1 h; subst this; exact hb0 rfl
    · exact h
  have hB : 0 < val lb := Nat.pos_of_ne_zero hb0
  refine Safe.rg rfl ?_
  simp only [nat_Div_r2, show (((lb.length : Nat) : Int) = 0) = False from eq_false (by omega), E3, Nat.reduceLeDiff, Nat.reduceSub, Nat.reduceAdd, Nat.reduceEqDiff, reduceCtorEq, ↓reduceIte]
  refine Safe.cd rfl ?_
  simp only [E3, Nat.reduceLeDiff, Nat.reduceSub, Nat.reduceAdd, Nat.reduceEqDiff, reduceCtorEq, ↓reduceIte]
  refine Safe.rg rfl ?_
  simp only [nat_Div_r4, E3, Nat.reduceLeDiff, Nat.reduceSub, Nat.reduceAdd, Nat.reduceEqDiff, reduceCtorEq, ↓reduceIte]
  refine (natcmp_pure la lb hna hnb).acall ?_
  by_cases hab : val la < val lb
  · have hcm : (cmpI (val la) (val lb) < 0) = True := by rw [cmpI_lt]; exact eq_true hab
    simp only [hcm, E3, Nat.reduceLeDiff, Nat.reduceSub, Nat.reduceAdd, Nat.reduceEqDiff, reduceCtorEq, ↓reduceIte]
    refine Safe.cd rfl ?_
    simp only [E3, Nat.reduceLeDiff, Nat.reduceSub, Nat.reduceAdd, Nat.reduceEqDiff, reduceCtorEq, ↓reduceIte]
    refine Safe.rg rfl ?_
    simp only [nat_Div_r5, E3, Nat.reduceLeDiff, Nat.reduceSub, Nat.reduceAdd, Nat.reduceEqDiff, reduceCtorEq, ↓reduceIte]
    first | refine (norm_pure la hna).acall ?_ | refine (norm_pure la hna).dcall ?_
    try simp only [E3, Nat.reduceLeDiff, Nat.reduceSub, Nat.reduceAdd, Nat.reduceEqDiff, reduceCtorEq, ↓reduceIte]
    refine Safe.rt rfl ?_
    simp only [E3, Nat.reduceLeDiff, Nat.reduceSub, Nat.reduceAdd, Nat.reduceEqDiff, reduceCtorEq, ↓reduceIte]
    rw [Nat.div_eq_of_lt hab, Nat.mod_eq_of_lt hab, limbs_zero]
    exact ⟨Le.tup3 (Le.nil 1 (by decide)) (Le.refl _) (Le.refl _), _, rfl⟩
  have hcm : (cmpI (val la) (val lb) < 0) = False := by rw [cmpI_lt]; exact eq_false hab
  simp only [hcm, E3, Nat.reduceLeDiff, Nat.reduceSub, Nat.reduceAdd, Nat.reduceEqDiff, reduceCtorEq, ↓reduceIte]
  refine Safe.cd rfl ?_
  simp only [E3, Nat.reduceLeDiff, Nat.reduceSub, Nat.reduceAdd, Nat.reduceEqDiff, reduceCtorEq, ↓reduceIte]
  have htb := last_pos hlastb hb1
  have hdl := getD_lt hnb.lim (lb.length - 1)
  by_cases hone : lb.length = 1
  · have h1 : (((lb.length : Nat) : Int) = 1) = True := eq_true (by omega)
    refine Safe.rg rfl ?_
    simp only [nat_Div_r6, h1, E3, Nat.reduceLeDiff, Nat.reduceSub, Nat.reduceAdd, Nat.reduceEqDiff, reduceCtorEq, ↓reduceIte]
    refine Safe.cd rfl ?_
    simp only [E3, Nat.reduceLeDiff, Nat.reduceSub, Nat.reduceAdd, Nat.reduceEqDiff, reduceCtorEq, ↓reduceIte]
    have hvb1 : val lb = lb.getD 0 0 := by
      have := val_drop_succ lb 0
      rw [List.drop_zero, List.drop_eq_nil_of_le (by omega)] at this
      simpa [val] using this
    have i0 := natV_idx (hap H []) lb .i64 0 hb1
    rw [Int.natCast_zero] at i0
    have hd0 : 0 < lb.getD 0 0 := by rw [← hvb1]; exact hB
    have hd1 : lb.getD 0 0 < LB := getD_lt hnb.lim 0
    refine Safe.rg rfl ?_
    simp only [nat_Div_r7, i0, E3, Nat.reduceLeDiff, Nat.reduceSub, Nat.reduceAdd, Nat.reduceEqDiff, reduceCtorEq, ↓reduceIte]
    first | refine (short_pure la (lb.getD 0 0) hna hd0 hd1).acall ?_ | refine (short_pure la (lb.getD 0 0) hna hd0 hd1).dcall ?_
    try simp only [E3, Nat.reduceLeDiff, Nat.reduceSub, Nat.reduceAdd, Nat.reduceEqDiff, reduceCtorEq, ↓reduceIte]
    have hrl : val la % lb.getD 0 0 < LB := Nat.lt_trans (Nat.mod_lt _ hd0) hd1
    refine Safe.rg rfl ?_
    simp only [nat_Div_r8, natV_one, E3, Nat.reduceLeDiff, Nat.reduceSub, Nat.reduceAdd, Nat.reduceEqDiff, reduceCtorEq, ↓reduceIte]
    first | refine (trim_pure [val la % lb.getD 0 0] (by intro d hd; simp at hd; subst hd; exact hrl) (by simp)).acall ?_ | refine (trim_pure [val la % lb.getD 0 0] (by intro d hd; simp at hd; subst hd; exact hrl) (by simp)).dcall ?_
    try simp only [E3, Nat.reduceLeDiff, Nat.reduceSub, Nat.reduceAdd, Nat.reduceEqDiff, reduceCtorEq, ↓reduceIte]
    refine Safe.rt rfl ?_
    simp only [E3, Nat.reduceLeDiff, Nat.reduceSub, Nat.reduceAdd, Nat.reduceEqDiff, reduceCtorEq, ↓reduceIte]
    rw [hvb1, limbs_one]
    exact ⟨Le.refl _, _, rfl⟩
  have h1 : (((lb.length : Nat) : Int) = 1) = False := eq_false (by omega)
  refine Safe.rg rfl ?_
  simp only [nat_Div_r6, h1, E3, Nat.reduceLeDiff, Nat.reduceSub, Nat.reduceAdd, Nat.reduceEqDiff, reduceCtorEq, ↓reduceIte]
  refine Safe.cd rfl ?_
  simp only [E3, Nat.reduceLeDiff, Nat.reduceSub, Nat.reduceAdd, Nat.reduceEqDiff, reduceCtorEq, ↓reduceIte]
  have w0 : IntKind.wrap .i64 (((lb.length : Nat) : Int) - 1) = ((lb.length - 1 : Nat) : Int) := by rw [wrap_i64] <;> omega
  refine Safe.rg rfl ?_
  simp only [nat_Div_r9, w0, natV_idx _ lb _ (lb.length - 1) (by omega), E3, Nat.reduceLeDiff, Nat.reduceSub, Nat.reduceAdd, Nat.reduceEqDiff, reduceCtorEq, ↓reduceIte]
  first | refine (clz_pure _ hdl).acall ?_ | refine (clz_pure _ hdl).dcall ?_
  try simp only [E3, Nat.reduceLeDiff, Nat.reduceSub, Nat.reduceAdd, Nat.reduceEqDiff, reduceCtorEq, ↓reduceIte]
  obtain ⟨hVl, hBl⟩ := norm_len hnb.lim hb1 htb
  have hn32 : 32 - blen (lb.getD (lb.length - 1) 0) < 32 := by
    have : 0 < blen (lb.getD (lb.length - 1) 0) := by unfold blen; rw [if_neg (by omega)]; omega
    omega
  generalize hn : 32 - blen (lb.getD (lb.length - 1) 0) = n at *
  have hp2 : 0 < 2 ^ n := Nat.pow_pos (by decide)
  -- the divisor
  refine Safe.rg rfl ?_
  simp only [nat_Div_r10, E3, Nat.reduceLeDiff, Nat.reduceSub, Nat.reduceAdd, Nat.reduceEqDiff, reduceCtorEq, ↓reduceIte]
  refine ACalls.mono (shl_calls lb n hnb (by omega) hb0 hn32 (hap H [])) ?_
  rintro r' H' ⟨rfl, rfl⟩
  simp only [hap_hap, lid_hap, List.nil_append, List.length_nil, hib, E3, Nat.reduceLeDiff, Nat.reduceSub, Nat.reduceAdd, Nat.reduceEqDiff, reduceCtorEq, ↓reduceIte]
  have hVp : 0 < val lb * 2 ^ n := Nat.mul_pos hB hp2
  have hnv1 : (limbs (val lb * 2 ^ n)).length ≤ lb.length := limbs_len_le hVl
  have hnv2 : lb.length ≤ (limbs (val lb * 2 ^ n)).length := by
    rcases Nat.lt_or_ge (limbs (val lb * 2 ^ n)).length lb.length with h | h
    · exfalso
      have h2 := val_lt (lim_limbs (val lb * 2 ^ n))
      rw [val_limbs] at h2
      have h3 : LB ^ (limbs (val lb * 2 ^ n)).length ≤ LB ^ (lb.length - 1) := Nat.pow_le_pow_right (by decide) (by omega)
      have h4 : val lb * 1 ≤ val lb * 2 ^ n := Nat.mul_le_mul_left _ hp2
      omega
    · exact h
  have hnv : (limbs (val lb * 2 ^ n)).length = lb.length := by omega
  refine Safe.freeze 0 hH rfl rfl (blk_u32 _) ?_
  refine Safe.keep [0, 1, 9, 10] ?_
  simp only [frz_part (H := H) (i := 0) _ (show (limbs (val lb * 2 ^ n)).length ≤ (fl (lb.length + 1) (dig (val lb * 2 ^ n))).length by rw [fl_len]; omega), fl_limbs (M := val lb * 2 ^ n) rfl (show (limbs (val lb * 2 ^ n)).length ≤ lb.length + 1 by omega), E3, Nat.reduceLeDiff, Nat.reduceSub, Nat.reduceAdd, Nat.reduceEqDiff, reduceCtorEq, ↓reduceIte]
  refine Safe.drop0 hH rfl (by simp only [List.all_cons, List.all_nil, E3, Nat.reduceLeDiff, Nat.reduceSub, Nat.reduceAdd, Nat.reduceEqDiff, reduceCtorEq, ↓reduceIte]) (by repeat (first | exact RC.nil | refine RC.none ?_ | refine RC.row ZI.cl ?_ | refine RC.cons (blk_u32 _) ?_ | refine RC.row vecV_cl ?_ | refine RC.emp ?_ | refine RC.zero ?_ | refine RC.one (Z_cl _) ?_ | refine RC.one (ZI.cl _) ?_ | refine RC.one (vecV_cl _) ?_)) ?_
  -- the dividend
  have hA0 : val la ≠ 0 := by omega
  have hla1 : 0 < la.length := by
    rcases Nat.eq_zero_or_pos la.length with h | h
    · exfalso; have := List.length_eq_zero_iff.1 h; subst this; exact hA0 rfl
    · exact h
  have hU1 : la.length ≤ (limbs (val la * 2 ^ n)).length := by
    rcases Nat.lt_or_ge (limbs (val la * 2 ^ n)).length la.length with h | h
    · exfalso
      have h2 := val_lt (lim_limbs (val la * 2 ^ n))
      rw [val_limbs] at h2
      have h3 : LB ^ (limbs (val la * 2 ^ n)).length ≤ LB ^ (la.length - 1) := Nat.pow_le_pow_right (by decide) (by omega)
      have h4 : val la * 1 ≤ val la * 2 ^ n := Nat.mul_le_mul_left _ hp2
      have h5 := (norm_len hna.lim hla1 (last_pos hlasta hla1)).2
      omega
    · exact h
  have hU2 : val la * 2 ^ n < LB ^ (la.length + 1) := by
    rw [Nat.pow_succ]
    have h2n : 2 ^ n ≤ LB := by
      have : LB = 2 ^ (32 - n) * 2 ^ n := by rw [← Nat.pow_add, show 32 - n + n = 32 by omega]
      rw [this]; exact Nat.le_mul_of_pos_left _ (Nat.pow_pos (by decide))
    exact Nat.lt_of_lt_of_le (Nat.mul_lt_mul_of_pos_right (val_lt hna.lim) hp2) (Nat.mul_le_mul_left _ h2n)
  have hU3 : (limbs (val la * 2 ^ n)).length ≤ la.length + 1 := limbs_len_le hU2
  refine Safe.rg rfl ?_
  simp only [nat_Div_r11, E3, Nat.reduceLeDiff, Nat.reduceSub, Nat.reduceAdd, Nat.reduceEqDiff, reduceCtorEq, ↓reduceIte]
  refine ACalls.mono (shl_calls la n hna (by omega) hA0 hn32 (hap H [])) ?_
  rintro r' H' ⟨rfl, rfl⟩
  generalize hK : (limbs (val la * 2 ^ n)).length = K at *
  have hrow : (fl (la.length + 1) (dig (val la * 2 ^ n))).take K ++ [0, 0] = fl (K + 2) (dig (val la * 2 ^ n)) := by
    have hh : val la * 2 ^ n < LB ^ K := by have := val_lt (lim_limbs (val la * 2 ^ n)); rwa [val_limbs, hK] at this
    have hh2 : val la * 2 ^ n < LB ^ (K + 1) := Nat.lt_of_lt_of_le hh (Nat.pow_le_pow_right (by decide) (by omega))
    rw [fl_take _ hU3, fl_succ, fl_succ, dig_high hh, dig_high hh2, List.append_assoc]; rfl
  have happ := fun (env : Env) => app_part (H := H) hH (n0 := H.length) (env := env) (L := []) (len := K) (c := la.length + 1) (X := fl (la.length + 1) (dig (val la * 2 ^ n))) (l := [0, 0]) (o := none) (lid_ge H 0) (by rw [fl_len]; exact hU3) (by simp; omega) (by rw [fl_len]; simp; omega)
  have w2 : IntKind.wrap .i64 ((la.length : Int) + 1) = ((la.length + 1 : Nat) : Int) := by rw [wrap_i64] <;> omega
  have hslc : slcV (hap H [some ⟨1, u32s (fl (K + 2) (dig (val la * 2 ^ n)))⟩]) 1 (.mu (lid H 0) 0 (K + 2) none) none (some (.int .i64 ((la.length + 1 : Nat) : Int))) none = some (.mu (lid H 0) 0 (la.length + 1) none) := by
    simp only [slcV, hrow_hap, List.getElem?_cons_zero, Option.join_some, Option.bind_some, boundV]
    rw [if_pos ⟨trivial, by omega, by omega, by omega⟩]
    simp
  simp only [u32s_cons, u32s_nil, Int.natCast_zero, List.length_cons, List.length_nil, hrow] at happ
  simp only [hap_hap, lid_hap, List.nil_append, List.length_nil, hia, E3, Nat.reduceLeDiff, Nat.reduceSub, Nat.reduceAdd, Nat.reduceEqDiff, reduceCtorEq, ↓reduceIte]
  simp only [happ, w2, hslc, E3, Nat.reduceLeDiff, Nat.reduceSub, Nat.reduceAdd, Nat.reduceEqDiff, reduceCtorEq, ↓reduceIte]
  have hle : lb.length ≤ la.length := by
    rcases Nat.lt_or_ge la.length lb.length with h | h
    · exfalso
      have h2 := val_lt hna.lim
      have h3 : LB ^ la.length ≤ LB ^ (lb.length - 1) := Nat.pow_le_pow_right (by decide) (by omega)
      omega
    · exact h
  have w3 : IntKind.wrap .i64 ((la.length : Int) - (lb.length : Int)) = ((la.length - lb.length : Nat) : Int) := by rw [wrap_i64] <;> omega
  generalize hm : la.length - lb.length = m at *
  have w4 : IntKind.wrap .i64 ((m : Int) + 1) = ((m + 1 : Nat) : Int) := by rw [wrap_i64] <;> omega
  refine Safe.rg rfl ?_
  simp only [nat_Div_r12, w3, w4, mksl_fl (H := H) (L := [some ⟨1, u32s (fl (K + 2) (dig (val la * 2 ^ n)))⟩]) (n := m + 1) (by omega), E3, Nat.reduceLeDiff, Nat.reduceSub, Nat.reduceAdd, Nat.reduceEqDiff, reduceCtorEq, ↓reduceIte]
  refine Safe.rg rfl ?_
  simp only [nat_Div_r13, w3, E3, Nat.reduceLeDiff, Nat.reduceSub, Nat.reduceAdd, Nat.reduceEqDiff, reduceCtorEq, ↓reduceIte]
  have hUV : val la * 2 ^ n < val lb * 2 ^ n * LB ^ (m + 1) := by
    rw [Nat.mul_right_comm]
    refine Nat.mul_lt_mul_of_pos_right ?_ hp2
    have h1 := val_lt hna.lim
    have h2 : LB ^ (lb.length - 1) * LB ^ (m + 1) ≤ val lb * LB ^ (m + 1) := Nat.mul_le_mul_right _ hBl
    rw [← Nat.pow_add, show lb.length - 1 + (m + 1) = la.length by omega] at h2
    omega
  generalize hU : val la * 2 ^ n = U at *
  generalize hV : val lb * 2 ^ n = V at *
  have hvt : 0 < (limbs V).getD (lb.length - 1) 0 := by
    have := last_pos (limbs_last V) (by omega)
    rwa [hnv] at this
  refine Safe.lp rfl ?_
  refine Safe.keep [0, 1, 9, 10, 11, 12, 13] ?_
  simp only [E3, Nat.reduceLeDiff, Nat.reduceSub, Nat.reduceAdd, Nat.reduceEqDiff, reduceCtorEq, ↓reduceIte]
  refine Safe.loopD (m + 1) (fun i => [(0, natV la), (1, natV lb), (9, .int .i64 n), (10, natV (limbs V)), (11, .mu (lid H 0) 0 (la.length + 1) none), (12, .mu (lid H 1) 0 (m + 1) (some (m + 1))), (13, .int .i64 ((i : Int) - 1))])
    (fun i => hap H [some ⟨1, u32s (fl (K + 2) (dig (U % (V * LB ^ i))))⟩, some ⟨1, u32s (fl (m + 1) fun j => if i ≤ j then dig (U / V) j else 0)⟩]) ?_ ?_ (fun i hi ih => ?_) ?_
  · have : (((m + 1 : Nat) : Int) - 1) = (m : Int) := by omega
    rw [this]
  · rw [digs_zero, Nat.mod_eq_of_lt hUV]
  · have e1 : ((i + 1 : Nat) : Int) - 1 = (i : Int) := by omega
    rw [e1]
    obtain ⟨s1, s2, s3, s4⟩ := rest_step (U := U) (V := V) (i := i) (nv := lb.length) hVl hVp
    refine Safe.inLoop ?_
    refine Safe.rg rfl ?_
    simp only [nat_Div_r14, Int.natCast_nonneg i, E3, Nat.reduceLeDiff, Nat.reduceSub, Nat.reduceAdd, Nat.reduceEqDiff, reduceCtorEq, ↓reduceIte]
    refine Safe.cd rfl ?_
    simp only [E3, Nat.reduceLeDiff, Nat.reduceSub, Nat.reduceAdd, Nat.reduceEqDiff, reduceCtorEq, ↓reduceIte]
    have w5 : IntKind.wrap .i64 ((i : Int) + (lb.length : Int)) = ((i + lb.length : Nat) : Int) := by rw [wrap_i64] <;> omega
    have w6 : IntKind.wrap .i64 (((i + lb.length : Nat) : Int) + 1) = ((i + lb.length + 1 : Nat) : Int) := by rw [wrap_i64] <;> omega
    refine Safe.rg rfl ?_
    simp only [nat_Div_r15, hnv, w5, w6, slc_lohi (H := H) (i := 0) (L := [some ⟨1, u32s (fl (K + 2) (dig (U % (V * LB ^ (i + 1)))))⟩, some ⟨1, u32s (fl (m + 1) fun j => if i + 1 ≤ j then dig (U / V) j else 0)⟩]) rfl rfl none .i64 .i64 (show i + lb.length + 1 = i + (lb.length + 1) by omega) (show i + lb.length + 1 ≤ la.length + 1 by omega), E3, Nat.reduceLeDiff, Nat.reduceSub, Nat.reduceAdd, Nat.reduceEqDiff, reduceCtorEq, ↓reduceIte]
    have hcall := digit_calls (H := hap H [some ⟨1, u32s (fl (K + 2) (dig (U % (V * LB ^ (i + 1)))))⟩, some ⟨1, u32s (fl (m + 1) fun j => if i + 1 ≤ j then dig (U / V) j else 0)⟩]) (id := lid H 0) (off := i) (N := K + 2) (n := lb.length) (oc := none) (v := limbs V) (f := dig (U % (V * LB ^ (i + 1))))
      (hap_get rfl) (lim_limbs V) hnv hb1 hvt (by omega) (by omega) (fun j _ => dig_lt _ _) s3 (by rw [val_limbs]; exact s4)
    refine ACalls.mono hcall ?_
    rintro r' H' ⟨rfl, rfl⟩
    rw [val_limbs, s2, fl_congr fun j _ => s1 j]
    simp only [set_hap, List.set_cons_zero, fidx1 (show i < m + 1 by omega), fst1 (show i < m + 1 by omega), digs_step, E3, Nat.reduceLeDiff, Nat.reduceSub, Nat.reduceAdd, Nat.reduceEqDiff, reduceCtorEq, ↓reduceIte]
    refine Safe.inBlock ?_
    refine Safe.rg rfl ?_
    simp only [nat_Div_r16, wrap_i64 (n := (i : Int) - 1) (by omega) (by omega), E3, Nat.reduceLeDiff, Nat.reduceSub, Nat.reduceAdd, Nat.reduceEqDiff, reduceCtorEq, ↓reduceIte]
    refine Safe.keep [0, 1, 9, 10, 11, 12, 13] ?_
    simp only [E3, Nat.reduceLeDiff, Nat.reduceSub, Nat.reduceAdd, Nat.reduceEqDiff, reduceCtorEq, ↓reduceIte]
    exact ih
  · refine Safe.inLoop ?_
    refine Safe.rg rfl ?_
    simp only [nat_Div_r14, show (0 ≤ ((0 : Nat) : Int) - 1) = False by simp, E3, Nat.reduceLeDiff, Nat.reduceSub, Nat.reduceAdd, Nat.reduceEqDiff, reduceCtorEq, ↓reduceIte]
    refine Safe.cd rfl ?_
    simp only [E3, Nat.reduceLeDiff, Nat.reduceSub, Nat.reduceAdd, Nat.reduceEqDiff, reduceCtorEq, ↓reduceIte]
    have hR0 : U % (V * LB ^ 0) = U % V := by rw [Nat.pow_zero, Nat.mul_one]
    rw [hR0]
    refine Safe.freeze 0 hH rfl rfl (blk_u32 _) ?_
    refine Safe.keep [9, 11, 12] ?_
    simp only [frz_part (H := H) (i := 0) none (show la.length + 1 ≤ (fl (K + 2) (dig (U % V))).length by rw [fl_len]; omega), frz_mu_other, E3, Nat.reduceLeDiff, Nat.reduceSub, Nat.reduceAdd, Nat.reduceEqDiff, reduceCtorEq, ↓reduceIte]
    refine Safe.freeze 1 hH rfl rfl (blk_u32 _) ?_
    refine Safe.keep [9, 11, 12] ?_
    simp only [frz_fl, E3, Nat.reduceLeDiff, Nat.reduceSub, Nat.reduceAdd, Nat.reduceEqDiff, reduceCtorEq, ↓reduceIte]
    rw [digs_all, fl_take _ (show la.length + 1 ≤ K + 2 by omega)]
    have hUm : U % V < LB ^ (la.length + 1) := Nat.lt_of_le_of_lt (Nat.mod_le _ _) hU2
    have hUd : U / V < LB ^ (m + 1) := by rw [Nat.div_lt_iff_lt_mul hVp, Nat.mul_comm]; exact hUV
    refine Safe.rg rfl ?_
    simp only [nat_Div_r17, E3, Nat.reduceLeDiff, Nat.reduceSub, Nat.reduceAdd, Nat.reduceEqDiff, reduceCtorEq, ↓reduceIte]
    first | refine (trim_pure _ (lim_dig (U / V) (m + 1)) (by rw [fl_len]; omega)).acall ?_ | refine (trim_pure _ (lim_dig (U / V) (m + 1)) (by rw [fl_len]; omega)).dcall ?_
    try simp only [E3, Nat.reduceLeDiff, Nat.reduceSub, Nat.reduceAdd, Nat.reduceEqDiff, reduceCtorEq, ↓reduceIte]
    first | refine (trim_pure _ (lim_dig (U % V) (la.length + 1)) (by rw [fl_len]; omega)).acall ?_ | refine (trim_pure _ (lim_dig (U % V) (la.length + 1)) (by rw [fl_len]; omega)).dcall ?_
    try simp only [E3, Nat.reduceLeDiff, Nat.reduceSub, Nat.reduceAdd, Nat.reduceEqDiff, reduceCtorEq, ↓reduceIte]
    rw [val_fl_all hUm, val_fl_all hUd]
    first | refine (shr_pure (limbs (U % V)) n ⟨lim_limbs _, Nat.le_trans (limbs_len_le hUm) (by omega)⟩ hn32).acall ?_ | refine (shr_pure (limbs (U % V)) n ⟨lim_limbs _, Nat.le_trans (limbs_len_le hUm) (by omega)⟩ hn32).dcall ?_
    try simp only [E3, Nat.reduceLeDiff, Nat.reduceSub, Nat.reduceAdd, Nat.reduceEqDiff, reduceCtorEq, ↓reduceIte]
    refine Safe.rt rfl ?_
    simp only [E3, Nat.reduceLeDiff, Nat.reduceSub, Nat.reduceAdd, Nat.reduceEqDiff, reduceCtorEq, ↓reduceIte]
    rw [val_limbs, ← hU, ← hV, Nat.mul_mod_mul_right, Nat.mul_div_cancel _ hp2, Nat.mul_div_mul_right _ _ hp2]
    exact ⟨Le.refl _, _, rfl⟩
end Go.Abs
set_option linter.unusedVariables false
set_option linter.unusedSimpArgs false
namespace Go.Abs
theorem sgn_quo {n m : Bool} {A B : Nat} {q : Int} (hB : B ≠ 0) (h : sgn n A = sgn m B * q) : A % B = 0 ∧ sgn (!(n == m)) (A / B) = q := by
  have hA : A = B * q.natAbs := by
    have := congrArg Int.natAbs h
    rwa [sgn_abs, Int.natAbs_mul, sgn_abs] at this
  refine ⟨by rw [hA]; exact Nat.mul_mod_right _ _, ?_⟩
  have hne : sgn m B ≠ 0 := by cases m <;> simp [sgn] <;> omega
  refine Int.eq_of_mul_eq_mul_left hne ?_
  rw [← h, sgn_mul]
  have hC : B * (A / B) = A := by rw [hA, Nat.mul_div_cancel_left _ (Nat.pos_of_ne_zero hB)]
  rw [hC]
  cases n <;> cases m <;> rfl
theorem zfloor_exact (x y : ZI) (k : Nat) (hx : Zok k x) (hy : Zok k y) (hk : k < 17592186044000) (q : Int) (hy0 : y.z ≠ 0) (hq : x.z = y.z * q) : PureC Pr F_zint_Floor [x.av, y.av] (.tup [Z q, Z 0, .int .i64 0]) := by
  obtain ⟨n, a⟩ := x
  obtain ⟨m, b⟩ := y
  have hal := hx.len
  have hbl := hy.len
  simp only at hal hbl
  have ha : Nt a := ⟨hx.lim, by omega⟩
  have hb : Nt b := ⟨hy.lim, by omega⟩
  simp only [ZI.av, ZI.z] at *
  have hb0 : val b ≠ 0 := by
    intro h; rw [h, sgn_zero] at hy0; exact hy0 rfl
  obtain ⟨hr, hqq⟩ := sgn_quo hb0 hq
  have hnt : ∀ v, v ≤ val a → Nt (limbs v) := fun v hv => ⟨lim_limbs _, Nat.le_trans (limbs_len_le (Nat.lt_of_le_of_lt hv (val_lt ha.lim))) ha.len⟩
  refine PureC.intro zint_Floor_fn zint_Floor_ok (Nat.le_of_ble_eq_true rfl) (cl_tup3 (Z_cl _) (Z_cl _) (.int _ _)) fun H hH => ?_
  refine Safe.rg rfl ?_
  simp only [zint_Floor_r0, E3, Nat.reduceLeDiff, Nat.reduceSub, Nat.reduceAdd, Nat.reduceEqDiff, reduceCtorEq, ↓reduceIte]
  refine Safe.rg rfl ?_
  simp only [zint_Floor_r1, E3, Nat.reduceLeDiff, Nat.reduceSub, Nat.reduceAdd, Nat.reduceEqDiff, reduceCtorEq, ↓reduceIte]
  first | refine (natdiv_pure a b ha hb (by omega) (by omega) hb0).acall ?_ | refine (natdiv_pure a b ha hb (by omega) (by omega) hb0).dcall ?_
  try simp only [E3, Nat.reduceLeDiff, Nat.reduceSub, Nat.reduceAdd, Nat.reduceEqDiff, reduceCtorEq, ↓reduceIte]
  refine Safe.rg rfl ?_
  simp only [zint_Floor_r2, E3, Nat.reduceLeDiff, Nat.reduceSub, Nat.reduceAdd, Nat.reduceEqDiff, reduceCtorEq, ↓reduceIte]
  refine Safe.cd rfl ?_
  simp only [E3, Nat.reduceLeDiff, Nat.reduceSub, Nat.reduceAdd, Nat.reduceEqDiff, reduceCtorEq, ↓reduceIte]
  refine Safe.rx rfl (by simp only [sdOk_cons, sdOk_nil, locNe_loc, E3, Nat.reduceLeDiff, Nat.reduceSub, Nat.reduceAdd, Nat.reduceEqDiff, reduceCtorEq, ↓reduceIte]) ?_
  simp only [zint_Floor_r4, zint_Floor_r4a, zint_Floor_r4b, E3, Nat.reduceLeDiff, Nat.reduceSub, Nat.reduceAdd, Nat.reduceEqDiff, reduceCtorEq, ↓reduceIte]
  refine (made_pure (!(n == m)) _ (hnt _ (Nat.div_le_self _ _))).dcall ?_
  rw [val_limbs, hqq]
  simp only [E3, Nat.reduceLeDiff, Nat.reduceSub, Nat.reduceAdd, Nat.reduceEqDiff, reduceCtorEq, ↓reduceIte]
  refine (made_pure n _ (hnt _ (Nat.mod_le _ _))).dcall ?_
  rw [val_limbs, hr, sgn_zero]
  simp only [E3, Nat.reduceLeDiff, Nat.reduceSub, Nat.reduceAdd, Nat.reduceEqDiff, reduceCtorEq, ↓reduceIte]
  refine ⟨?_, ?_⟩
  all_goals
    refine Safe.rg rfl ?_
    simp only [zint_Floor_r5, E3, Nat.reduceLeDiff, Nat.reduceSub, Nat.reduceAdd, Nat.reduceEqDiff, reduceCtorEq, ↓reduceIte]
    refine (zsign_pure (canZ 0) (zok_can (k := 1) (by decide) |>.mono (by omega))).dcall ?_
    rw [canZ_z]
    simp only [Int.sign_zero, E3, Nat.reduceLeDiff, Nat.reduceSub, Nat.reduceAdd, Nat.reduceEqDiff, reduceCtorEq, ↓reduceIte]
    refine Safe.cd rfl ?_
    simp only [E3, Nat.reduceLeDiff, Nat.reduceSub, Nat.reduceAdd, Nat.reduceEqDiff, reduceCtorEq, ↓reduceIte]
    refine Safe.rx rfl (by simp only [sdOk_cons, sdOk_nil, locNe_loc, E3, Nat.reduceLeDiff, Nat.reduceSub, Nat.reduceAdd, Nat.reduceEqDiff, reduceCtorEq, ↓reduceIte]) ?_
    simp only [zint_Floor_r7, zint_Floor_r7a, zint_Floor_r7b, E3, Nat.reduceLeDiff, Nat.reduceSub, Nat.reduceAdd, Nat.reduceEqDiff, reduceCtorEq, ↓reduceIte]
    refine Safe.rt rfl ?_
    simp only [E3, Nat.reduceLeDiff, Nat.reduceSub, Nat.reduceAdd, Nat.reduceEqDiff, reduceCtorEq, ↓reduceIte]
    exact ⟨rfl, _, rfl⟩
end Go.Abs
set_option linter.unusedVariables false
set_option linter.unusedSimpArgs false
namespace Go.Abs
theorem wrap_mulLB {x : Nat} (h : x < LB) : IntKind.wrap .u64 ((x : Int) * 4294967296) = ((x * LB : Nat) : Int) := wrap_mul64 (x := x) (y := LB) (by
  have : LB = 4294967296 := rfl
  have : x * LB ≤ 4294967295 * LB := Nat.mul_le_mul_right _ (by omega)
  omega)
theorem small_pure (a : List Nat) (d : Nat) (ha : Nt a) (hd : 0 < d) (hd2 : d < LB) : PureC Pr F_ref01_small [natV a, .int .u64 d] (.tup [natV (limbs (val a / d)), .int .u64 (val a % d : Nat)]) := by
  have hLB : LB = 4294967296 := rfl
  have hlen := ha.len
  have hv := val_lt ha.lim
  refine PureC.intro ref01_small_fn ref01_small_ok (Nat.le_of_ble_eq_true rfl) (cl_tup2 (natV_cl _) (.int _ _)) fun H hH => ?_
  refine Safe.rg rfl ?_
  simp only [ref01_small_r0, E3, Nat.reduceLeDiff, Nat.reduceSub, Nat.reduceAdd, Nat.reduceEqDiff, reduceCtorEq, ↓reduceIte]
  refine Safe.rg rfl ?_
  simp only [ref01_small_r1, mksl_fl (H := H) (L := []) (n := a.length) (by omega), E3, Nat.reduceLeDiff, Nat.reduceSub, Nat.reduceAdd, Nat.reduceEqDiff, reduceCtorEq, ↓reduceIte]
  refine Safe.rg rfl ?_
  simp only [ref01_small_r2, E3, Nat.reduceLeDiff, Nat.reduceSub, Nat.reduceAdd, Nat.reduceEqDiff, reduceCtorEq, ↓reduceIte]
  refine Safe.rg rfl ?_
  simp only [ref01_small_r3, wrap_i64 (n := (a.length : Int) - 1) (by omega) (by omega), E3, Nat.reduceLeDiff, Nat.reduceSub, Nat.reduceAdd, Nat.reduceEqDiff, reduceCtorEq, ↓reduceIte]
  refine Safe.lp rfl ?_
  refine Safe.keep [0, 1, 6, 7, 8] ?_
  simp only [E3, Nat.reduceLeDiff, Nat.reduceSub, Nat.reduceAdd, Nat.reduceEqDiff, reduceCtorEq, ↓reduceIte]
  refine Safe.loopD a.length (fun i => [(0, natV a), (1, .int .u64 d), (6, .mu (lid H 0) 0 a.length (some a.length)), (7, .int .u64 (val a / LB ^ i % d : Nat)), (8, .int .i64 ((i : Int) - 1))])
    (fun i => hap H [some ⟨1, u32s (fl a.length fun j => if i ≤ j then dig (val a / d) j else 0)⟩]) ?_ ?_ (fun i hi ih => ?_) ?_
  · rw [Nat.div_eq_of_lt hv]; rfl
  · rw [digs_zero]
  · have e1 : ((i + 1 : Nat) : Int) - 1 = (i : Int) := by omega
    rw [e1]
    refine Safe.inLoop ?_
    refine Safe.rg rfl ?_
    simp only [ref01_small_r4, Int.natCast_nonneg i, E3, Nat.reduceLeDiff, Nat.reduceSub, Nat.reduceAdd, Nat.reduceEqDiff, reduceCtorEq, ↓reduceIte]
    refine Safe.cd rfl ?_
    simp only [E3, Nat.reduceLeDiff, Nat.reduceSub, Nat.reduceAdd, Nat.reduceEqDiff, reduceCtorEq, ↓reduceIte]
    have hr : val a / LB ^ (i + 1) % d < LB := Nat.lt_trans (Nat.mod_lt _ hd) hd2
    have hai : a.getD i 0 < LB := getD_lt ha.lim i
    have hb : val a / LB ^ (i + 1) % d * LB + a.getD i 0 < 18446744073709551616 := by
      have : val a / LB ^ (i + 1) % d * LB ≤ 4294967295 * LB := Nat.mul_le_mul_right _ (by omega)
      omega
    have hmul := wrap_mulLB hr
    refine Safe.rg rfl ?_
    simp only [ref01_small_r5, natV_idx _ a _ i hi, hmul, wrap64 (x := a.getD i 0) (by omega), wrap_add64 hb, E3, Nat.reduceLeDiff, Nat.reduceSub, Nat.reduceAdd, Nat.reduceEqDiff, reduceCtorEq, ↓reduceIte]
    rw [← dig_val ha.lim i] at hb ⊢
    have hs := short_mod (val a) d i
    have hq := short_div (val a) d i
    refine Safe.rg rfl ?_
    simp only [ref01_small_r6, quo_nat hd hb, hq, wrap32 (dig_lt _ _), fidx0 hi, fst0 hi, E3, Nat.reduceLeDiff, Nat.reduceSub, Nat.reduceAdd, Nat.reduceEqDiff, reduceCtorEq, ↓reduceIte]
    refine Safe.rg rfl ?_
    simp only [ref01_small_r7, rem_nat hd, hs, E3, Nat.reduceLeDiff, Nat.reduceSub, Nat.reduceAdd, Nat.reduceEqDiff, reduceCtorEq, ↓reduceIte]
    refine Safe.rg rfl ?_
    simp only [ref01_small_r8, wrap_i64 (n := (i : Int) - 1) (by omega) (by omega), E3, Nat.reduceLeDiff, Nat.reduceSub, Nat.reduceAdd, Nat.reduceEqDiff, reduceCtorEq, ↓reduceIte]
    refine Safe.keep [0, 1, 6, 7, 8] ?_
    simp only [E3, Nat.reduceLeDiff, Nat.reduceSub, Nat.reduceAdd, Nat.reduceEqDiff, reduceCtorEq, ↓reduceIte]
    rw [digs_step]
    exact ih
  · refine Safe.inLoop ?_
    refine Safe.rg rfl ?_
    simp only [ref01_small_r4, show (0 ≤ ((0 : Nat) : Int) - 1) = False by simp, E3, Nat.reduceLeDiff, Nat.reduceSub, Nat.reduceAdd, Nat.reduceEqDiff, reduceCtorEq, ↓reduceIte]
    refine Safe.cd rfl ?_
    simp only [E3, Nat.reduceLeDiff, Nat.reduceSub, Nat.reduceAdd, Nat.reduceEqDiff, reduceCtorEq, ↓reduceIte]
    refine Safe.freeze 0 hH rfl rfl (blk_u32 _) ?_
    refine Safe.keep [6, 7] ?_
    simp only [frz_fl, E3, Nat.reduceLeDiff, Nat.reduceSub, Nat.reduceAdd, Nat.reduceEqDiff, reduceCtorEq, ↓reduceIte]
    rw [digs_all]
    have hr : val a % d < LB := Nat.lt_trans (Nat.mod_lt _ hd) hd2
    refine Safe.rg rfl ?_
    simp only [ref01_small_r9, E3, Nat.reduceLeDiff, Nat.reduceSub, Nat.reduceAdd, Nat.reduceEqDiff, reduceCtorEq, ↓reduceIte]
    first | refine (refnorm_pure _ ⟨lim_dig _ _, by rw [fl_len]; exact hlen⟩).acall ?_ | refine (refnorm_pure _ ⟨lim_dig _ _, by rw [fl_len]; exact hlen⟩).dcall ?_
    try simp only [E3, Nat.reduceLeDiff, Nat.reduceSub, Nat.reduceAdd, Nat.reduceEqDiff, reduceCtorEq, ↓reduceIte]
    simp only [val_fl_all (div_lt_pow hv (d := d)), Nat.pow_zero, Nat.div_one, E3, Nat.reduceLeDiff, Nat.reduceSub, Nat.reduceAdd, Nat.reduceEqDiff, reduceCtorEq, ↓reduceIte]
    refine Safe.rt rfl ?_
    simp only [E3, Nat.reduceLeDiff, Nat.reduceSub, Nat.reduceAdd, Nat.reduceEqDiff, reduceCtorEq, ↓reduceIte]
    first | exact ⟨rfl, _, rfl⟩ | exact ⟨_, rfl⟩ | exact ⟨trivial, _, rfl⟩
theorem two_pure (n : Nat) (hn : n < 32) : PureC Pr F_ref01_Two [.int .i64 n] (natV [2 ^ n]) := by
  have hLB : LB = 4294967296 := rfl
  have h2n : 2 ^ n < LB := by
    have : 2 ^ n ≤ 2 ^ 31 := Nat.pow_le_pow_right (by decide) (by omega)
    have : (2 : Nat) ^ 31 < LB := by decide
    omega
  refine PureC.intro ref01_Two_fn ref01_Two_ok (Nat.le_of_ble_eq_true rfl) (natV_cl _) fun H hH => ?_
  have hq : binV .quo (.int .i64 (n : Int)) (.int .i64 32) = some (.int .i64 0) := by
    have := quo_i (x := n) (y := 32) (by decide) (by omega)
    rw [Nat.div_eq_of_lt hn] at this; exact this
  have hr : binV .rem (.int .i64 (n : Int)) (.int .i64 32) = some (.int .i64 (n : Int)) := by
    have := rem_i (x := n) (y := 32) (by decide)
    rw [Nat.mod_eq_of_lt hn] at this; exact this
  refine Safe.rg rfl ?_
  simp only [ref01_Two_r0, E3, Nat.reduceLeDiff, Nat.reduceSub, Nat.reduceAdd, Nat.reduceEqDiff, reduceCtorEq, ↓reduceIte]
  refine Safe.rg rfl ?_
  simp only [ref01_Two_r1, E3, Nat.reduceLeDiff, Nat.reduceSub, Nat.reduceAdd, Nat.reduceEqDiff, reduceCtorEq, ↓reduceIte]
  refine Safe.rg rfl ?_
  simp only [ref01_Two_r2, E3, Nat.reduceLeDiff, Nat.reduceSub, Nat.reduceAdd, Nat.reduceEqDiff, reduceCtorEq, ↓reduceIte]
  refine Safe.lp rfl ?_
  refine Safe.inLoop ?_
  refine Safe.rg rfl ?_
  simp only [ref01_Two_r3, hq, Int.lt_irrefl, E3, Nat.reduceLeDiff, Nat.reduceSub, Nat.reduceAdd, Nat.reduceEqDiff, reduceCtorEq, ↓reduceIte]
  refine Safe.cd rfl ?_
  simp only [E3, Nat.reduceLeDiff, Nat.reduceSub, Nat.reduceAdd, Nat.reduceEqDiff, reduceCtorEq, ↓reduceIte]
  have hs : shBin .shl .u32 1 (n : Int) = some (.int .u32 ((2 ^ n : Nat) : Int)) := by
    rw [shBin_shl _ _ _ (by omega)]
    have hm : min (Int.toNat (n : Int)) IntKind.u32.bits = n := by
      show min n 32 = n
      omega
    rw [hm]
    have : (1 : Int) * 2 ^ n = ((2 ^ n : Nat) : Int) := by simp
    rw [this, wrap32 h2n]
  refine Safe.rg rfl ?_
  simp only [ref01_Two_r6, hr, wrap64 (x := n) (by omega), hs, natV_one, app_nil_nat _ _ H [] [2 ^ n] (by simp), E3, Nat.reduceLeDiff, Nat.reduceSub, Nat.reduceAdd, Nat.reduceEqDiff, reduceCtorEq, ↓reduceIte]
  refine Safe.freeze 0 hH rfl rfl (blk_u32 _) ?_
  refine Safe.keep [2] ?_
  simp only [show frz (lid H 0) ⟨1, u32s [2 ^ n]⟩ (.mu (lid H 0) 0 1 none) = natV [2 ^ n] from frz_mu_nat H 0 [2 ^ n] none, E3, Nat.reduceLeDiff, Nat.reduceSub, Nat.reduceAdd, Nat.reduceEqDiff, reduceCtorEq, ↓reduceIte]
  refine Safe.rt rfl ?_
  simp only [E3, Nat.reduceLeDiff, Nat.reduceSub, Nat.reduceAdd, Nat.reduceEqDiff, reduceCtorEq, ↓reduceIte]
  first | exact ⟨rfl, _, rfl⟩ | exact ⟨_, rfl⟩ | exact ⟨trivial, _, rfl⟩
theorem rshr_pure (a : List Nat) (n : Nat) (ha : Nt a) (hn : n < 32) : PureC Pr F_ref01_Shr [natV a, .int .i64 n] (.tup [natV (limbs (val a / 2 ^ n)), .int .i64 0]) := by
  have hLB : LB = 4294967296 := rfl
  have hal := ha.len
  have hq : binV .quo (.int .i64 (n : Int)) (.int .i64 32) = some (.int .i64 0) := by
    have := quo_i (x := n) (y := 32) (by decide) (by omega)
    rw [Nat.div_eq_of_lt hn] at this; exact this
  have hr : binV .rem (.int .i64 (n : Int)) (.int .i64 32) = some (.int .i64 (n : Int)) := by
    have := rem_i (x := n) (y := 32) (by decide)
    rw [Nat.mod_eq_of_lt hn] at this; exact this
  refine PureC.introL ref01_Shr_fn ref01_Shr_ok (Nat.le_of_ble_eq_true rfl) (cl_tup2 (natV_cl _) (.int _ _)) fun H hH => ?_
  refine Safe.rg rfl ?_
  simp only [ref01_Shr_r0, E3, Nat.reduceLeDiff, Nat.reduceSub, Nat.reduceAdd, Nat.reduceEqDiff, reduceCtorEq, ↓reduceIte]
  refine Safe.rg rfl ?_
  simp only [ref01_Shr_r1, show ((n : Int) < 0) = False from eq_false (by omega), E3, Nat.reduceLeDiff, Nat.reduceSub, Nat.reduceAdd, Nat.reduceEqDiff, reduceCtorEq, ↓reduceIte]
  refine Safe.cd rfl ?_
  simp only [E3, Nat.reduceLeDiff, Nat.reduceSub, Nat.reduceAdd, Nat.reduceEqDiff, reduceCtorEq, ↓reduceIte]
  refine Safe.rg rfl ?_
  simp only [ref01_Shr_r3, E3, Nat.reduceLeDiff, Nat.reduceSub, Nat.reduceAdd, Nat.reduceEqDiff, reduceCtorEq, ↓reduceIte]
  refine (refbits_pure a ha).acall ?_
  by_cases hb : blen (val a) ≤ n
  · have hc : (((blen (val a) : Nat) : Int) ≤ (n : Int)) = True := eq_true (by omega)
    simp only [hc, E3, Nat.reduceLeDiff, Nat.reduceSub, Nat.reduceAdd, Nat.reduceEqDiff, reduceCtorEq, ↓reduceIte]
    refine Safe.cd rfl ?_
    simp only [E3, Nat.reduceLeDiff, Nat.reduceSub, Nat.reduceAdd, Nat.reduceEqDiff, reduceCtorEq, ↓reduceIte]
    refine Safe.rg rfl ?_
    simp only [ref01_Shr_r4, E3, Nat.reduceLeDiff, Nat.reduceSub, Nat.reduceAdd, Nat.reduceEqDiff, reduceCtorEq, ↓reduceIte]
    refine Safe.rt rfl ?_
    simp only [E3, Nat.reduceLeDiff, Nat.reduceSub, Nat.reduceAdd, Nat.reduceEqDiff, reduceCtorEq, ↓reduceIte]
    have h0 : val a / 2 ^ n = 0 := by
      rw [Nat.div_eq_of_lt]
      have := blen_lt (val a)
      have h2 : 2 ^ blen (val a) ≤ 2 ^ n := Nat.pow_le_pow_right (by decide) hb
      omega
    rw [h0, limbs_zero]
    exact ⟨Le.tup2 (Le.nil 1 (by decide)) (Le.refl _), _, rfl⟩
  have hc : (((blen (val a) : Nat) : Int) ≤ (n : Int)) = False := eq_false (by omega)
  simp only [hc, E3, Nat.reduceLeDiff, Nat.reduceSub, Nat.reduceAdd, Nat.reduceEqDiff, reduceCtorEq, ↓reduceIte]
  refine Safe.cd rfl ?_
  simp only [E3, Nat.reduceLeDiff, Nat.reduceSub, Nat.reduceAdd, Nat.reduceEqDiff, reduceCtorEq, ↓reduceIte]
  refine Safe.rg rfl ?_
  simp only [ref01_Shr_r5, E3, Nat.reduceLeDiff, Nat.reduceSub, Nat.reduceAdd, Nat.reduceEqDiff, reduceCtorEq, ↓reduceIte]
  refine Safe.nilrow 6 1 (by decide) (by simp only [E3, Nat.reduceLeDiff, Nat.reduceSub, Nat.reduceAdd, Nat.reduceEqDiff, reduceCtorEq, ↓reduceIte]) ?_
  refine Safe.rg rfl ?_
  simp only [ref01_Shr_r6, hq, E3, Nat.reduceLeDiff, Nat.reduceSub, Nat.reduceAdd, Nat.reduceEqDiff, reduceCtorEq, ↓reduceIte]
  refine Safe.lp rfl ?_
  refine Safe.keep [0, 1, 6, 7] ?_
  simp only [E3, Nat.reduceLeDiff, Nat.reduceSub, Nat.reduceAdd, Nat.reduceEqDiff, reduceCtorEq, ↓reduceIte]
  refine Safe.loopN a.length (fun i => [(0, natV a), (1, .int .i64 n), (6, .mu (lid H 0) 0 (fl i (dig (val a / 2 ^ n))).length none), (7, .int .i64 i)]) (fun i => hap H [some ⟨1, u32s (fl i (dig (val a / 2 ^ n)))⟩]) rfl rfl (fun i hi ih => ?_) ?_
  · have hlt : ((i : Int) < (a.length : Int)) = True := eq_true (by omega)
    have hai := getD_lt ha.lim i
    have hai1 := getD_lt ha.lim (i + 1)
    have w4 : IntKind.wrap .i64 ((i : Int) + 1) = ((i + 1 : Nat) : Int) := by rw [wrap_i64] <;> omega
    refine Safe.inLoop ?_
    refine Safe.rg rfl ?_
    simp only [ref01_Shr_r7, hlt, E3, Nat.reduceLeDiff, Nat.reduceSub, Nat.reduceAdd, Nat.reduceEqDiff, reduceCtorEq, ↓reduceIte]
    refine Safe.cd rfl ?_
    simp only [E3, Nat.reduceLeDiff, Nat.reduceSub, Nat.reduceAdd, Nat.reduceEqDiff, reduceCtorEq, ↓reduceIte]
    have hmx : a.getD (i + 1) 0 * LB ≤ 4294967295 * LB := Nat.mul_le_mul_right _ (by omega)
    have hmul : IntKind.wrap .u64 (((a.getD (i + 1) 0 : Nat) : Int) * 4294967296) = ((a.getD (i + 1) 0 * LB : Nat) : Int) := wrap_mul64 (x := a.getD (i + 1) 0) (y := LB) (by omega)
    have hadd : IntKind.wrap .u64 (((a.getD i 0 : Nat) : Int) + ((a.getD (i + 1) 0 * LB : Nat) : Int)) = ((a.getD (i + 1) 0 * LB + a.getD i 0 : Nat) : Int) := by
      rw [wrap_add64 (by omega), Nat.add_comm]
    refine Safe.rg rfl ?_
    simp only [ref01_Shr_r8, E3, Nat.reduceLeDiff, Nat.reduceSub, Nat.reduceAdd, Nat.reduceEqDiff, reduceCtorEq, ↓reduceIte]
    first | refine (limb_pure a i ha.lim hal).acall ?_ | refine (limb_pure a i ha.lim hal).dcall ?_
    try simp only [E3, Nat.reduceLeDiff, Nat.reduceSub, Nat.reduceAdd, Nat.reduceEqDiff, reduceCtorEq, ↓reduceIte]
    simp only [w4, E3, Nat.reduceLeDiff, Nat.reduceSub, Nat.reduceAdd, Nat.reduceEqDiff, reduceCtorEq, ↓reduceIte]
    first | refine (limb_pure a (i + 1) ha.lim hal).acall ?_ | refine (limb_pure a (i + 1) ha.lim hal).dcall ?_
    try simp only [E3, Nat.reduceLeDiff, Nat.reduceSub, Nat.reduceAdd, Nat.reduceEqDiff, reduceCtorEq, ↓reduceIte]
    simp only [hmul, hadd, E3, Nat.reduceLeDiff, Nat.reduceSub, Nat.reduceAdd, Nat.reduceEqDiff, reduceCtorEq, ↓reduceIte]
    have hstep := shr_step ha.lim i hn
    have hrem := rem_lb ((a.getD (i + 1) 0 * LB + a.getD i 0) / 2 ^ n)
    rw [hstep] at hrem
    refine Safe.rg rfl ?_
    simp only [ref01_Shr_r9, hr, wrap64 (x := n) (by omega), shr64 (show n ≤ 64 by omega), hrem, wrap32 (dig_lt (val a / 2 ^ n) i), one_app H hH _ (lid_ge H 0) _ (fl i (dig (val a / 2 ^ n))) (dig (val a / 2 ^ n) i) (by rw [fl_len]; omega), E3, Nat.reduceLeDiff, Nat.reduceSub, Nat.reduceAdd, Nat.reduceEqDiff, reduceCtorEq, ↓reduceIte]
    refine Safe.rg rfl ?_
    simp only [ref01_Shr_r10, w4, E3, Nat.reduceLeDiff, Nat.reduceSub, Nat.reduceAdd, Nat.reduceEqDiff, reduceCtorEq, ↓reduceIte]
    refine Safe.keep [0, 1, 6, 7] ?_
    simp only [E3, Nat.reduceLeDiff, Nat.reduceSub, Nat.reduceAdd, Nat.reduceEqDiff, reduceCtorEq, ↓reduceIte]
    rw [← fl_succ]
    have e : (fl i (dig (val a / 2 ^ n))).length + 1 = (fl (i + 1) (dig (val a / 2 ^ n))).length := by rw [fl_len, fl_len]
    rw [e]
    exact ih
  · refine Safe.inLoop ?_
    refine Safe.rg rfl ?_
    simp only [ref01_Shr_r7, Int.lt_irrefl, E3, Nat.reduceLeDiff, Nat.reduceSub, Nat.reduceAdd, Nat.reduceEqDiff, reduceCtorEq, ↓reduceIte]
    refine Safe.cd rfl ?_
    simp only [E3, Nat.reduceLeDiff, Nat.reduceSub, Nat.reduceAdd, Nat.reduceEqDiff, reduceCtorEq, ↓reduceIte]
    refine Safe.freeze 0 hH rfl rfl (blk_u32 _) ?_
    refine Safe.keep [6] ?_
    simp only [E3, Nat.reduceLeDiff, Nat.reduceSub, Nat.reduceAdd, Nat.reduceEqDiff, reduceCtorEq, ↓reduceIte]
    refine Safe.rg rfl ?_
    simp only [ref01_Shr_r11, E3, Nat.reduceLeDiff, Nat.reduceSub, Nat.reduceAdd, Nat.reduceEqDiff, reduceCtorEq, ↓reduceIte]
    first | refine (refnorm_pure _ ⟨lim_dig _ _, by rw [fl_len]; exact hal⟩).acall ?_ | refine (refnorm_pure _ ⟨lim_dig _ _, by rw [fl_len]; exact hal⟩).dcall ?_
    try simp only [E3, Nat.reduceLeDiff, Nat.reduceSub, Nat.reduceAdd, Nat.reduceEqDiff, reduceCtorEq, ↓reduceIte]
    simp only [val_fl_all (div_lt_pow (val_lt ha.lim) (d := 2 ^ n)), E3, Nat.reduceLeDiff, Nat.reduceSub, Nat.reduceAdd, Nat.reduceEqDiff, reduceCtorEq, ↓reduceIte]
    refine Safe.rt rfl ?_
    simp only [E3, Nat.reduceLeDiff, Nat.reduceSub, Nat.reduceAdd, Nat.reduceEqDiff, reduceCtorEq, ↓reduceIte]
    exact ⟨Le.refl _, _, rfl⟩
end Go.Abs
set_option linter.unusedVariables false
set_option linter.unusedSimpArgs false
namespace Go.Abs
theorem app_lit {H : Heap} (hH : HRefs H) {n0 : Nat} {env : Env} {L : Heap} {i d c : Nat} {l : List Nat} (hn : n0 ≤ lid H i) (hl : L[i]? = some (some ⟨1, [.int .u32 (d : Int)]⟩)) (hL : Aside H L i) (hc : 0 < l.length → c < 1 + l.length) (hb : l.length ≤ 17592186044416) :
    appV n0 1 4 false (.mu (lid H i) 0 1 (some c)) (natV l) env (hap H L) = some (.mu (lid H i) 0 (1 + l.length) (capAfter (some c) (1 + l.length)), scrub (lid H i) env, hap H (L.set i (some ⟨1, u32s (d :: l)⟩))) := by
  have hf : free (hap H L) (lid H i) = true := free_hap hH hL
  simp only [appV, natV_src, Option.bind_some, hrow_hap, hl, Option.join_some, set_hap]
  rw [if_neg, if_pos]
  · simp [u32s_len, u32s_cons]
  · simp only [u32s_len, true_and]
    refine ⟨Nat.le_refl _, hn, hf, ?_, ?_, by omega, by omega⟩
    · exact List.all_eq_true.2 fun a ha => nref_cl (u32s_clf ha)
    · simp [AV.cells, nref_int]
  · simp only [u32s_len, Option.any_some]
    rintro ⟨_, _, _, _, h1, h2⟩
    have := hc h1
    simp at h2
    omega
theorem val_cons (d : Nat) (l : List Nat) : val (d :: l) = d + LB * val l := rfl
theorem val_cons_limbs (d n : Nat) : val (d :: limbs n) = n * LB + d := by
  rw [val_cons, val_limbs, Nat.mul_comm, Nat.add_comm]
theorem nt_cons {d : Nat} {l : List Nat} {n : Nat} (hd : d < LB) (hl : Lim l) (h : l.length ≤ n) (hn : n < 17592186044000) : Nt (d :: l) :=
  ⟨lim_cons.2 ⟨hd, hl⟩, by rw [List.length_cons]; omega⟩
theorem frz_litrow (H : Heap) (i d : Nat) (l : List Nat) (oc : Option Nat) : [AV.mu (lid H i) 0 (1 + l.length) oc].map (frz (lid H i) ⟨1, u32s (d :: l)⟩) = [natV (d :: l)] := by
  rw [Nat.add_comm]
  exact congrArg (fun x => [x]) (frz_mu_nat H i (d :: l) oc)
theorem cmpI_gt (a b : Nat) : (cmpI a b > 0) = (b < a) := by
  unfold cmpI; split
  · simp; omega
  · split <;> simp <;> omega
theorem getD_limbs (S i : Nat) : (limbs S).getD i 0 = dig S i := by
  rw [← dig_val (lim_limbs S), val_limbs]
theorem refdiv_pure (a b : List Nat) (ha : Nt a) (hb : Nt b) (hal : a.length < 17592186044000) (hbl : b.length < 17592186044000) (hb0 : val b ≠ 0) : PureC Pr F_ref01_Div [natV a, natV b] (.tup [natV (limbs (val a / val b)), natV (limbs (val a % val b)), .int .i64 0]) := by
  have hLB : LB = 4294967296 := rfl
  have hnb := hb.limbs
  have hlbl : (limbs (val b)).length < 17592186044000 := Nat.lt_of_le_of_lt (limbs_val_len hb.lim) hbl
  have hvb := val_limbs (val b)
  have hlastb := limbs_last (val b)
  have hib := limbs_idem (val b)
  refine PureC.intro ref01_Div_fn ref01_Div_ok (Nat.le_of_ble_eq_true rfl) (cl_tup3 (natV_cl _) (natV_cl _) (.int _ _)) fun H hH => ?_
  refine Safe.rg rfl ?_
  simp only [ref01_Div_r0, E3, Nat.reduceLeDiff, Nat.reduceSub, Nat.reduceAdd, Nat.reduceEqDiff, reduceCtorEq, ↓reduceIte]
  refine Safe.rg rfl ?_
  simp only [ref01_Div_r1, E3, Nat.reduceLeDiff, Nat.reduceSub, Nat.reduceAdd, Nat.reduceEqDiff, reduceCtorEq, ↓reduceIte]
  first | refine (refnorm_pure b hb).acall ?_ | refine (refnorm_pure b hb).dcall ?_
  try simp only [E3, Nat.reduceLeDiff, Nat.reduceSub, Nat.reduceAdd, Nat.reduceEqDiff, reduceCtorEq, ↓reduceIte]
  generalize limbs (val b) = lb at *
  generalize val b = B at *
  subst hvb
  have hb1 : 0 < lb.length := by
    rcases Nat.eq_zero_or_pos lb.length with h | h
    · exfalso; have := List.length_eq_zero_iff.1 h; subst this; exact hb0 rfl
    · exact h
  have hB : 0 < val lb := Nat.pos_of_ne_zero hb0
  refine Safe.rg rfl ?_
  simp only [ref01_Div_r2, show (((lb.length : Nat) : Int) = 0) = False from eq_false (by omega), E3, Nat.reduceLeDiff, Nat.reduceSub, Nat.reduceAdd, Nat.reduceEqDiff, reduceCtorEq, ↓reduceIte]
  refine Safe.cd rfl ?_
  simp only [E3, Nat.reduceLeDiff, Nat.reduceSub, Nat.reduceAdd, Nat.reduceEqDiff, reduceCtorEq, ↓reduceIte]
  have htb := last_pos hlastb hb1
  have hdl := getD_lt hnb.lim (lb.length - 1)
  by_cases hone : lb.length = 1
  · have h1 : (((lb.length : Nat) : Int) = 1) = True := eq_true (by omega)
    refine Safe.rg rfl ?_
    simp only [ref01_Div_r4, h1, E3, Nat.reduceLeDiff, Nat.reduceSub, Nat.reduceAdd, Nat.reduceEqDiff, reduceCtorEq, ↓reduceIte]
    refine Safe.cd rfl ?_
    simp only [E3, Nat.reduceLeDiff, Nat.reduceSub, Nat.reduceAdd, Nat.reduceEqDiff, reduceCtorEq, ↓reduceIte]
    have hvb1 : val lb = lb.getD 0 0 := by
      have := val_drop_succ lb 0
      rw [List.drop_zero, List.drop_eq_nil_of_le (by omega)] at this
      simpa [val] using this
    have i0 := natV_idx (hap H []) lb .i64 0 hb1
    rw [Int.natCast_zero] at i0
    have hd0 : 0 < lb.getD 0 0 := by rw [← hvb1]; exact hB
    have hd1 : lb.getD 0 0 < LB := getD_lt hnb.lim 0
    refine Safe.rg rfl ?_
    simp only [ref01_Div_r5, i0, wrap64 (x := lb.getD 0 0) (by omega), E3, Nat.reduceLeDiff, Nat.reduceSub, Nat.reduceAdd, Nat.reduceEqDiff, reduceCtorEq, ↓reduceIte]
    first | refine (small_pure a (lb.getD 0 0) ha hd0 hd1).acall ?_ | refine (small_pure a (lb.getD 0 0) ha hd0 hd1).dcall ?_
    try simp only [E3, Nat.reduceLeDiff, Nat.reduceSub, Nat.reduceAdd, Nat.reduceEqDiff, reduceCtorEq, ↓reduceIte]
    have hrl : val a % lb.getD 0 0 < LB := Nat.lt_trans (Nat.mod_lt _ hd0) hd1
    refine Safe.rg rfl ?_
    simp only [ref01_Div_r6, wrap32 hrl, natV_one, E3, Nat.reduceLeDiff, Nat.reduceSub, Nat.reduceAdd, Nat.reduceEqDiff, reduceCtorEq, ↓reduceIte]
    first | refine (refnorm_pure [val a % lb.getD 0 0] ⟨by intro d hd; simp at hd; subst hd; exact hrl, by simp⟩).acall ?_ | refine (refnorm_pure [val a % lb.getD 0 0] ⟨by intro d hd; simp at hd; subst hd; exact hrl, by simp⟩).dcall ?_
    try simp only [E3, Nat.reduceLeDiff, Nat.reduceSub, Nat.reduceAdd, Nat.reduceEqDiff, reduceCtorEq, ↓reduceIte]
    refine Safe.rt rfl ?_
    simp only [hvb1, limbs_one, E3, Nat.reduceLeDiff, Nat.reduceSub, Nat.reduceAdd, Nat.reduceEqDiff, reduceCtorEq, ↓reduceIte]
    first | exact ⟨rfl, _, rfl⟩ | exact ⟨_, rfl⟩ | exact ⟨trivial, _, rfl⟩
  have h1 : (((lb.length : Nat) : Int) = 1) = False := eq_false (by omega)
  refine Safe.rg rfl ?_
  simp only [ref01_Div_r4, h1, E3, Nat.reduceLeDiff, Nat.reduceSub, Nat.reduceAdd, Nat.reduceEqDiff, reduceCtorEq, ↓reduceIte]
  refine Safe.cd rfl ?_
  simp only [E3, Nat.reduceLeDiff, Nat.reduceSub, Nat.reduceAdd, Nat.reduceEqDiff, reduceCtorEq, ↓reduceIte]
  obtain ⟨hVl, hBl⟩ := norm_len hnb.lim hb1 htb
  have hblen : blen (val lb) = 32 * (lb.length - 1) + blen (lb.getD (lb.length - 1) 0) := by
    have hs : lb = lb.take (lb.length - 1) ++ [lb.getD (lb.length - 1) 0] := by
      rw [← take_snoc (by omega), show lb.length - 1 + 1 = lb.length by omega, List.take_length]
    have := blen_limbs (hnb.lim.take (lb.length - 1)) (show lb.getD (lb.length - 1) 0 ≠ 0 by omega)
    rw [← hs, List.length_take, Nat.min_eq_left (by omega)] at this
    exact this
  have hb32 := blen_le32 hdl
  have hbp : 0 < blen (lb.getD (lb.length - 1) 0) := by unfold blen; rw [if_neg (by omega)]; omega
  generalize hn : 32 - blen (lb.getD (lb.length - 1) 0) = n at *
  have hn32 : n < 32 := by omega
  have hp2 : 0 < 2 ^ n := Nat.pow_pos (by decide)
  have h2n : 2 ^ n < LB := by
    have : 2 ^ n ≤ 2 ^ 31 := Nat.pow_le_pow_right (by decide) (by omega)
    have : (2 : Nat) ^ 31 < LB := by decide
    omega
  have w1 : IntKind.wrap .i64 (32 * ((lb.length : Nat) : Int)) = ((32 * lb.length : Nat) : Int) := by rw [wrap_i64] <;> omega
  have w2 : IntKind.wrap .i64 (((32 * lb.length : Nat) : Int) - ((blen (val lb) : Nat) : Int)) = (n : Int) := by rw [wrap_i64] <;> omega
  refine Safe.rg rfl ?_
  simp only [ref01_Div_r7, w1, E3, Nat.reduceLeDiff, Nat.reduceSub, Nat.reduceAdd, Nat.reduceEqDiff, reduceCtorEq, ↓reduceIte]
  first | refine (refbits_pure lb hnb).acall ?_ | refine (refbits_pure lb hnb).dcall ?_
  try simp only [E3, Nat.reduceLeDiff, Nat.reduceSub, Nat.reduceAdd, Nat.reduceEqDiff, reduceCtorEq, ↓reduceIte]
  simp only [w2, E3, Nat.reduceLeDiff, Nat.reduceSub, Nat.reduceAdd, Nat.reduceEqDiff, reduceCtorEq, ↓reduceIte]
  first | refine (two_pure n hn32).acall ?_ | refine (two_pure n hn32).dcall ?_
  try simp only [E3, Nat.reduceLeDiff, Nat.reduceSub, Nat.reduceAdd, Nat.reduceEqDiff, reduceCtorEq, ↓reduceIte]
  have hn1 : Nt [2 ^ n] := ⟨by intro d hd; simp at hd; omega, by simp⟩
  refine Safe.rg rfl ?_
  simp only [ref01_Div_r8, E3, Nat.reduceLeDiff, Nat.reduceSub, Nat.reduceAdd, Nat.reduceEqDiff, reduceCtorEq, ↓reduceIte]
  first | refine (refmul_pure a [2 ^ n] ha hn1 (by simp; omega)).acall ?_ | refine (refmul_pure a [2 ^ n] ha hn1 (by simp; omega)).dcall ?_
  try simp only [E3, Nat.reduceLeDiff, Nat.reduceSub, Nat.reduceAdd, Nat.reduceEqDiff, reduceCtorEq, ↓reduceIte]
  refine Safe.rg rfl ?_
  simp only [ref01_Div_r9, E3, Nat.reduceLeDiff, Nat.reduceSub, Nat.reduceAdd, Nat.reduceEqDiff, reduceCtorEq, ↓reduceIte]
  first | refine (refmul_pure lb [2 ^ n] hnb hn1 (by simp; omega)).acall ?_ | refine (refmul_pure lb [2 ^ n] hnb hn1 (by simp; omega)).dcall ?_
  try simp only [E3, Nat.reduceLeDiff, Nat.reduceSub, Nat.reduceAdd, Nat.reduceEqDiff, reduceCtorEq, ↓reduceIte]
  simp only [limbs_one]
  have hU2 : val a * 2 ^ n < LB ^ (a.length + 1) := by
    rw [Nat.pow_succ]
    exact Nat.lt_of_lt_of_le (Nat.mul_lt_mul_of_pos_right (val_lt ha.lim) hp2) (Nat.mul_le_mul_left _ (by omega))
  have hVp : 0 < val lb * 2 ^ n := Nat.mul_pos hB hp2
  have hnv1 : (limbs (val lb * 2 ^ n)).length ≤ lb.length := limbs_len_le hVl
  have hnv2 : lb.length ≤ (limbs (val lb * 2 ^ n)).length := by
    rcases Nat.lt_or_ge (limbs (val lb * 2 ^ n)).length lb.length with h | h
    · exfalso
      have h2 := val_lt (lim_limbs (val lb * 2 ^ n))
      rw [val_limbs] at h2
      have h3 : LB ^ (limbs (val lb * 2 ^ n)).length ≤ LB ^ (lb.length - 1) := Nat.pow_le_pow_right (by decide) (by omega)
      have h4 : val lb * 1 ≤ val lb * 2 ^ n := Nat.mul_le_mul_left _ hp2
      omega
    · exact h
  have hnv : (limbs (val lb * 2 ^ n)).length = lb.length := by omega
  have hUV1 : val a * 2 ^ n / (val lb * 2 ^ n) = val a / val lb := Nat.mul_div_mul_right _ _ hp2
  have hUV2 : val a * 2 ^ n % (val lb * 2 ^ n) / 2 ^ n = val a % val lb := by rw [Nat.mul_mod_mul_right, Nat.mul_div_cancel _ hp2]
  have hK1 : (limbs (val a * 2 ^ n)).length ≤ a.length + 1 := limbs_len_le hU2
  generalize hU : val a * 2 ^ n = U at *
  generalize hV : val lb * 2 ^ n = V at *
  have hvt : 0 < (limbs V).getD (lb.length - 1) 0 := by
    have := last_pos (limbs_last V) (by omega)
    rwa [hnv] at this
  have hUl : U < LB ^ (limbs U).length := by have := val_lt (lim_limbs U); rwa [val_limbs] at this
  generalize hK : (limbs U).length = K at *
  have hVl' : V < LB ^ lb.length := hVl
  refine Safe.rg rfl ?_
  simp only [ref01_Div_r10, hK, mksl_fl (H := H) (L := []) (n := K) (by omega), E3, Nat.reduceLeDiff, Nat.reduceSub, Nat.reduceAdd, Nat.reduceEqDiff, reduceCtorEq, ↓reduceIte]
  refine Safe.rg rfl ?_
  simp only [ref01_Div_r11, E3, Nat.reduceLeDiff, Nat.reduceSub, Nat.reduceAdd, Nat.reduceEqDiff, reduceCtorEq, ↓reduceIte]
  refine Safe.nilsl 14 1 (by decide) (by simp only [E3, Nat.reduceLeDiff, Nat.reduceSub, Nat.reduceAdd, Nat.reduceEqDiff, reduceCtorEq, ↓reduceIte]) ?_
  refine Safe.rg rfl ?_
  simp only [ref01_Div_r12, hK, wrap_i64 (n := (K : Int) - 1) (by omega) (by omega), E3, Nat.reduceLeDiff, Nat.reduceSub, Nat.reduceAdd, Nat.reduceEqDiff, reduceCtorEq, ↓reduceIte]
  refine Safe.lp rfl ?_
  refine Safe.keep [7, 11, 12, 13, 14, 15] ?_
  simp only [E3, Nat.reduceLeDiff, Nat.reduceSub, Nat.reduceAdd, Nat.reduceEqDiff, reduceCtorEq, ↓reduceIte]
  refine Safe.loopD K (fun i => [(7, natV lb), (11, natV (limbs U)), (12, natV (limbs V)), (13, .mu (lid H 0) 0 K (some K)), (14, natV (limbs (U / LB ^ i % V))), (15, .int .i64 ((i : Int) - 1))])
    (fun i => hap H [some ⟨1, u32s (fl K fun j => if i ≤ j then dig (U / V) j else 0)⟩]) ?_ ?_ (fun i hi ih => ?_) ?_
  · rw [Nat.div_eq_of_lt hUl, Nat.zero_mod, limbs_zero]; rfl
  · rw [digs_zero]
  · have e1 : ((i + 1 : Nat) : Int) - 1 = (i : Int) := by omega
    rw [e1]
    refine Safe.inLoop ?_
    refine Safe.rg rfl ?_
    simp only [ref01_Div_r13, Int.natCast_nonneg i, E3, Nat.reduceLeDiff, Nat.reduceSub, Nat.reduceAdd, Nat.reduceEqDiff, reduceCtorEq, ↓reduceIte]
    refine Safe.cd rfl ?_
    simp only [E3, Nat.reduceLeDiff, Nat.reduceSub, Nat.reduceAdd, Nat.reduceEqDiff, reduceCtorEq, ↓reduceIte]
    have hmod := Nat.mod_lt (U / LB ^ (i + 1)) hVp
    have hSm := short_mod U V i
    have hSd := short_div U V i
    have hiU : i < (limbs U).length := by omega
    have hdi := dig_lt U i
    have hdU : (limbs U).getD i 0 = dig U i := getD_limbs U i
    have hml : (limbs (U / LB ^ (i + 1) % V)).length ≤ lb.length := limbs_len_le (Nat.lt_trans hmod hVl)
    generalize U / LB ^ (i + 1) % V = R0 at *
    generalize U / LB ^ i % V = R1 at *
    generalize dig U i = d at *
    have hstep := digs_step (n := K) (i := i) (U / V)
    generalize dig (U / V) i = q at *
    generalize (fl K fun j => if i ≤ j then dig (U / V) j else 0) = Q1 at *
    generalize hQ0 : (fl K fun j => if i + 1 ≤ j then dig (U / V) j else 0) = Q0 at *
    have hapx := fun (env : Env) => app_lit (H := H) hH (n0 := H.length) (env := env) (L := [some ⟨1, u32s Q0⟩, some ⟨1, [.int .u32 (d : Int)]⟩]) (i := 1) (d := d) (c := 1) (l := limbs R0) (lid_ge H 1) rfl
      (by intro j b hb a ha
          match j with
          | 0 => simp at hb; subst hb; exact (u32s_clf ha).ref
          | 1 => simp at hb; subst hb; simp [Blk.flat, AV.cells] at ha; subst ha; exact .int _ _
          | j + 2 => simp at hb) (by omega) (by omega)
    refine Safe.rg rfl ?_
    simp only [ref01_Div_r14, natV_idx _ (limbs U) _ i hiU, hdU, E3, Nat.reduceLeDiff, Nat.reduceSub, Nat.reduceAdd, Nat.reduceEqDiff, reduceCtorEq, ↓reduceIte]
    rw [hapx]
    simp only [List.set_cons_succ, List.set_cons_zero, E3, Nat.reduceLeDiff, Nat.reduceSub, Nat.reduceAdd, Nat.reduceEqDiff, reduceCtorEq, ↓reduceIte]
    have hnt : Nt (d :: limbs R0) := nt_cons hdi (lim_limbs _) hml hlbl
    have hnc := refnorm_pure (d :: limbs R0) hnt
    rw [val_cons_limbs] at hnc
    refine PureC.consumeL (r := natV (limbs (R0 * LB + d))) hH 1 rfl (blk_u32 _) (by rw [frz_litrow]; exact hnc) ?_
    simp only [frzL_cons, frzL_nil, List.set_cons_succ, List.set_cons_zero, E3, Nat.reduceLeDiff, Nat.reduceSub, Nat.reduceAdd, Nat.reduceEqDiff, reduceCtorEq, ↓reduceIte]
    have hSl : R0 * LB + d < LB * V := by
      have : (R0 + 1) * LB ≤ V * LB := Nat.mul_le_mul_right _ hmod
      rw [Nat.add_mul, Nat.one_mul] at this
      rw [Nat.mul_comm LB V]; omega
    generalize R0 * LB + d = S at *
    refine Safe.keep [7, 11, 12, 13, 14, 15] ?_
    simp only [E3, Nat.reduceLeDiff, Nat.reduceSub, Nat.reduceAdd, Nat.reduceEqDiff, reduceCtorEq, ↓reduceIte]
    refine Safe.drop1 hH rfl (by simp only [List.all_cons, List.all_nil, E3, Nat.reduceLeDiff, Nat.reduceSub, Nat.reduceAdd, Nat.reduceEqDiff, reduceCtorEq, ↓reduceIte]) (by repeat (first | exact RC.nil | refine RC.none ?_ | refine RC.row ZI.cl ?_ | refine RC.cons (blk_u32 _) ?_ | refine RC.row vecV_cl ?_ | refine RC.emp ?_ | refine RC.zero ?_ | refine RC.one (Z_cl _) ?_ | refine RC.one (ZI.cl _) ?_ | refine RC.one (vecV_cl _) ?_)) ?_
    have hSn : S < LB ^ (lb.length + 1) := by
      have : LB * V ≤ LB * LB ^ lb.length := Nat.mul_le_mul_left _ (Nat.le_of_lt hVl)
      rw [Nat.pow_succ']; omega
    have hSlen : (limbs S).length ≤ lb.length + 1 := limbs_len_le hSn
    have hntS : Nt (limbs S) := ⟨lim_limbs S, by omega⟩
    have hntV : Nt (limbs V) := ⟨lim_limbs V, by omega⟩
    refine Safe.rg rfl ?_
    simp only [ref01_Div_r15, E3, Nat.reduceLeDiff, Nat.reduceSub, Nat.reduceAdd, Nat.reduceEqDiff, reduceCtorEq, ↓reduceIte]
    refine (refcmp_pure (limbs S) (limbs V) hntS hntV).acall ?_
    rw [val_limbs, val_limbs]
    have w3 : IntKind.wrap .i64 ((i : Int) - 1) = (i : Int) - 1 := wrap_i64 (n := (i : Int) - 1) (by omega) (by omega)
    by_cases hSV : S < V
    · have hcm : (cmpI S V < 0) = True := by rw [cmpI_lt]; exact eq_true hSV
      simp only [hcm, E3, Nat.reduceLeDiff, Nat.reduceSub, Nat.reduceAdd, Nat.reduceEqDiff, reduceCtorEq, ↓reduceIte]
      refine Safe.cd rfl ?_
      simp only [E3, Nat.reduceLeDiff, Nat.reduceSub, Nat.reduceAdd, Nat.reduceEqDiff, reduceCtorEq, ↓reduceIte]
      refine Safe.rg rfl ?_
      simp only [ref01_Div_r25, w3, E3, Nat.reduceLeDiff, Nat.reduceSub, Nat.reduceAdd, Nat.reduceEqDiff, reduceCtorEq, ↓reduceIte]
      refine Safe.keep [7, 11, 12, 13, 14, 15] ?_
      simp only [E3, Nat.reduceLeDiff, Nat.reduceSub, Nat.reduceAdd, Nat.reduceEqDiff, reduceCtorEq, ↓reduceIte]
      have hS1 : R1 = S := by rw [← hSm, Nat.mod_eq_of_lt hSV]
      have hq0 : q = 0 := by rw [← hSd, Nat.div_eq_of_lt hSV]
      have hQ : Q0 = Q1 := by
        rw [← hQ0, ← hstep]
        refine fl_congr fun j _ => ?_
        by_cases hj : j = i
        · subst hj; rw [if_pos rfl, if_neg (by omega), hq0]
        · rw [if_neg hj]
      rw [hQ, ← hS1]
      exact ih
    have hcm : (cmpI S V < 0) = False := by rw [cmpI_lt]; exact eq_false hSV
    simp only [hcm, E3, Nat.reduceLeDiff, Nat.reduceSub, Nat.reduceAdd, Nat.reduceEqDiff, reduceCtorEq, ↓reduceIte]
    refine Safe.cd rfl ?_
    simp only [E3, Nat.reduceLeDiff, Nat.reduceSub, Nat.reduceAdd, Nat.reduceEqDiff, reduceCtorEq, ↓reduceIte]
    have main : ∀ G, S / V ≤ G → G < LB → Safe ⟨Pr, fun _ k => k == 4, F_ref01_Div, 132, [.tmp 4, .tmp 5, .tmp 6], H.length⟩
        [.code ((ACode.region ref01_Div_r19 false).seq ((ACode.block 2 ref01_Div_l1.loop).seq ((ACode.region ref01_Div_r23 false).seq (ACode.region ref01_Div_r24 false)))),
          .inBlock 1, .code (.region ref01_Div_r25 false), .inLoop ref01_Div_l0, .inBlock 0, .code ((ACode.region ref01_Div_r26 false).seq ((ACode.region ref01_Div_r27 false).seq .ret))]
        [(7, natV lb), (11, natV (limbs U)), (12, natV (limbs V)), (13, .mu (lid H 0) 0 K (some K)), (14, natV (limbs S)), (15, .int .i64 i), (16, .int .u64 G)]
        (hap H [some ⟨1, u32s Q0⟩]) fun r' H' => r' = .tup [natV (limbs (val a / val lb)), natV (limbs (val a % val lb)), .int .i64 0] ∧ ∃ L, H' = hap H L := by
      intro G hG1 hG2
      refine Safe.rg rfl ?_
      simp only [ref01_Div_r19, wrap32 hG2, natV_one, E3, Nat.reduceLeDiff, Nat.reduceSub, Nat.reduceAdd, Nat.reduceEqDiff, reduceCtorEq, ↓reduceIte]
      have hnG : Nt [G] := ⟨by intro d hd; simp at hd; omega, by simp⟩
      first | refine (refmul_pure (limbs V) [G] hntV hnG (by simp; omega)).acall ?_ | refine (refmul_pure (limbs V) [G] hntV hnG (by simp; omega)).dcall ?_
      try simp only [E3, Nat.reduceLeDiff, Nat.reduceSub, Nat.reduceAdd, Nat.reduceEqDiff, reduceCtorEq, ↓reduceIte]
      rw [val_limbs, limbs_one]
      refine Safe.lp rfl ?_
      refine Safe.keep [7, 11, 12, 13, 14, 15, 16, 17] ?_
      simp only [E3, Nat.reduceLeDiff, Nat.reduceSub, Nat.reduceAdd, Nat.reduceEqDiff, reduceCtorEq, ↓reduceIte]
      refine Safe.loopW (α := Nat) (fun g => g) (fun g => [(7, natV lb), (11, natV (limbs U)), (12, natV (limbs V)), (13, .mu (lid H 0) 0 K (some K)), (14, natV (limbs S)), (15, .int .i64 i), (16, .int .u64 g), (17, natV (limbs (V * g)))])
        (fun _ => hap H [some ⟨1, u32s Q0⟩]) (fun g => S / V ≤ g ∧ g < LB) G rfl rfl ⟨hG1, hG2⟩ fun g ⟨hg1, hg2⟩ ihg => ?_
      have hVg : V * g < LB ^ (lb.length + 1) := by
        have h1 : V * g ≤ V * LB := Nat.mul_le_mul_left _ (Nat.le_of_lt hg2)
        have h2 : V * LB < LB ^ lb.length * LB := Nat.mul_lt_mul_of_pos_right hVl (by decide)
        rw [Nat.pow_succ]; omega
      have hVgl : (limbs (V * g)).length ≤ lb.length + 1 := limbs_len_le hVg
      have hntg : Nt (limbs (V * g)) := ⟨lim_limbs _, by omega⟩
      refine Safe.inLoop ?_
      refine Safe.rg rfl ?_
      simp only [ref01_Div_r20, E3, Nat.reduceLeDiff, Nat.reduceSub, Nat.reduceAdd, Nat.reduceEqDiff, reduceCtorEq, ↓reduceIte]
      refine (refcmp_pure (limbs (V * g)) (limbs S) hntg hntS).acall ?_
      rw [val_limbs, val_limbs]
      by_cases hlt : S < V * g
      · have hcm : (cmpI (V * g) S > 0) = True := by rw [cmpI_gt]; exact eq_true hlt
        simp only [hcm, E3, Nat.reduceLeDiff, Nat.reduceSub, Nat.reduceAdd, Nat.reduceEqDiff, reduceCtorEq, ↓reduceIte]
        refine Safe.cd rfl ?_
        simp only [E3, Nat.reduceLeDiff, Nat.reduceSub, Nat.reduceAdd, Nat.reduceEqDiff, reduceCtorEq, ↓reduceIte]
        have hgq : S / V < g := by rw [Nat.div_lt_iff_lt_mul hVp, Nat.mul_comm]; exact hlt
        have w4 : IntKind.wrap .u64 ((g : Int) - 1) = ((g - 1 : Nat) : Int) := by rw [wrap_u64] <;> omega
        have hVV : V ≤ V * g := Nat.le_mul_of_pos_right _ (by omega)
        refine Safe.rg rfl ?_
        simp only [ref01_Div_r21, w4, E3, Nat.reduceLeDiff, Nat.reduceSub, Nat.reduceAdd, Nat.reduceEqDiff, reduceCtorEq, ↓reduceIte]
        refine Safe.rg rfl ?_
        simp only [ref01_Div_r22, E3, Nat.reduceLeDiff, Nat.reduceSub, Nat.reduceAdd, Nat.reduceEqDiff, reduceCtorEq, ↓reduceIte]
        first | refine (refless_pure (limbs (V * g)) (limbs V) (lim_limbs _) (lim_limbs _) hntg.len hntV.len (by rw [val_limbs, val_limbs]; exact hVV)).acall ?_ | refine (refless_pure (limbs (V * g)) (limbs V) (lim_limbs _) (lim_limbs _) hntg.len hntV.len (by rw [val_limbs, val_limbs]; exact hVV)).dcall ?_
        try simp only [E3, Nat.reduceLeDiff, Nat.reduceSub, Nat.reduceAdd, Nat.reduceEqDiff, reduceCtorEq, ↓reduceIte]
        rw [val_limbs, val_limbs, show V * g - V = V * (g - 1) by rw [Nat.mul_sub, Nat.mul_one]]
        refine Safe.keep [7, 11, 12, 13, 14, 15, 16, 17] ?_
        simp only [E3, Nat.reduceLeDiff, Nat.reduceSub, Nat.reduceAdd, Nat.reduceEqDiff, reduceCtorEq, ↓reduceIte]
        refine Safe.inBlock ?_
        exact ihg (g - 1) ⟨by omega, by omega⟩ (by omega)
      · have hcm : (cmpI (V * g) S > 0) = False := by rw [cmpI_gt]; exact eq_false hlt
        simp only [hcm, E3, Nat.reduceLeDiff, Nat.reduceSub, Nat.reduceAdd, Nat.reduceEqDiff, reduceCtorEq, ↓reduceIte]
        refine Safe.cd rfl ?_
        simp only [E3, Nat.reduceLeDiff, Nat.reduceSub, Nat.reduceAdd, Nat.reduceEqDiff, reduceCtorEq, ↓reduceIte]
        have hgq : g = q := by
          have : g ≤ S / V := by rw [Nat.le_div_iff_mul_le hVp, Nat.mul_comm]; omega
          omega
        subst hgq
        rw [← hQ0]
        refine Safe.rg rfl ?_
        simp only [ref01_Div_r23, wrap32 hg2, fidx0 hi, fst0 hi, E3, Nat.reduceLeDiff, Nat.reduceSub, Nat.reduceAdd, Nat.reduceEqDiff, reduceCtorEq, ↓reduceIte]
        have hSr : S - V * g = R1 := by
          rw [← hSm, ← hSd]
          have := Nat.div_add_mod S V
          omega
        refine Safe.rg rfl ?_
        simp only [ref01_Div_r24, E3, Nat.reduceLeDiff, Nat.reduceSub, Nat.reduceAdd, Nat.reduceEqDiff, reduceCtorEq, ↓reduceIte]
        first | refine (refless_pure (limbs S) (limbs (V * g)) (lim_limbs _) (lim_limbs _) hntS.len hntg.len (by rw [val_limbs, val_limbs]; omega)).acall ?_ | refine (refless_pure (limbs S) (limbs (V * g)) (lim_limbs _) (lim_limbs _) hntS.len hntg.len (by rw [val_limbs, val_limbs]; omega)).dcall ?_
        try simp only [E3, Nat.reduceLeDiff, Nat.reduceSub, Nat.reduceAdd, Nat.reduceEqDiff, reduceCtorEq, ↓reduceIte]
        rw [val_limbs, val_limbs, hSr]
        refine Safe.rg rfl ?_
        simp only [ref01_Div_r25, w3, E3, Nat.reduceLeDiff, Nat.reduceSub, Nat.reduceAdd, Nat.reduceEqDiff, reduceCtorEq, ↓reduceIte]
        refine Safe.keep [7, 11, 12, 13, 14, 15] ?_
        simp only [E3, Nat.reduceLeDiff, Nat.reduceSub, Nat.reduceAdd, Nat.reduceEqDiff, reduceCtorEq, ↓reduceIte]
        rw [hstep]
        exact ih
    have hguess := guess_ge (u := fl (lb.length + 1) (dig S)) (v := limbs V) (n := lb.length) (lim_dig _ _) (lim_limbs V) (fl_len _ _) hnv hb1 (by rw [val_limbs]; exact hVp) (by rw [val_limbs, val_fl_all hSn]; exact hSl) hvt
    rw [val_fl_all hSn, val_limbs, fl_get (by omega), fl_get (by omega)] at hguess
    have hg1 := Nat.le_trans hguess (Nat.min_le_left _ _)
    have hg2 : S / V ≤ 4294967295 := Nat.le_trans hguess (Nat.min_le_right _ _)
    clear hguess
    have hx1 := dig_lt S lb.length
    have hx2 := dig_lt S (lb.length - 1)
    have w5 : IntKind.wrap .i64 ((lb.length : Int) - 1) = ((lb.length - 1 : Nat) : Int) := by rw [wrap_i64] <;> omega
    refine Safe.rg rfl ?_
    simp only [ref01_Div_r16, hnv, E3, Nat.reduceLeDiff, Nat.reduceSub, Nat.reduceAdd, Nat.reduceEqDiff, reduceCtorEq, ↓reduceIte]
    first | refine (limb_pure (limbs S) lb.length (lim_limbs S) hntS.len).acall ?_ | refine (limb_pure (limbs S) lb.length (lim_limbs S) hntS.len).dcall ?_
    try simp only [E3, Nat.reduceLeDiff, Nat.reduceSub, Nat.reduceAdd, Nat.reduceEqDiff, reduceCtorEq, ↓reduceIte]
    rw [getD_limbs]
    simp only [wrap_mulLB hx1, hnv, w5, E3, Nat.reduceLeDiff, Nat.reduceSub, Nat.reduceAdd, Nat.reduceEqDiff, reduceCtorEq, ↓reduceIte]
    first | refine (limb_pure (limbs S) (lb.length - 1) (lim_limbs S) hntS.len).acall ?_ | refine (limb_pure (limbs S) (lb.length - 1) (lim_limbs S) hntS.len).dcall ?_
    try simp only [E3, Nat.reduceLeDiff, Nat.reduceSub, Nat.reduceAdd, Nat.reduceEqDiff, reduceCtorEq, ↓reduceIte]
    rw [getD_limbs]
    generalize dig S lb.length = x at *
    generalize dig S (lb.length - 1) = y at *
    have hxy : x * LB + y < 18446744073709551616 := by
      have : x * LB ≤ 4294967295 * LB := Nat.mul_le_mul_right _ (by omega)
      omega
    simp only [wrap_add64 hxy, hnv, w5, E3, Nat.reduceLeDiff, Nat.reduceSub, Nat.reduceAdd, Nat.reduceEqDiff, reduceCtorEq, ↓reduceIte]
    first | refine (limb_pure (limbs V) (lb.length - 1) (lim_limbs V) hntV.len).acall ?_ | refine (limb_pure (limbs V) (lb.length - 1) (lim_limbs V) hntV.len).dcall ?_
    try simp only [E3, Nat.reduceLeDiff, Nat.reduceSub, Nat.reduceAdd, Nat.reduceEqDiff, reduceCtorEq, ↓reduceIte]
    generalize (limbs V).getD (lb.length - 1) 0 = z at *
    simp only [quo_nat hvt hxy, E3, Nat.reduceLeDiff, Nat.reduceSub, Nat.reduceAdd, Nat.reduceEqDiff, reduceCtorEq, ↓reduceIte]
    by_cases hge : LB ≤ (x * LB + y) / z
    · have hc : ((((x * LB + y) / z : Nat) : Int) ≥ 4294967296) = True := eq_true (by omega)
      refine Safe.rg rfl ?_
      simp only [ref01_Div_r17, hc, E3, Nat.reduceLeDiff, Nat.reduceSub, Nat.reduceAdd, Nat.reduceEqDiff, reduceCtorEq, ↓reduceIte]
      refine Safe.cd rfl ?_
      simp only [E3, Nat.reduceLeDiff, Nat.reduceSub, Nat.reduceAdd, Nat.reduceEqDiff, reduceCtorEq, ↓reduceIte]
      refine Safe.rg rfl ?_
      simp only [ref01_Div_r18, E3, Nat.reduceLeDiff, Nat.reduceSub, Nat.reduceAdd, Nat.reduceEqDiff, reduceCtorEq, ↓reduceIte]
      refine Safe.keep [7, 11, 12, 13, 14, 15, 16] ?_
      simp only [E3, Nat.reduceLeDiff, Nat.reduceSub, Nat.reduceAdd, Nat.reduceEqDiff, reduceCtorEq, ↓reduceIte]
      exact main 4294967295 hg2 (by decide)
    · have hc : ((((x * LB + y) / z : Nat) : Int) ≥ 4294967296) = False := eq_false (by omega)
      refine Safe.rg rfl ?_
      simp only [ref01_Div_r17, hc, E3, Nat.reduceLeDiff, Nat.reduceSub, Nat.reduceAdd, Nat.reduceEqDiff, reduceCtorEq, ↓reduceIte]
      refine Safe.cd rfl ?_
      simp only [E3, Nat.reduceLeDiff, Nat.reduceSub, Nat.reduceAdd, Nat.reduceEqDiff, reduceCtorEq, ↓reduceIte]
      refine Safe.keep [7, 11, 12, 13, 14, 15, 16] ?_
      simp only [E3, Nat.reduceLeDiff, Nat.reduceSub, Nat.reduceAdd, Nat.reduceEqDiff, reduceCtorEq, ↓reduceIte]
      refine Safe.skip ?_
      exact main _ hg1 (Nat.lt_of_not_le hge)
  · refine Safe.inLoop ?_
    refine Safe.rg rfl ?_
    simp only [ref01_Div_r13, show (0 ≤ ((0 : Nat) : Int) - 1) = False by simp, E3, Nat.reduceLeDiff, Nat.reduceSub, Nat.reduceAdd, Nat.reduceEqDiff, reduceCtorEq, ↓reduceIte]
    refine Safe.cd rfl ?_
    simp only [E3, Nat.reduceLeDiff, Nat.reduceSub, Nat.reduceAdd, Nat.reduceEqDiff, reduceCtorEq, ↓reduceIte]
    rw [Nat.pow_zero, Nat.div_one]
    refine Safe.freeze 0 hH rfl rfl (blk_u32 _) ?_
    refine Safe.keep [7, 13, 14] ?_
    simp only [frz_fl, E3, Nat.reduceLeDiff, Nat.reduceSub, Nat.reduceAdd, Nat.reduceEqDiff, reduceCtorEq, ↓reduceIte]
    rw [digs_all]
    have hUm : U % V < LB ^ lb.length := Nat.lt_trans (Nat.mod_lt _ hVp) hVl
    refine Safe.rg rfl ?_
    simp only [ref01_Div_r26, w1, E3, Nat.reduceLeDiff, Nat.reduceSub, Nat.reduceAdd, Nat.reduceEqDiff, reduceCtorEq, ↓reduceIte]
    first | refine (refbits_pure lb hnb).acall ?_ | refine (refbits_pure lb hnb).dcall ?_
    try simp only [E3, Nat.reduceLeDiff, Nat.reduceSub, Nat.reduceAdd, Nat.reduceEqDiff, reduceCtorEq, ↓reduceIte]
    simp only [w2, E3, Nat.reduceLeDiff, Nat.reduceSub, Nat.reduceAdd, Nat.reduceEqDiff, reduceCtorEq, ↓reduceIte]
    first | refine (rshr_pure (limbs (U % V)) n ⟨lim_limbs _, Nat.le_trans (limbs_len_le hUm) (by omega)⟩ hn32).acall ?_ | refine (rshr_pure (limbs (U % V)) n ⟨lim_limbs _, Nat.le_trans (limbs_len_le hUm) (by omega)⟩ hn32).dcall ?_
    try simp only [E3, Nat.reduceLeDiff, Nat.reduceSub, Nat.reduceAdd, Nat.reduceEqDiff, reduceCtorEq, ↓reduceIte]
    rw [val_limbs, hUV2]
    have hUd : U / V < LB ^ K := Nat.lt_of_le_of_lt (Nat.div_le_self _ _) hUl
    refine Safe.rg rfl ?_
    simp only [ref01_Div_r27, E3, Nat.reduceLeDiff, Nat.reduceSub, Nat.reduceAdd, Nat.reduceEqDiff, reduceCtorEq, ↓reduceIte]
    first | refine (refnorm_pure (fl K (dig (U / V))) ⟨lim_dig _ _, by rw [fl_len]; omega⟩).acall ?_ | refine (refnorm_pure (fl K (dig (U / V))) ⟨lim_dig _ _, by rw [fl_len]; omega⟩).dcall ?_
    try simp only [E3, Nat.reduceLeDiff, Nat.reduceSub, Nat.reduceAdd, Nat.reduceEqDiff, reduceCtorEq, ↓reduceIte]
    rw [val_fl_all hUd, hUV1]
    refine Safe.rt rfl ?_
    simp only [E3, Nat.reduceLeDiff, Nat.reduceSub, Nat.reduceAdd, Nat.reduceEqDiff, reduceCtorEq, ↓reduceIte]
    first | exact ⟨rfl, _, rfl⟩ | exact ⟨_, rfl⟩ | exact ⟨trivial, _, rfl⟩
end Go.Abs
set_option linter.unusedVariables false
set_option linter.unusedSimpArgs false
namespace Go.Abs
theorem len_pos_limbs {n : Nat} : (((limbs n).length : Nat) : Int) > 0 ↔ n ≠ 0 := by
  have := limbs_len_zero n
  omega
theorem refgcd_pure (a b : List Nat) (ha : Nt a) (hb : Nt b) (hal : a.length < 17592186044000) (hbl : b.length < 17592186044000) : PureC Pr F_ref01_Gcd [natV a, natV b] (natV (limbs (Nat.gcd (val a) (val b)))) := by
  have hva : (limbs (val a)).length < 17592186044000 := Nat.lt_of_le_of_lt (limbs_val_len ha.lim) hal
  have hvb : (limbs (val b)).length < 17592186044000 := Nat.lt_of_le_of_lt (limbs_val_len hb.lim) hbl
  refine PureC.intro ref01_Gcd_fn ref01_Gcd_ok (Nat.le_of_ble_eq_true rfl) (natV_cl _) fun H hH => ?_
  refine Safe.rg rfl ?_
  simp only [ref01_Gcd_r0, E3, Nat.reduceLeDiff, Nat.reduceSub, Nat.reduceAdd, Nat.reduceEqDiff, reduceCtorEq, ↓reduceIte]
  refine Safe.rg rfl ?_
  simp only [ref01_Gcd_r1, E3, Nat.reduceLeDiff, Nat.reduceSub, Nat.reduceAdd, Nat.reduceEqDiff, reduceCtorEq, ↓reduceIte]
  first | refine (refnorm_pure a ha).acall ?_ | refine (refnorm_pure a ha).dcall ?_
  try simp only [E3, Nat.reduceLeDiff, Nat.reduceSub, Nat.reduceAdd, Nat.reduceEqDiff, reduceCtorEq, ↓reduceIte]
  refine Safe.rg rfl ?_
  simp only [ref01_Gcd_r2, E3, Nat.reduceLeDiff, Nat.reduceSub, Nat.reduceAdd, Nat.reduceEqDiff, reduceCtorEq, ↓reduceIte]
  first | refine (refnorm_pure b hb).acall ?_ | refine (refnorm_pure b hb).dcall ?_
  try simp only [E3, Nat.reduceLeDiff, Nat.reduceSub, Nat.reduceAdd, Nat.reduceEqDiff, reduceCtorEq, ↓reduceIte]
  refine Safe.lp rfl ?_
  refine Safe.keep [5, 6] ?_
  simp only [E3, Nat.reduceLeDiff, Nat.reduceSub, Nat.reduceAdd, Nat.reduceEqDiff, reduceCtorEq, ↓reduceIte]
  refine Safe.loopW (α := Nat × Nat) (fun p => p.2) (fun p => [(5, natV (limbs p.1)), (6, natV (limbs p.2))]) (fun _ => hap H [])
    (fun p => Nat.gcd p.1 p.2 = Nat.gcd (val a) (val b) ∧ (limbs p.1).length < 17592186044000 ∧ (limbs p.2).length < 17592186044000) (val a, val b) rfl rfl ⟨rfl, hva, hvb⟩ ?_
  rintro ⟨x, y⟩ ⟨hg, hx, hy⟩ ih
  simp only at hg hx hy ih ⊢
  refine Safe.inLoop ?_
  by_cases h0 : y = 0
  · subst h0
    refine Safe.rg rfl ?_
    simp only [ref01_Gcd_r3, limbs_zero, show ((([] : List Nat).length : Nat) : Int) > 0 ↔ False by simp, E3, Nat.reduceLeDiff, Nat.reduceSub, Nat.reduceAdd, Nat.reduceEqDiff, reduceCtorEq, ↓reduceIte]
    refine Safe.cd rfl ?_
    simp only [E3, Nat.reduceLeDiff, Nat.reduceSub, Nat.reduceAdd, Nat.reduceEqDiff, reduceCtorEq, ↓reduceIte]
    refine Safe.rg rfl ?_
    simp only [ref01_Gcd_r7, E3, Nat.reduceLeDiff, Nat.reduceSub, Nat.reduceAdd, Nat.reduceEqDiff, reduceCtorEq, ↓reduceIte]
    rw [Nat.gcd_zero_right] at hg
    refine Safe.rt rfl ?_
    simp only [hg, E3, Nat.reduceLeDiff, Nat.reduceSub, Nat.reduceAdd, Nat.reduceEqDiff, reduceCtorEq, ↓reduceIte]
    first | exact ⟨rfl, _, rfl⟩ | exact ⟨_, rfl⟩ | exact ⟨trivial, _, rfl⟩
  · have hc : ((((limbs y).length : Nat) : Int) > 0) = True := eq_true (len_pos_limbs.2 h0)
    refine Safe.rg rfl ?_
    simp only [ref01_Gcd_r3, hc, E3, Nat.reduceLeDiff, Nat.reduceSub, Nat.reduceAdd, Nat.reduceEqDiff, reduceCtorEq, ↓reduceIte]
    refine Safe.cd rfl ?_
    simp only [E3, Nat.reduceLeDiff, Nat.reduceSub, Nat.reduceAdd, Nat.reduceEqDiff, reduceCtorEq, ↓reduceIte]
    refine Safe.rg rfl ?_
    simp only [ref01_Gcd_r4, E3, Nat.reduceLeDiff, Nat.reduceSub, Nat.reduceAdd, Nat.reduceEqDiff, reduceCtorEq, ↓reduceIte]
    first | refine (refdiv_pure (limbs x) (limbs y) ⟨lim_limbs _, by omega⟩ ⟨lim_limbs _, by omega⟩ hx hy (by rw [val_limbs]; exact h0)).acall ?_ | refine (refdiv_pure (limbs x) (limbs y) ⟨lim_limbs _, by omega⟩ ⟨lim_limbs _, by omega⟩ hx hy (by rw [val_limbs]; exact h0)).dcall ?_
    try simp only [E3, Nat.reduceLeDiff, Nat.reduceSub, Nat.reduceAdd, Nat.reduceEqDiff, reduceCtorEq, ↓reduceIte]
    rw [val_limbs, val_limbs]
    have hm : x % y < y := Nat.mod_lt _ (Nat.pos_of_ne_zero h0)
    refine Safe.rg rfl ?_
    simp only [ref01_Gcd_r5, E3, Nat.reduceLeDiff, Nat.reduceSub, Nat.reduceAdd, Nat.reduceEqDiff, reduceCtorEq, ↓reduceIte]
    refine Safe.rg rfl ?_
    simp only [ref01_Gcd_r6, E3, Nat.reduceLeDiff, Nat.reduceSub, Nat.reduceAdd, Nat.reduceEqDiff, reduceCtorEq, ↓reduceIte]
    refine Safe.keep [5, 6] ?_
    simp only [E3, Nat.reduceLeDiff, Nat.reduceSub, Nat.reduceAdd, Nat.reduceEqDiff, reduceCtorEq, ↓reduceIte]
    refine Safe.inBlock ?_
    refine ih (y, x % y) ⟨?_, hy, ?_⟩ hm
    · rw [← hg, Nat.gcd_comm x y, Nat.gcd_rec y x, Nat.gcd_comm]
    · have h1 := val_lt (lim_limbs y)
      rw [val_limbs] at h1
      exact Nat.lt_of_le_of_lt (limbs_len_le (Nat.lt_trans hm h1)) hy
theorem gcd_lt {a b M : Nat} (ha : a < M) (hb : b < M) : Nat.gcd a b < M := by
  rcases Nat.eq_zero_or_pos a with h | h
  · subst h; rw [Nat.gcd_zero_left]; exact hb
  · exact Nat.lt_of_le_of_lt (Nat.gcd_le_left _ h) ha
theorem lb_one (k : Nat) : (1 : Int).natAbs < LB ^ (k + 1) := Nat.one_lt_pow (Nat.succ_ne_zero k) (by decide)
end Go.Abs
set_option linter.unusedVariables false
set_option linter.unusedSimpArgs false
namespace Go.Abs
/-- A rational in lowest terms as it is handed round. -/
def Rv (q : Rat) : AV := .agg [.bool (decide (q.num < 0)), natV (limbs q.num.natAbs), .bool false, natV (limbs q.den)]
structure Rok (k : Nat) (q : Rat) : Prop where
  num : q.num.natAbs < LB ^ k
  den : q.den < LB ^ k
theorem Rok.mono {k l : Nat} {q : Rat} (h : Rok k q) (hl : k ≤ l) : Rok l q := ⟨Nat.lt_of_lt_of_le h.num (lb_mono hl), Nat.lt_of_lt_of_le h.den (lb_mono hl)⟩
def dZ (d : Nat) : ZI := ⟨false, limbs d⟩
theorem dZ_z (d : Nat) : (dZ d).z = (d : Int) := by simp only [dZ, ZI.z, val_limbs]; rfl
theorem dZ_ok {k d : Nat} (h : d < LB ^ k) : Zok k (dZ d) := ⟨lim_limbs _, limbs_len_le h⟩
theorem Rv_cl (q : Rat) : Cl (Rv q) := .agg _ fun c hc => by
  simp only [List.mem_cons, List.not_mem_nil, or_false] at hc
  rcases hc with rfl | rfl | rfl | rfl
  · exact .bool _
  · exact natV_cl _
  · exact .bool _
  · exact natV_cl _
theorem Rv_cells (q : Rat) : (Rv q).cells = [.bool (decide (q.num < 0)), natV (limbs q.num.natAbs), .bool false, natV (limbs q.den)] := rfl
theorem Rv_fit (q : Rat) : (Rv q).fit = true := rfl
theorem Rv_frz (id : Nat) (b : Blk) (q : Rat) : frz id b (Rv q) = Rv q := frz_cl (Rv_cl q)
theorem zero_lt_four : (0 < 4) = True := by decide
theorem sgn_div {n : Int} {g : Nat} (h : g ∣ n.natAbs) : sgn (decide (n < 0)) (n.natAbs / g) = n / (g : Int) := by
  obtain ⟨c, hc⟩ := h
  rcases Nat.eq_zero_or_pos g with rfl | hg
  · simp [sgn]
  rw [hc, Nat.mul_div_cancel_left _ hg]
  have hg' : (g : Int) ≠ 0 := by omega
  by_cases h0 : n < 0
  · have : n = (g : Int) * -(c : Int) := by
      have : (n.natAbs : Int) = (g : Int) * (c : Int) := by rw [hc]; exact Int.natCast_mul _ _
      rw [Int.mul_neg]; omega
    rw [decide_eq_true h0, this, Int.mul_ediv_cancel_left _ hg']
    simp [sgn]
  · have : n = (g : Int) * (c : Int) := by
      have : (n.natAbs : Int) = (g : Int) * (c : Int) := by rw [hc]; exact Int.natCast_mul _ _
      omega
    rw [decide_eq_false h0, this, Int.mul_ediv_cancel_left _ hg']
    simp [sgn]
theorem r3make_pure (x y : ZI) (k : Nat) (hx : Zok k x) (hy : Zok k y) (hk : k < 17592186044000) (hy0 : y.z ≠ 0) : PureC Pr F_ref03_Make [x.av, y.av] (Rv (Rat.divInt x.z y.z)) := by
  have hax := hx.abs
  have hay := hy.abs
  refine PureC.intro ref03_Make_fn ref03_Make_ok (Nat.le_of_ble_eq_true rfl) (Rv_cl _) fun H hH => ?_
  refine Safe.rg rfl ?_
  simp only [ref03_Make_r0, zero_lt_four, E3, Nat.reduceLeDiff, Nat.reduceSub, Nat.reduceAdd, Nat.reduceEqDiff, reduceCtorEq, ↓reduceIte]
  refine Safe.rg rfl ?_
  simp only [ref03_Make_r1, E3, Nat.reduceLeDiff, Nat.reduceSub, Nat.reduceAdd, Nat.reduceEqDiff, reduceCtorEq, ↓reduceIte]
  first | refine (r2form_pure x (hx.mono (by omega))).acall ?_ | refine (r2form_pure x (hx.mono (by omega))).dcall ?_
  try simp only [E3, Nat.reduceLeDiff, Nat.reduceSub, Nat.reduceAdd, Nat.reduceEqDiff, reduceCtorEq, ↓reduceIte]
  refine Safe.rg rfl ?_
  simp only [ref03_Make_r2, E3, Nat.reduceLeDiff, Nat.reduceSub, Nat.reduceAdd, Nat.reduceEqDiff, reduceCtorEq, ↓reduceIte]
  first | refine (r2form_pure y (hy.mono (by omega))).acall ?_ | refine (r2form_pure y (hy.mono (by omega))).dcall ?_
  try simp only [E3, Nat.reduceLeDiff, Nat.reduceSub, Nat.reduceAdd, Nat.reduceEqDiff, reduceCtorEq, ↓reduceIte]
  have main : ∀ a b : Int, 0 < b → a.natAbs < LB ^ k → b.natAbs < LB ^ k → Rat.divInt a b = Rat.divInt x.z y.z → Safe ⟨Pr, fun _ _ => false, F_ref03_Make, 54, [.cell 4 (some 4)], H.length⟩
      [.code ((ACode.region ref03_Make_r6 false).seq ((ACode.region ref03_Make_r7 false).seq ((ACode.region ref03_Make_r8 false).seq ((ACode.region ref03_Make_r9 false).seq .ret))))]
      [(4, .loc (lid H 2) 0 0), (5, .loc (lid H 3) 0 0), (6, .loc (lid H 4) 0 0)]
      (hap H [some ⟨2, [x.av]⟩, some ⟨2, [y.av]⟩, some ⟨4, [.agg [.bool false, .nil, .bool false, .nil]]⟩, some ⟨2, [Z a]⟩, some ⟨2, [Z b]⟩]) fun r' H' => r' = Rv (Rat.divInt x.z y.z) ∧ ∃ L, H' = hap H L := by
    intro a b hb ha1 hb1 he
    have hla : (limbs a.natAbs).length ≤ k := limbs_len_le ha1
    have hlb : (limbs b.natAbs).length ≤ k := limbs_len_le hb1
    have hg0 : Nat.gcd a.natAbs b.natAbs ≠ 0 := fun h => by
      have := Nat.gcd_eq_zero_iff.1 h
      omega
    have hnum := Rat.num_divInt a b
    have hden := Rat.den_divInt a b
    rw [Int.sign_eq_one_of_pos hb, Int.one_mul, Int.gcd, Nat.gcd_comm] at hnum
    rw [if_neg (by omega), Int.gcd, Nat.gcd_comm] at hden
    have hgl : (limbs (Nat.gcd a.natAbs b.natAbs)).length ≤ k := limbs_len_le (gcd_lt ha1 hb1)
    have hs := sgn_div (n := a) (Nat.gcd_dvd_left a.natAbs b.natAbs)
    rw [← hnum] at hs
    rw [← he]
    refine Safe.rg rfl ?_
    simp only [ref03_Make_r6, E3, Nat.reduceLeDiff, Nat.reduceSub, Nat.reduceAdd, Nat.reduceEqDiff, reduceCtorEq, ↓reduceIte]
    first | refine (refgcd_pure (limbs a.natAbs) (limbs b.natAbs) ⟨lim_limbs _, by omega⟩ ⟨lim_limbs _, by omega⟩ (by omega) (by omega)).acall ?_ | refine (refgcd_pure (limbs a.natAbs) (limbs b.natAbs) ⟨lim_limbs _, by omega⟩ ⟨lim_limbs _, by omega⟩ (by omega) (by omega)).dcall ?_
    try simp only [E3, Nat.reduceLeDiff, Nat.reduceSub, Nat.reduceAdd, Nat.reduceEqDiff, reduceCtorEq, ↓reduceIte]
    simp only [val_limbs]
    refine Safe.rg rfl ?_
    simp only [ref03_Make_r7, E3, Nat.reduceLeDiff, Nat.reduceSub, Nat.reduceAdd, Nat.reduceEqDiff, reduceCtorEq, ↓reduceIte]
    first | refine (refdiv_pure (limbs a.natAbs) (limbs (Nat.gcd a.natAbs b.natAbs)) ⟨lim_limbs _, by omega⟩ ⟨lim_limbs _, by omega⟩ (by omega) (by omega) (by rw [val_limbs]; exact hg0)).acall ?_ | refine (refdiv_pure (limbs a.natAbs) (limbs (Nat.gcd a.natAbs b.natAbs)) ⟨lim_limbs _, by omega⟩ ⟨lim_limbs _, by omega⟩ (by omega) (by omega) (by rw [val_limbs]; exact hg0)).dcall ?_
    try simp only [E3, Nat.reduceLeDiff, Nat.reduceSub, Nat.reduceAdd, Nat.reduceEqDiff, reduceCtorEq, ↓reduceIte]
    simp only [val_limbs]
    refine Safe.rg rfl ?_
    simp only [ref03_Make_r8, E3, Nat.reduceLeDiff, Nat.reduceSub, Nat.reduceAdd, Nat.reduceEqDiff, reduceCtorEq, ↓reduceIte]
    first | refine (refdiv_pure (limbs b.natAbs) (limbs (Nat.gcd a.natAbs b.natAbs)) ⟨lim_limbs _, by omega⟩ ⟨lim_limbs _, by omega⟩ (by omega) (by omega) (by rw [val_limbs]; exact hg0)).acall ?_ | refine (refdiv_pure (limbs b.natAbs) (limbs (Nat.gcd a.natAbs b.natAbs)) ⟨lim_limbs _, by omega⟩ ⟨lim_limbs _, by omega⟩ (by omega) (by omega) (by rw [val_limbs]; exact hg0)).dcall ?_
    try simp only [E3, Nat.reduceLeDiff, Nat.reduceSub, Nat.reduceAdd, Nat.reduceEqDiff, reduceCtorEq, ↓reduceIte]
    simp only [val_limbs]
    rw [← hden]
    have hna : a.natAbs / Nat.gcd a.natAbs b.natAbs < LB ^ k := Nat.lt_of_le_of_lt (Nat.div_le_self _ _) ha1
    have hcall := r2form_pure ⟨decide (a < 0), limbs (a.natAbs / Nat.gcd a.natAbs b.natAbs)⟩ (dZ_ok hna |>.mono (by omega) |> fun h => ⟨h.lim, h.len⟩)
    simp only [ZI.z, val_limbs, hs] at hcall
    refine Safe.rg rfl ?_
    simp only [ref03_Make_r9, E3, Nat.reduceLeDiff, Nat.reduceSub, Nat.reduceAdd, Nat.reduceEqDiff, reduceCtorEq, ↓reduceIte]
    refine hcall.acall ?_
    simp only [Z, E3, Nat.reduceLeDiff, Nat.reduceSub, Nat.reduceAdd, Nat.reduceEqDiff, reduceCtorEq, ↓reduceIte]
    refine Safe.rt rfl ?_
    simp only [E3, Nat.reduceLeDiff, Nat.reduceSub, Nat.reduceAdd, Nat.reduceEqDiff, reduceCtorEq, ↓reduceIte]
    first | exact ⟨rfl, _, rfl⟩ | exact ⟨_, rfl⟩ | exact ⟨trivial, _, rfl⟩
  have hfrom : ∀ a b : Int, a.natAbs < LB ^ k → b.natAbs < LB ^ k → Zok 17592186044416 (canZ a) := fun a b h _ => (zok_can h).mono (by omega)
  refine Safe.rg rfl ?_
  simp only [ref03_Make_r3, E3, Nat.reduceLeDiff, Nat.reduceSub, Nat.reduceAdd, Nat.reduceEqDiff, reduceCtorEq, ↓reduceIte]
  refine (r2sign_pure (canZ y.z) ((zok_can hay).mono (by omega))).acall ?_
  rw [canZ_z]
  by_cases hneg : y.z < 0
  · have hc : (y.z.sign < 0) = True := eq_true (Int.sign_neg_iff.2 hneg)
    simp only [hc, E3, Nat.reduceLeDiff, Nat.reduceSub, Nat.reduceAdd, Nat.reduceEqDiff, reduceCtorEq, ↓reduceIte]
    refine Safe.cd rfl ?_
    simp only [E3, Nat.reduceLeDiff, Nat.reduceSub, Nat.reduceAdd, Nat.reduceEqDiff, reduceCtorEq, ↓reduceIte]
    refine Safe.rg rfl ?_
    simp only [ref03_Make_r4, E3, Nat.reduceLeDiff, Nat.reduceSub, Nat.reduceAdd, Nat.reduceEqDiff, reduceCtorEq, ↓reduceIte]
    refine (r2neg_pure (canZ x.z) ((zok_can hax).mono (by omega))).acall ?_
    rw [canZ_z]
    simp only [E3, Nat.reduceLeDiff, Nat.reduceSub, Nat.reduceAdd, Nat.reduceEqDiff, reduceCtorEq, ↓reduceIte]
    refine Safe.rg rfl ?_
    simp only [ref03_Make_r5, E3, Nat.reduceLeDiff, Nat.reduceSub, Nat.reduceAdd, Nat.reduceEqDiff, reduceCtorEq, ↓reduceIte]
    refine (r2neg_pure (canZ y.z) ((zok_can hay).mono (by omega))).acall ?_
    rw [canZ_z]
    simp only [E3, Nat.reduceLeDiff, Nat.reduceSub, Nat.reduceAdd, Nat.reduceEqDiff, reduceCtorEq, ↓reduceIte]
    refine Safe.keep [4, 5, 6] ?_
    simp only [E3, Nat.reduceLeDiff, Nat.reduceSub, Nat.reduceAdd, Nat.reduceEqDiff, reduceCtorEq, ↓reduceIte]
    exact main (-x.z) (-y.z) (by omega) (by rw [Int.natAbs_neg]; exact hax) (by rw [Int.natAbs_neg]; exact hay) (Rat.neg_divInt_neg _ _)
  · have hc : (y.z.sign < 0) = False := eq_false fun h => hneg (Int.sign_neg_iff.1 h)
    simp only [hc, E3, Nat.reduceLeDiff, Nat.reduceSub, Nat.reduceAdd, Nat.reduceEqDiff, reduceCtorEq, ↓reduceIte]
    refine Safe.cd rfl ?_
    simp only [E3, Nat.reduceLeDiff, Nat.reduceSub, Nat.reduceAdd, Nat.reduceEqDiff, reduceCtorEq, ↓reduceIte]
    refine Safe.keep [4, 5, 6] ?_
    simp only [E3, Nat.reduceLeDiff, Nat.reduceSub, Nat.reduceAdd, Nat.reduceEqDiff, reduceCtorEq, ↓reduceIte]
    refine Safe.skip ?_
    exact main x.z y.z (by omega) hax hay rfl
theorem r3one_pure : PureC Pr F_ref03_one [] (Z 1) := by
  refine PureC.intro ref03_one_fn ref03_one_ok (Nat.le_of_ble_eq_true rfl) (Z_cl _) fun H hH => ?_
  refine Safe.rg rfl ?_
  simp only [ref03_one_r0, E3, Nat.reduceLeDiff, Nat.reduceSub, Nat.reduceAdd, Nat.reduceEqDiff, reduceCtorEq, ↓reduceIte]
  refine Safe.rg rfl ?_
  simp only [ref03_one_r1, E3, Nat.reduceLeDiff, Nat.reduceSub, Nat.reduceAdd, Nat.reduceEqDiff, reduceCtorEq, ↓reduceIte]
  first | refine (r2of_pure 1 (by decide) (by decide)).acall ?_ | refine (r2of_pure 1 (by decide) (by decide)).dcall ?_
  try simp only [E3, Nat.reduceLeDiff, Nat.reduceSub, Nat.reduceAdd, Nat.reduceEqDiff, reduceCtorEq, ↓reduceIte]
  refine Safe.rt rfl ?_
  simp only [E3, Nat.reduceLeDiff, Nat.reduceSub, Nat.reduceAdd, Nat.reduceEqDiff, reduceCtorEq, ↓reduceIte]
  first | exact ⟨rfl, _, rfl⟩ | exact ⟨_, rfl⟩ | exact ⟨trivial, _, rfl⟩
theorem r3of_pure (x : ZI) (hx : Zok 17592186044416 x) : PureC Pr F_ref03_Of [x.av] (Rv (x.z : Rat)) := by
  refine PureC.intro ref03_Of_fn ref03_Of_ok (Nat.le_of_ble_eq_true rfl) (Rv_cl _) fun H hH => ?_
  refine Safe.rg rfl ?_
  simp only [ref03_Of_r0, zero_lt_four, E3, Nat.reduceLeDiff, Nat.reduceSub, Nat.reduceAdd, Nat.reduceEqDiff, reduceCtorEq, ↓reduceIte]
  refine Safe.rg rfl ?_
  simp only [ref03_Of_r1, E3, Nat.reduceLeDiff, Nat.reduceSub, Nat.reduceAdd, Nat.reduceEqDiff, reduceCtorEq, ↓reduceIte]
  first | refine (r2form_pure x hx).acall ?_ | refine (r2form_pure x hx).dcall ?_
  try simp only [E3, Nat.reduceLeDiff, Nat.reduceSub, Nat.reduceAdd, Nat.reduceEqDiff, reduceCtorEq, ↓reduceIte]
  first | refine (r3one_pure).acall ?_ | refine (r3one_pure).dcall ?_
  try simp only [E3, Nat.reduceLeDiff, Nat.reduceSub, Nat.reduceAdd, Nat.reduceEqDiff, reduceCtorEq, ↓reduceIte]
  have h1 : limbs 1 = limbs (Int.natAbs 1) := rfl
  have h2 : (decide ((1 : Int) < 0)) = false := rfl
  simp only [Z, E3, Nat.reduceLeDiff, Nat.reduceSub, Nat.reduceAdd, Nat.reduceEqDiff, reduceCtorEq, ↓reduceIte]
  refine Safe.rt rfl ?_
  simp only [E3, Nat.reduceLeDiff, Nat.reduceSub, Nat.reduceAdd, Nat.reduceEqDiff, reduceCtorEq, ↓reduceIte]
  first | exact ⟨rfl, _, rfl⟩ | exact ⟨_, rfl⟩ | exact ⟨trivial, _, rfl⟩
section
variable (a b : Rat) {k l : Nat} (ha : Rok k a) (hb : Rok l b) (hkl : k + l < 17592186043000)
include ha hb hkl
theorem r3add_pure : PureC Pr F_ref03_Add [Rv a, Rv b] (Rv (a + b)) := by
  have h1 := mul_abs ha.num (show (b.den : Int).natAbs < LB ^ l from hb.den)
  have h2 := mul_abs hb.num (show (a.den : Int).natAbs < LB ^ k from ha.den)
  have h3 := mul_abs (show (a.den : Int).natAbs < LB ^ k from ha.den) (show (b.den : Int).natAbs < LB ^ l from hb.den)
  rw [Nat.add_comm l k] at h2
  have h4 := add_abs h1 h2
  refine PureC.intro ref03_Add_fn ref03_Add_ok (Nat.le_of_ble_eq_true rfl) (Rv_cl _) fun H hH => ?_
  simp only [Rv]
  refine Safe.rg rfl ?_
  simp only [ref03_Add_r0, zero_lt_four, E3, Nat.reduceLeDiff, Nat.reduceSub, Nat.reduceAdd, Nat.reduceEqDiff, reduceCtorEq, ↓reduceIte]
  refine Safe.rg rfl ?_
  simp only [ref03_Add_r1, E3, Nat.reduceLeDiff, Nat.reduceSub, Nat.reduceAdd, Nat.reduceEqDiff, reduceCtorEq, ↓reduceIte]
  have hm := r2mul_pure (canZ a.num) (dZ b.den) k l (zok_can ha.num) (dZ_ok hb.den) (by omega)
  rw [canZ_z, dZ_z] at hm
  refine hm.acall ?_
  simp only [E3, Nat.reduceLeDiff, Nat.reduceSub, Nat.reduceAdd, Nat.reduceEqDiff, reduceCtorEq, ↓reduceIte]
  refine Safe.rg rfl ?_
  simp only [ref03_Add_r2, E3, Nat.reduceLeDiff, Nat.reduceSub, Nat.reduceAdd, Nat.reduceEqDiff, reduceCtorEq, ↓reduceIte]
  have hm := r2mul_pure (canZ b.num) (dZ a.den) l k (zok_can hb.num) (dZ_ok ha.den) (by omega)
  rw [canZ_z, dZ_z] at hm
  refine hm.acall ?_
  simp only [E3, Nat.reduceLeDiff, Nat.reduceSub, Nat.reduceAdd, Nat.reduceEqDiff, reduceCtorEq, ↓reduceIte]
  refine Safe.rg rfl ?_
  simp only [ref03_Add_r3, E3, Nat.reduceLeDiff, Nat.reduceSub, Nat.reduceAdd, Nat.reduceEqDiff, reduceCtorEq, ↓reduceIte]
  refine (r2add_can h1 h2 (by omega)).dcall ?_
  simp only [E3, Nat.reduceLeDiff, Nat.reduceSub, Nat.reduceAdd, Nat.reduceEqDiff, reduceCtorEq, ↓reduceIte]
  have hm := r2mul_pure (dZ a.den) (dZ b.den) k l (dZ_ok ha.den) (dZ_ok hb.den) (by omega)
  rw [dZ_z, dZ_z] at hm
  refine hm.dcall ?_
  simp only [E3, Nat.reduceLeDiff, Nat.reduceSub, Nat.reduceAdd, Nat.reduceEqDiff, reduceCtorEq, ↓reduceIte]
  have hm := r3make_pure (canZ (a.num * b.den + b.num * a.den)) (canZ (a.den * b.den)) (k + l + 1) (zok_can h4) (zok_can h3 |>.mono (by omega)) (by omega) (by
    rw [canZ_z]
    have h1 := a.den_nz
    have h2 := b.den_nz
    exact Int.mul_ne_zero (by omega) (by omega))
  rw [canZ_av, canZ_av, canZ_z, canZ_z, ← Int.natCast_mul, Rat.divInt_ofNat, ← Rat.add_def', Int.natCast_mul] at hm
  refine hm.dcall ?_
  simp only [Rv, E3, Nat.reduceLeDiff, Nat.reduceSub, Nat.reduceAdd, Nat.reduceEqDiff, reduceCtorEq, ↓reduceIte]
  refine Safe.rt rfl ?_
  simp only [E3, Nat.reduceLeDiff, Nat.reduceSub, Nat.reduceAdd, Nat.reduceEqDiff, reduceCtorEq, ↓reduceIte]
  first | exact ⟨rfl, _, rfl⟩ | exact ⟨_, rfl⟩ | exact ⟨trivial, _, rfl⟩
theorem r3mul_pure : PureC Pr F_ref03_Mul [Rv a, Rv b] (Rv (a * b)) := by
  have h1 := mul_abs ha.num hb.num
  have h3 := mul_abs (show (a.den : Int).natAbs < LB ^ k from ha.den) (show (b.den : Int).natAbs < LB ^ l from hb.den)
  refine PureC.intro ref03_Mul_fn ref03_Mul_ok (Nat.le_of_ble_eq_true rfl) (Rv_cl _) fun H hH => ?_
  simp only [Rv]
  refine Safe.rg rfl ?_
  simp only [ref03_Mul_r0, zero_lt_four, E3, Nat.reduceLeDiff, Nat.reduceSub, Nat.reduceAdd, Nat.reduceEqDiff, reduceCtorEq, ↓reduceIte]
  refine Safe.rg rfl ?_
  simp only [ref03_Mul_r1, E3, Nat.reduceLeDiff, Nat.reduceSub, Nat.reduceAdd, Nat.reduceEqDiff, reduceCtorEq, ↓reduceIte]
  refine (r2mul_can ha.num hb.num (by omega)).dcall ?_
  simp only [E3, Nat.reduceLeDiff, Nat.reduceSub, Nat.reduceAdd, Nat.reduceEqDiff, reduceCtorEq, ↓reduceIte]
  have hm := r2mul_pure (dZ a.den) (dZ b.den) k l (dZ_ok ha.den) (dZ_ok hb.den) (by omega)
  rw [dZ_z, dZ_z] at hm
  refine hm.dcall ?_
  simp only [E3, Nat.reduceLeDiff, Nat.reduceSub, Nat.reduceAdd, Nat.reduceEqDiff, reduceCtorEq, ↓reduceIte]
  have hm := r3make_pure (canZ (a.num * b.num)) (canZ (a.den * b.den)) (k + l) (zok_can h1) (zok_can h3) (by omega) (by
    rw [canZ_z]
    have h1 := a.den_nz
    have h2 := b.den_nz
    exact Int.mul_ne_zero (by omega) (by omega))
  rw [canZ_av, canZ_av, canZ_z, canZ_z, ← Int.natCast_mul, Rat.divInt_ofNat, ← Rat.mul_def', Int.natCast_mul] at hm
  refine hm.dcall ?_
  simp only [Rv, E3, Nat.reduceLeDiff, Nat.reduceSub, Nat.reduceAdd, Nat.reduceEqDiff, reduceCtorEq, ↓reduceIte]
  refine Safe.rt rfl ?_
  simp only [E3, Nat.reduceLeDiff, Nat.reduceSub, Nat.reduceAdd, Nat.reduceEqDiff, reduceCtorEq, ↓reduceIte]
  first | exact ⟨rfl, _, rfl⟩ | exact ⟨_, rfl⟩ | exact ⟨trivial, _, rfl⟩
omit ha hb hkl in
theorem rat_div_eq (b0 : b ≠ 0) : Rat.divInt (a.num * b.den) (a.den * b.num) = a / b := by
  have h1 : (a.den : Int) ≠ 0 := by have := a.den_nz; omega
  have h2 : b.num ≠ 0 := fun h => b0 (Rat.num_eq_zero.1 h)
  rw [← Rat.divInt_mul_divInt, Rat.num_divInt_den, Rat.div_def, Rat.inv_def]
theorem r3div_pure (b0 : b ≠ 0) : PureC Pr F_ref03_Div [Rv a, Rv b] (Rv (a / b)) := by
  have h1 := mul_abs ha.num (show (b.den : Int).natAbs < LB ^ l from hb.den)
  have h3 := mul_abs (show (a.den : Int).natAbs < LB ^ k from ha.den) hb.num
  refine PureC.intro ref03_Div_fn ref03_Div_ok (Nat.le_of_ble_eq_true rfl) (Rv_cl _) fun H hH => ?_
  simp only [Rv]
  refine Safe.rg rfl ?_
  simp only [ref03_Div_r0, zero_lt_four, E3, Nat.reduceLeDiff, Nat.reduceSub, Nat.reduceAdd, Nat.reduceEqDiff, reduceCtorEq, ↓reduceIte]
  refine Safe.rg rfl ?_
  simp only [ref03_Div_r1, E3, Nat.reduceLeDiff, Nat.reduceSub, Nat.reduceAdd, Nat.reduceEqDiff, reduceCtorEq, ↓reduceIte]
  have hm := r2mul_pure (canZ a.num) (dZ b.den) k l (zok_can ha.num) (dZ_ok hb.den) (by omega)
  rw [canZ_z, dZ_z] at hm
  refine hm.dcall ?_
  simp only [E3, Nat.reduceLeDiff, Nat.reduceSub, Nat.reduceAdd, Nat.reduceEqDiff, reduceCtorEq, ↓reduceIte]
  have hm := r2mul_pure (dZ a.den) (canZ b.num) k l (dZ_ok ha.den) (zok_can hb.num) (by omega)
  rw [dZ_z, canZ_z] at hm
  refine hm.dcall ?_
  simp only [E3, Nat.reduceLeDiff, Nat.reduceSub, Nat.reduceAdd, Nat.reduceEqDiff, reduceCtorEq, ↓reduceIte]
  have hm := r3make_pure (canZ (a.num * b.den)) (canZ (a.den * b.num)) (k + l) (zok_can h1) (zok_can h3) (by omega) (by
    rw [canZ_z]
    have h1 := a.den_nz
    exact Int.mul_ne_zero (by omega) fun h => b0 (Rat.num_eq_zero.1 h))
  rw [canZ_av, canZ_av, canZ_z, canZ_z, rat_div_eq a b b0] at hm
  refine hm.dcall ?_
  simp only [Rv, E3, Nat.reduceLeDiff, Nat.reduceSub, Nat.reduceAdd, Nat.reduceEqDiff, reduceCtorEq, ↓reduceIte]
  refine Safe.rt rfl ?_
  simp only [E3, Nat.reduceLeDiff, Nat.reduceSub, Nat.reduceAdd, Nat.reduceEqDiff, reduceCtorEq, ↓reduceIte]
  first | exact ⟨rfl, _, rfl⟩ | exact ⟨_, rfl⟩ | exact ⟨trivial, _, rfl⟩
end
theorem rok_neg {k : Nat} {a : Rat} (h : Rok k a) : Rok k (-a) := ⟨by rw [Rat.neg_num, Int.natAbs_neg]; exact h.num, h.den⟩
theorem r3neg_pure (a : Rat) {k : Nat} (ha : Rok k a) (hk : k < 17592186044000) : PureC Pr F_ref03_Neg [Rv a] (Rv (-a)) := by
  refine PureC.intro ref03_Neg_fn ref03_Neg_ok (Nat.le_of_ble_eq_true rfl) (Rv_cl _) fun H hH => ?_
  simp only [Rv]
  refine Safe.rg rfl ?_
  simp only [ref03_Neg_r0, zero_lt_four, E3, Nat.reduceLeDiff, Nat.reduceSub, Nat.reduceAdd, Nat.reduceEqDiff, reduceCtorEq, ↓reduceIte]
  refine Safe.rg rfl ?_
  simp only [ref03_Neg_r1, E3, Nat.reduceLeDiff, Nat.reduceSub, Nat.reduceAdd, Nat.reduceEqDiff, reduceCtorEq, ↓reduceIte]
  have hm := r2neg_pure (canZ a.num) ((zok_can ha.num).mono (by omega))
  rw [canZ_z] at hm
  refine hm.dcall ?_
  simp only [E3, Nat.reduceLeDiff, Nat.reduceSub, Nat.reduceAdd, Nat.reduceEqDiff, reduceCtorEq, ↓reduceIte]
  have hm := r3make_pure (canZ (-a.num)) (dZ a.den) k (zok_can (by rw [Int.natAbs_neg]; exact ha.num)) (dZ_ok ha.den) hk (by
    rw [dZ_z]
    have h1 := a.den_nz
    omega)
  rw [canZ_av, canZ_z, dZ_z, ← Rat.neg_divInt, Rat.num_divInt_den] at hm
  refine hm.dcall ?_
  simp only [Rv, E3, Nat.reduceLeDiff, Nat.reduceSub, Nat.reduceAdd, Nat.reduceEqDiff, reduceCtorEq, ↓reduceIte]
  refine Safe.rt rfl ?_
  simp only [E3, Nat.reduceLeDiff, Nat.reduceSub, Nat.reduceAdd, Nat.reduceEqDiff, reduceCtorEq, ↓reduceIte]
  first | exact ⟨rfl, _, rfl⟩ | exact ⟨_, rfl⟩ | exact ⟨trivial, _, rfl⟩
theorem r3sub_pure (a b : Rat) {k l : Nat} (ha : Rok k a) (hb : Rok l b) (hkl : k + l < 17592186043000) : PureC Pr F_ref03_Sub [Rv a, Rv b] (Rv (a - b)) := by
  refine PureC.intro ref03_Sub_fn ref03_Sub_ok (Nat.le_of_ble_eq_true rfl) (Rv_cl _) fun H hH => ?_
  refine Safe.rg rfl ?_
  simp only [ref03_Sub_r0, zero_lt_four, Rv_cells, Rv_fit, E3, Nat.reduceLeDiff, Nat.reduceSub, Nat.reduceAdd, Nat.reduceEqDiff, reduceCtorEq, ↓reduceIte]
  refine Safe.rg rfl ?_
  simp only [ref03_Sub_r1, Rv_cells, Rv_fit, E3, Nat.reduceLeDiff, Nat.reduceSub, Nat.reduceAdd, Nat.reduceEqDiff, reduceCtorEq, ↓reduceIte]
  refine (r3neg_pure b hb (by omega)).dcall ?_
  simp only [Rv_cells, Rv_fit, E3, Nat.reduceLeDiff, Nat.reduceSub, Nat.reduceAdd, Nat.reduceEqDiff, reduceCtorEq, ↓reduceIte]
  have hm := r3add_pure a (-b) ha (rok_neg hb) hkl
  rw [← Rat.sub_eq_add_neg] at hm
  refine hm.dcall ?_
  simp only [Rv, E3, Nat.reduceLeDiff, Nat.reduceSub, Nat.reduceAdd, Nat.reduceEqDiff, reduceCtorEq, ↓reduceIte]
  refine Safe.rt rfl ?_
  simp only [E3, Nat.reduceLeDiff, Nat.reduceSub, Nat.reduceAdd, Nat.reduceEqDiff, reduceCtorEq, ↓reduceIte]
  first | exact ⟨rfl, _, rfl⟩ | exact ⟨_, rfl⟩ | exact ⟨trivial, _, rfl⟩
theorem rzero_pure (a : Rat) {k : Nat} (ha : Rok k a) (hk : k < 17592186044000) : PureC Pr F_ref06_zero [Rv a] (.bool (decide (a = 0))) := by
  have he : decide (a.num.sign = 0) = decide (a = 0) := decide_eq_decide.2 (by rw [Int.sign_eq_zero_iff_zero, Rat.num_eq_zero])
  refine PureC.intro ref06_zero_fn ref06_zero_ok (Nat.le_of_ble_eq_true rfl) (.bool _) fun H hH => ?_
  simp only [Rv]
  refine Safe.rg rfl ?_
  simp only [ref06_zero_r0, zero_lt_four, E3, Nat.reduceLeDiff, Nat.reduceSub, Nat.reduceAdd, Nat.reduceEqDiff, reduceCtorEq, ↓reduceIte]
  refine Safe.rg rfl ?_
  simp only [ref06_zero_r1, E3, Nat.reduceLeDiff, Nat.reduceSub, Nat.reduceAdd, Nat.reduceEqDiff, reduceCtorEq, ↓reduceIte]
  refine (r2sign_pure (canZ a.num) ((zok_can ha.num).mono (by omega))).acall ?_
  rw [canZ_z]
  simp only [he, E3, Nat.reduceLeDiff, Nat.reduceSub, Nat.reduceAdd, Nat.reduceEqDiff, reduceCtorEq, ↓reduceIte]
  refine Safe.rt rfl ?_
  simp only [E3, Nat.reduceLeDiff, Nat.reduceSub, Nat.reduceAdd, Nat.reduceEqDiff, reduceCtorEq, ↓reduceIte]
  first | exact ⟨rfl, _, rfl⟩ | exact ⟨_, rfl⟩ | exact ⟨trivial, _, rfl⟩
end Go.Abs
set_option linter.unusedVariables false
set_option linter.unusedSimpArgs false
namespace Go.Abs
theorem app_fr {G : Heap} (hG : HRefs G) {n0 : Nat} (hn : n0 ≤ lid G 0) {env : Env} {wd bytes k : Nat} {f : Nat → AV} {y : AV} (hf : ∀ x, Cl (f x)) (hy : y = f k) (hb : (k + 1) * bytes ≤ 140737488355328) (hbb : k + 1 ≤ 9223372036854775807) :
    appV n0 wd bytes false (.mu (lid G 0) 0 k none) (.sl wd [y]) env (hap G [some ⟨wd, fr k f⟩]) = some (.mu (lid G 0) 0 (k + 1) none, scrub (lid G 0) env, hap G [some ⟨wd, fr (k + 1) f⟩]) := by
  have := app_row (H := G) hG (L := [some ⟨wd, (List.range k).map f⟩]) 0 hn (env := env) (wd := wd) (bytes := bytes) hf (List.range k) k (List.range (k + 1)) (y := y) (len := k) (List.length_range).symm rfl (RC.row hf .nil) hy List.range_succ hb hbb
  exact this
theorem nref_ne {id j off len : Nat} {oc : Option Nat} (h : j ≠ id) : nref id (.mu j off len oc) = true := nref_iff.2 (.mu _ _ _ _ h)
theorem rats_calls (b : List (List ZI)) {c : Nat} (hc : ∀ i, (h : i < b.length) → b[i].length = c) (hnb : b.length ≤ 2097152) (hcb : c ≤ 2097152) (hz : Mok 17592186044416 b) (H : Heap) :
    ACalls Pr F_ref06_rats [matV b] H fun r' H' => r' = .mu (lid H 0) 0 b.length none ∧ H' = hap H (mrows (lid H 0) b.length 4 c none fun j k => Rv (zg (mg b j) k : Int)) := by
  refine ACalls.introH ref06_rats_fn ref06_rats_ok (Nat.le_of_ble_eq_true rfl) fun hH => ?_
  have hS : ∀ (j k : Nat), Cl ((fun (j k : Nat) => Rv ((zg (mg b j) k : Int) : Rat)) j k) := fun _ _ => Rv_cl _
  generalize hSd : (fun (j k : Nat) => Rv ((zg (mg b j) k : Int) : Rat)) = S at *
  refine Safe.rg rfl ?_
  simp only [ref06_rats_r0, E3, Nat.reduceLeDiff, Nat.reduceSub, Nat.reduceAdd, Nat.reduceEqDiff, reduceCtorEq, ↓reduceIte]
  refine Safe.rg rfl ?_
  simp only [ref06_rats_r1, E3, Nat.reduceLeDiff, Nat.reduceSub, Nat.reduceAdd, Nat.reduceEqDiff, reduceCtorEq, ↓reduceIte]
  refine Safe.nilrow 3 1 (by decide) (by simp only [E3, Nat.reduceLeDiff, Nat.reduceSub, Nat.reduceAdd, Nat.reduceEqDiff, reduceCtorEq, ↓reduceIte]) ?_
  refine Safe.rg rfl ?_
  simp only [ref06_rats_r2, E3, Nat.reduceLeDiff, Nat.reduceSub, Nat.reduceAdd, Nat.reduceEqDiff, reduceCtorEq, ↓reduceIte]
  refine Safe.lp rfl ?_
  refine Safe.keep [0, 3, 4] ?_
  try simp only [E3, Nat.reduceLeDiff, Nat.reduceSub, Nat.reduceAdd, Nat.reduceEqDiff, reduceCtorEq, ↓reduceIte]
  refine Safe.loopN (b.length) (fun i => [(0, matV b), (3, .mu (lid H 0) 0 i none), (4, .int .i64 i)]) (fun i => hap H (mrows (lid H 0) i 4 c none S)) rfl rfl (fun i hi ih => ?_) ?_
  · have hlt : ((i : Int) < (b.length : Int)) = True := eq_true (by omega)
    have hbc := hc i hi
    have hiw : IntKind.wrap .i64 ((i : Int) + 1) = ((i + 1 : Nat) : Int) := by rw [wrap_i64] <;> omega
    refine Safe.inLoop ?_
    refine Safe.rg rfl ?_
    simp only [ref06_rats_r3, hlt, E3, Nat.reduceLeDiff, Nat.reduceSub, Nat.reduceAdd, Nat.reduceEqDiff, reduceCtorEq, ↓reduceIte]
    refine Safe.cd rfl ?_
    simp only [E3, Nat.reduceLeDiff, Nat.reduceSub, Nat.reduceAdd, Nat.reduceEqDiff, reduceCtorEq, ↓reduceIte]
    have hGr : HRefs (hap H (mrows (lid H 0) i 4 c none S)) := mrows_refs (X := []) hH (by simp) fun j k _ _ => hS j k
    have hG0 : (hap H (mrows (lid H 0) i 4 c none S))[lid H 0]? = some (some ⟨1, orow (lid H 0) i c none fun i => i⟩) := by
      simp only [hap, lid]; rw [List.getElem?_append_right (by omega)]; simp [mrows, lid]
    have hGl : (hap H (mrows (lid H 0) i 4 c none S)).length = lid H 0 + 1 + i := by simp [hap, lid, mrows_len]; omega
    have hsucc := mrows_succ H i 4 c none S
    have hGf : Free (hap H (mrows (lid H 0) i 4 c none S)) (lid H 0) := mrows_free (X := []) hH (by simp) fun j k _ _ => hS j k
    rw [← hap_nil (hap H (mrows (lid H 0) i 4 c none S))]
    generalize hap H (mrows (lid H 0) i 4 c none S) = G at *
    have hn0 : H.length ≤ lid G 0 := by simp only [lid] at hGl ⊢; omega
    have hne : lid H 0 ≠ lid G 0 := by simp only [lid] at hGl ⊢; omega
    have hnr1 : nref (lid G 0) (.mu (lid H 0) 0 i none) = true := nref_ne hne
    refine Safe.rg rfl ?_
    simp only [ref06_rats_r4, E3, Nat.reduceLeDiff, Nat.reduceSub, Nat.reduceAdd, Nat.reduceEqDiff, reduceCtorEq, ↓reduceIte]
    refine Safe.nilrow 5 4 (by decide) (by simp only [E3, Nat.reduceLeDiff, Nat.reduceSub, Nat.reduceAdd, Nat.reduceEqDiff, reduceCtorEq, ↓reduceIte]) ?_
    refine Safe.rg rfl ?_
    simp only [ref06_rats_r5, E3, Nat.reduceLeDiff, Nat.reduceSub, Nat.reduceAdd, Nat.reduceEqDiff, reduceCtorEq, ↓reduceIte]
    refine Safe.lp rfl ?_
    refine Safe.keep [0, 3, 4, 5, 6] ?_
    try simp only [E3, Nat.reduceLeDiff, Nat.reduceSub, Nat.reduceAdd, Nat.reduceEqDiff, reduceCtorEq, ↓reduceIte]
    refine Safe.loopN c (fun k => [(0, matV b), (3, .mu (lid H 0) 0 i none), (4, .int .i64 i), (5, .mu (lid G 0) 0 k none), (6, .int .i64 k)]) (fun k => hap G [some ⟨4, fr k (S i)⟩]) rfl rfl (fun k hk ihk => ?_) ?_
    · have hlt : ((k : Int) < (b[i].length : Int)) = True := eq_true (by omega)
      have hkb : k < b[i].length := by omega
      have hkw : IntKind.wrap .i64 ((k : Int) + 1) = ((k + 1 : Nat) : Int) := by rw [wrap_i64] <;> omega
      refine Safe.inLoop ?_
      refine Safe.rg rfl ?_
      simp only [ref06_rats_r6, mat_idx _ b _ i hi, hlt, E3, Nat.reduceLeDiff, Nat.reduceSub, Nat.reduceAdd, Nat.reduceEqDiff, reduceCtorEq, ↓reduceIte]
      refine Safe.cd rfl ?_
      simp only [E3, Nat.reduceLeDiff, Nat.reduceSub, Nat.reduceAdd, Nat.reduceEqDiff, reduceCtorEq, ↓reduceIte]
      refine Safe.rg rfl ?_
      simp only [ref06_rats_r7, mat_idx _ b _ i hi, vec_idx _ b[i] _ k hkb, E3, Nat.reduceLeDiff, Nat.reduceSub, Nat.reduceAdd, Nat.reduceEqDiff, reduceCtorEq, ↓reduceIte]
      first | refine (r3of_pure b[i][k] ((hz.get hi).el _ (List.getElem_mem hkb))).acall ?_ | refine (r3of_pure b[i][k] ((hz.get hi).el _ (List.getElem_mem hkb))).dcall ?_
      try simp only [E3, Nat.reduceLeDiff, Nat.reduceSub, Nat.reduceAdd, Nat.reduceEqDiff, reduceCtorEq, ↓reduceIte]
      have hy : Rv ((b[i][k].z : Int) : Rat) = S i k := by rw [← hSd]; simp only [mg_lt hi, zg_lt hkb]
      simp only [Rv_fit, Rv_cells, zero_lt_four, E3, Nat.reduceLeDiff, Nat.reduceSub, Nat.reduceAdd, Nat.reduceEqDiff, reduceCtorEq, ↓reduceIte]
      rw [app_fr hGr hn0 (hS i) hy (by omega) (by omega)]
      simp only [hnr1, E3, Nat.reduceLeDiff, Nat.reduceSub, Nat.reduceAdd, Nat.reduceEqDiff, reduceCtorEq, ↓reduceIte]
      refine Safe.rg rfl ?_
      simp only [ref06_rats_r8, hkw, E3, Nat.reduceLeDiff, Nat.reduceSub, Nat.reduceAdd, Nat.reduceEqDiff, reduceCtorEq, ↓reduceIte]
      refine Safe.keep [0, 3, 4, 5, 6] ?_
      simp only [E3, Nat.reduceLeDiff, Nat.reduceSub, Nat.reduceAdd, Nat.reduceEqDiff, reduceCtorEq, ↓reduceIte]
      exact ihk
    · refine Safe.inLoop ?_
      refine Safe.rg rfl ?_
      simp only [ref06_rats_r6, mat_idx _ b _ i hi, hbc, Int.lt_irrefl, E3, Nat.reduceLeDiff, Nat.reduceSub, Nat.reduceAdd, Nat.reduceEqDiff, reduceCtorEq, ↓reduceIte]
      refine Safe.cd rfl ?_
      simp only [E3, Nat.reduceLeDiff, Nat.reduceSub, Nat.reduceAdd, Nat.reduceEqDiff, reduceCtorEq, ↓reduceIte]
      refine Safe.rg rfl ?_
      simp only [ref06_rats_r9, E3, Nat.reduceLeDiff, Nat.reduceSub, Nat.reduceAdd, Nat.reduceEqDiff, reduceCtorEq, ↓reduceIte]
      rw [app_old (ys := [.mu (lid G 0) 0 c none]) hG0 (lid_ge H 0) (by simp [orow, fr_len]) (by simp [srcEls, hrow_hap]) (by simp)
        (free_app hGf (by
          intro b hb a ha
          simp at hb
          rcases hb with rfl | rfl
          · exact (fr_flat_cl (fun k _ => hS i k) a ha).ref
          · simp [Blk.flat, AV.cells] at ha; subst ha; exact .mu _ _ _ _ (Ne.symm hne)))
        (by intro a ha; simp [AV.cells] at ha; subst ha; exact .mu _ _ _ _ (Ne.symm hne))
        (fun a ha => orow_refs (fun j hj => by show _ ≠ _; omega) a ha) (by simp; omega) (by simp; omega)]
      simp only [hnr1, E3, Nat.reduceLeDiff, Nat.reduceSub, Nat.reduceAdd, Nat.reduceEqDiff, reduceCtorEq, ↓reduceIte]
      refine Safe.rg rfl ?_
      simp only [ref06_rats_r10, hiw, E3, Nat.reduceLeDiff, Nat.reduceSub, Nat.reduceAdd, Nat.reduceEqDiff, reduceCtorEq, ↓reduceIte]
      refine Safe.keep [0, 3, 4] ?_
      simp only [E3, Nat.reduceLeDiff, Nat.reduceSub, Nat.reduceAdd, Nat.reduceEqDiff, reduceCtorEq, ↓reduceIte]
      have e2 : ∀ o, hap (G.set (lid H 0) (some ⟨1, orow (lid H 0) i c none (fun i => i) ++ [.mu (lid G 0) 0 c none]⟩)) [some ⟨4, fr c (S i)⟩, o] = hap (hap H (mrows (lid H 0) (i + 1) 4 c none S)) ([] ++ [o]) := by
        intro o
        rw [← hsucc]; simp [hap]
      rw [e2]
      have hGl2 : (hap H (mrows (lid H 0) (i + 1) 4 c none S)).length = lid H 0 + 1 + (i + 1) := by simp [hap, lid, mrows_len]; omega
      refine Safe.dropG (mrows_refs (X := []) hH (by simp) fun j k _ _ => hS j k) (by show H.length ≤ _; have := lid_ge H 0; rw [hGl2]; omega) ?_ (by simp) ?_
      · have hnr2 : nref (lid (hap H (mrows (lid H 0) (i + 1) 4 c none S)) 0) (.mu (lid H 0) 0 (i + 1) none) = true := nref_ne (by have : lid (hap H (mrows (lid H 0) (i + 1) 4 c none S)) 0 = lid H 0 + 1 + (i + 1) := hGl2; omega)
        simp only [List.all_cons, List.all_nil, List.length_nil, hnr2, E3, Nat.reduceLeDiff, Nat.reduceSub, Nat.reduceAdd, Nat.reduceEqDiff, reduceCtorEq, ↓reduceIte]
      · rw [hap_nil]
        exact ih
  · refine Safe.inLoop ?_
    refine Safe.rg rfl ?_
    simp only [ref06_rats_r3, Int.lt_irrefl, E3, Nat.reduceLeDiff, Nat.reduceSub, Nat.reduceAdd, Nat.reduceEqDiff, reduceCtorEq, ↓reduceIte]
    refine Safe.cd rfl ?_
    simp only [E3, Nat.reduceLeDiff, Nat.reduceSub, Nat.reduceAdd, Nat.reduceEqDiff, reduceCtorEq, ↓reduceIte]
    refine Safe.rg rfl ?_
    simp only [ref06_rats_r11, E3, Nat.reduceLeDiff, Nat.reduceSub, Nat.reduceAdd, Nat.reduceEqDiff, reduceCtorEq, ↓reduceIte]
    refine Safe.rt rfl ?_
    simp only [E3, Nat.reduceLeDiff, Nat.reduceSub, Nat.reduceAdd, Nat.reduceEqDiff, reduceCtorEq, ↓reduceIte]
end Go.Abs
set_option linter.unusedVariables false
set_option linter.unusedSimpArgs false
namespace Go.Abs
/-- Row j up to a place told anew. -/
def loseS (S : Nat → Nat → AV) (j : Nat) (f : Nat → AV) (t : Nat) : Nat → Nat → AV := fun a b => if a = j ∧ b < t then f b else S a b
theorem loseS_zero (S : Nat → Nat → AV) (j : Nat) (f : Nat → AV) : loseS S j f 0 = S := by funext a b; simp [loseS]
theorem loseS_at (S : Nat → Nat → AV) (j : Nat) (f : Nat → AV) (t : Nat) : loseS S j f t j t = S j t := by simp [loseS]
theorem loseS_ne {S : Nat → Nat → AV} {j a : Nat} {f : Nat → AV} {t b : Nat} (h : a ≠ j) : loseS S j f t a b = S a b := by simp [loseS, h]
theorem loseS_succ (S : Nat → Nat → AV) (j : Nat) (f : Nat → AV) (t : Nat) : upd2 (loseS S j f t) j t (f t) = loseS S j f (t + 1) := by
  funext a b
  unfold upd2 loseS
  by_cases h1 : a = j
  · subst h1
    by_cases h2 : b = t
    · subst h2; simp
    · by_cases h3 : b < t
      · rw [if_pos rfl, if_neg h2, if_pos ⟨rfl, h3⟩, if_pos ⟨rfl, by omega⟩]
      · rw [if_pos rfl, if_neg h2, if_neg (by omega), if_neg (by omega)]
  · rw [if_neg h1, if_neg (by omega), if_neg (by omega)]
theorem loseS_cl {S : Nat → Nat → AV} {j : Nat} {f : Nat → AV} {t : Nat} (hS : ∀ a b, Cl (S a b)) (hf : ∀ b, Cl (f b)) : ∀ a b, Cl (loseS S j f t a b) := by
  intro a b; unfold loseS; split
  · exact hf b
  · exact hS a b
theorem rok_mul {a b : Rat} {k l : Nat} (ha : Rok k a) (hb : Rok l b) : Rok (k + l) (a * b) := by
  constructor
  · rw [Rat.num_mul, Int.natAbs_ediv_of_dvd]
    · exact Nat.lt_of_le_of_lt (Nat.div_le_self _ _) (mul_abs ha.num hb.num)
    · exact Int.ofNat_dvd_left.2 (Nat.gcd_dvd_left _ _)
  · rw [Rat.den_mul, lb_add]
    exact Nat.lt_of_le_of_lt (Nat.div_le_self _ _) (Nat.mul_lt_mul'' ha.den hb.den)
section
variable {G : Heap} {β n c : Nat} {oc oc' : Option Nat} {π : Nat → Nat} {S : Nat → Nat → AV} (hG : β + n < G.length)
include hG
theorem lose_calls {M : Nat → Nat → Rat} {K i k : Nat} (q : Rat) (hi : i < n) (hk : k < n) (hik : π k ≠ π i) (hπ : ∀ a, a < n → π a < n) (hS : ∀ a b, a < n → b < c → S (π a) b = Rv (M a b)) (hcl : ∀ a b, Cl (S a b))
    (hMs : ∀ a b, a < n → b < c → Rok K (M a b)) (hq : Rok K q) (hK : K + (K + K) < 17592186043000) (hc : c ≤ 2097152) (hn : n ≤ 2097152) :
    ACalls Pr F_ref06_lose [.mu β 0 n oc', .int .i64 i, .int .i64 k, Rv q] (hM G β n 4 c oc π S) fun r' H' => r' = .tup [] ∧ H' = hM G β n 4 c oc π (loseS S (π i) (fun b => Rv (M i b - q * M k b)) c) := by
  refine ACalls.eff ref06_lose_fn ref06_lose_ok (Nat.le_of_ble_eq_true rfl) fun hH => ?_
  have hpi := hπ i hi
  have hpk := hπ k hk
  refine Safe.rg rfl ?_
  simp only [ref06_lose_r0, lid_hM, hrow_locM, set_locM, st_zeroM, Rv_fit, Rv_cells, zero_lt_four, E3, Nat.reduceLeDiff, Nat.reduceSub, Nat.reduceAdd, Nat.reduceEqDiff, reduceCtorEq, ↓reduceIte]
  refine Safe.rg rfl ?_
  simp only [ref06_lose_r1, E3, Nat.reduceLeDiff, Nat.reduceSub, Nat.reduceAdd, Nat.reduceEqDiff, reduceCtorEq, ↓reduceIte]
  refine Safe.lp rfl ?_
  refine Safe.keep [0, 1, 2, 7, 8] ?_
  try simp only [E3, Nat.reduceLeDiff, Nat.reduceSub, Nat.reduceAdd, Nat.reduceEqDiff, reduceCtorEq, ↓reduceIte]
  refine Safe.loopN c (fun t => [(0, .mu β 0 n oc'), (1, .int .i64 i), (2, .int .i64 k), (7, .loc (lid G 0) 0 0), (8, .int .i64 t)]) (fun t => hap (hM G β n 4 c oc π (loseS S (π i) (fun b => Rv (M i b - q * M k b)) t)) [some ⟨4, [Rv q]⟩]) rfl ?_ (fun t ht ih => ?_) ?_
  · rw [loseS_zero]
  · have hlt : ((t : Int) < (c : Int)) = True := eq_true (by omega)
    have htw : IntKind.wrap .i64 ((t : Int) + 1) = ((t + 1 : Nat) : Int) := by rw [wrap_i64] <;> omega
    have v1 : loseS S (π i) (fun b => Rv (M i b - q * M k b)) t (π i) t = Rv (M i t) := by rw [loseS_at, hS i t hi ht]
    have v2 : loseS S (π i) (fun b => Rv (M i b - q * M k b)) t (π k) t = Rv (M k t) := by rw [loseS_ne hik, hS k t hk ht]
    have hsucc := loseS_succ S (π i) (fun b => Rv (M i b - q * M k b)) t
    generalize loseS S (π i) (fun b => Rv (M i b - q * M k b)) t = St at *
    refine Safe.inLoop ?_
    refine Safe.rg rfl ?_
    simp only [ref06_lose_r2, M_idx hG hi, M_at hG hi, M_rlen hG hpi, hlt, E3, Nat.reduceLeDiff, Nat.reduceSub, Nat.reduceAdd, Nat.reduceEqDiff, reduceCtorEq, ↓reduceIte]
    refine Safe.cd rfl ?_
    simp only [E3, Nat.reduceLeDiff, Nat.reduceSub, Nat.reduceAdd, Nat.reduceEqDiff, reduceCtorEq, ↓reduceIte]
    refine Safe.rg rfl ?_
    simp only [ref06_lose_r3, lid_hM, hrow_locM, set_locM, st_zeroM, M_idx hG hi, M_at hG hi, M_idx hG hk, M_at hG hk, E_idx hG hpi ht, E_at hG hpi ht, E_idx hG hpk ht, E_at hG hpk ht, v1, v2, Rv_cells, E3, Nat.reduceLeDiff, Nat.reduceSub, Nat.reduceAdd, Nat.reduceEqDiff, reduceCtorEq, ↓reduceIte]
    refine (r3mul_pure q (M k t) hq (hMs k t hk ht) (by omega)).dcall ?_
    simp only [E3, Nat.reduceLeDiff, Nat.reduceSub, Nat.reduceAdd, Nat.reduceEqDiff, reduceCtorEq, ↓reduceIte]
    refine (r3sub_pure (M i t) (q * M k t) (hMs i t hi ht) (rok_mul hq (hMs k t hk ht)) (by omega)).dcall ?_
    simp only [E_idx hG hpi ht, E3, Nat.reduceLeDiff, Nat.reduceSub, Nat.reduceAdd, Nat.reduceEqDiff, reduceCtorEq, ↓reduceIte]
    simp only [E_st hG hpi ht (Rv_fit _) (show (Rv _).cells.length = 4 from rfl), hsucc, E3, Nat.reduceLeDiff, Nat.reduceSub, Nat.reduceAdd, Nat.reduceEqDiff, reduceCtorEq, ↓reduceIte]
    refine Safe.rg rfl ?_
    simp only [ref06_lose_r4, htw, E3, Nat.reduceLeDiff, Nat.reduceSub, Nat.reduceAdd, Nat.reduceEqDiff, reduceCtorEq, ↓reduceIte]
    refine Safe.keep [0, 1, 2, 7, 8] ?_
    simp only [E3, Nat.reduceLeDiff, Nat.reduceSub, Nat.reduceAdd, Nat.reduceEqDiff, reduceCtorEq, ↓reduceIte]
    exact ih
  · refine Safe.inLoop ?_
    refine Safe.rg rfl ?_
    simp only [ref06_lose_r2, M_idx hG hi, M_at hG hi, M_rlen hG hpi, Int.lt_irrefl, E3, Nat.reduceLeDiff, Nat.reduceSub, Nat.reduceAdd, Nat.reduceEqDiff, reduceCtorEq, ↓reduceIte]
    refine Safe.cd rfl ?_
    simp only [E3, Nat.reduceLeDiff, Nat.reduceSub, Nat.reduceAdd, Nat.reduceEqDiff, reduceCtorEq, ↓reduceIte]
    refine Safe.stl 40 _ ?_
    refine Safe.done rfl ?_
    exact ⟨_, _, rfl, by rw [hM_len, hM_len], hM_refs hG hH hπ (fun a b _ _ => loseS_cl hcl (fun b => Rv_cl _) a b), .tup _ (by simp), rfl, rfl⟩
theorem lose_callsL {M : Nat → Nat → Rat} {K i k : Nat} (q : Rat) (hi : i < n) (hk : k < n) (hik : π k ≠ π i) (hπ : ∀ a, a < n → π a < n) (hS : ∀ a b, a < n → b < c → S (π a) b = Rv (M a b)) (hcl : ∀ a b, Cl (S a b))
    (hMs : ∀ a b, a < n → b < c → Rok K (M a b)) (hq : Rok K q) (hK : K + (K + K) < 17592186043000) (hc : c ≤ 2097152) (hn : n ≤ 2097152) (L : Heap) :
    ACalls Pr F_ref06_lose [.mu β 0 n oc', .int .i64 i, .int .i64 k, Rv q] (hap (hM G β n 4 c oc π S) L) fun r' H' => r' = .tup [] ∧ H' = hap (hM G β n 4 c oc π (loseS S (π i) (fun b => Rv (M i b - q * M k b)) c)) L := by
  have h := lose_calls (G := hap G L) (β := β) (n := n) (c := c) (oc := oc) (oc' := oc') (π := π) (S := S) (by simp [hap]; omega) q hi hk hik hπ hS hcl hMs hq hK hc hn
  rw [hap_hM _ _ _ _ _ _ _ _ _ hG]
  refine h.mono ?_
  rintro r' H' ⟨rfl, rfl⟩
  exact ⟨rfl, (hap_hM _ _ _ _ _ _ _ _ _ hG).symm⟩
end
end Go.Abs
set_option linter.unusedVariables false
set_option linter.unusedSimpArgs false
namespace Go.Abs
def intV (x : Nat) : AV := .int .i64 (x : Int)
theorem intV_cl (x : Nat) : Cl (intV x) := .int _ _
/-- Places, as a value. -/
def hsV (cs : List Nat) : AV := .sl 1 (cs.map intV)
theorem hsV_cl (cs : List Nat) : Cl (hsV cs) := cl_sl 1 intV cs intV_cl
theorem app_rowM {G : Heap} {β n w c : Nat} {oc : Option Nat} {π : Nat → Nat} {S : Nat → Nat → AV} {α : Type} (hH : HRefs (hM G β n w c oc π S)) {L : Heap} (i : Nat) {n0 : Nat} (hn : n0 ≤ lid G i) {env : Env} {wd bytes : Nat} {f : α → AV} (hf : ∀ x, Cl (f x)) (l : List α) (x : α) {y : AV} {len : Nat}
    (hlen : len = l.length) (hl : L[i]? = some (some ⟨wd, l.map f⟩)) (hL : RC L) (hy : y = f x) (hb : (len + 1) * bytes ≤ 140737488355328) (hbb : len + 1 ≤ 9223372036854775807) :
    appV n0 wd bytes false (.mu (lid G i) 0 len none) (.sl wd [y]) env (hap (hM G β n w c oc π S) L) = some (.mu (lid G i) 0 (len + 1) none, scrub (lid G i) env, hap (hM G β n w c oc π S) (L.set i (some ⟨wd, (l ++ [x]).map f⟩))) := by
  have := app_row (H := hM G β n w c oc π S) hH i (by rw [lid_hM]; exact hn) (env := env) (bytes := bytes) hf l x (l ++ [x]) hlen hl hL hy rfl hb hbb
  rwa [lid_hM] at this
theorem swp_at (π : Nat → Nat) (p r : Nat) : (fun t => if t = r then π p else (fun t => if t = p then π r else π t) t) = swp π p r := by
  funext t; unfold swp
  by_cases h1 : t = r
  · by_cases h2 : t = p
    · rw [if_pos h1, if_pos h2]; rw [← h1, ← h2]
    · rw [if_pos h1, if_neg h2, if_pos h1]
  · rw [if_neg h1]
    show (if t = p then π r else π t) = _
    by_cases h2 : t = p
    · rw [if_pos h2, if_pos h2]
    · rw [if_neg h2, if_neg h2, if_neg h1]
/-- A matrix's logical entries. -/
structure Lk (n c : Nat) (π : Nat → Nat) (S : Nat → Nat → AV) (F : Nat → Nat → AV) : Prop where
  lt : ∀ a, a < n → π a < n
  inj : ∀ a b, a < n → b < n → π a = π b → a = b
  at_ : ∀ a b, a < n → b < c → S (π a) b = F a b
  cl : ∀ a b, Cl (S a b)
theorem Lk.swap {n c : Nat} {π : Nat → Nat} {S : Nat → Nat → AV} {α : Type} {M : Nat → Nat → α} {f : α → AV} (h : Lk n c π S fun a b => f (M a b)) {p r : Nat} (hp : p < n) (hr : r < n) : Lk n c (swp π p r) S fun a b => f (if a = p then M r b else if a = r then M p b else M a b) := by
  refine ⟨fun a ha => ?_, fun a b ha hb he => ?_, fun a b ha hb => ?_, h.cl⟩
  · unfold swp; split
    · exact h.lt r hr
    · split
      · exact h.lt p hp
      · exact h.lt a ha
  · unfold swp at he
    split at he
    · split at he
      · omega
      · split at he
        · have := h.inj _ _ hr hp he; omega
        · have := h.inj _ _ hr hb he; omega
    · split at he
      · split at he
        · have := h.inj _ _ hp hr he; omega
        · split at he
          · omega
          · have := h.inj _ _ hp hb he; omega
      · split at he
        · have := h.inj _ _ ha hr he; omega
        · split at he
          · have := h.inj _ _ ha hp he; omega
          · exact h.inj _ _ ha hb he
  · unfold swp
    split
    · exact h.at_ r b hr hb
    · split
      · exact h.at_ p b hp hb
      · exact h.at_ a b ha hb
section
variable {G : Heap} {β n c : Nat} {e : Nat} (hG : β + n < G.length) (B : Nat → Nat → Rat) (hB : Bd e B) (hn : n ≤ 64) (hc : c ≤ 2097152) (hK : KB e + 1 < 2199023255552)
include hG hB hn hc hK
omit hG hc hK in
theorem rok_M (t i k : Nat) : Rok (KB e + 1) ((jproc n B t).M i k) := by
  obtain ⟨h1, h2⟩ := M_size hB hn t i k
  have : LB ^ KB e < LB ^ (KB e + 1) := Nat.pow_lt_pow_right (by decide) (by omega)
  exact ⟨by omega, by omega⟩
omit hG hc hK in
theorem rok_dv (t : Nat) : Rok (KB e + 1) (dv n B t) := by
  obtain ⟨z, hz, hz1⟩ := dv_kb hB hn t
  have : LB ^ KB e < LB ^ (KB e + 1) := Nat.pow_lt_pow_right (by decide) (by omega)
  have h1 : 1 ≤ LB ^ KB e := Nat.one_le_iff_ne_zero.2 (by have := lb_pos (KB e); omega)
  rw [hz]
  refine ⟨?_, ?_⟩
  · show z.natAbs < _; omega
  · show 1 < _; omega
theorem reduced_calls {S : Nat → Nat → AV} (hS : Lk n c (fun i => i) S fun a b => Rv (B a b)) :
    ACalls Pr F_ref06_reduced [.mu β 0 n none, .int .i64 c] (hM G β n 4 c none (fun i => i) S) fun r' H' => ∃ π S', Lk n c π S' (fun a b => Rv ((jproc n B c).M a b)) ∧ H' = hM G β n 4 c none π S' ∧
      r' = .tup [.mu β 0 (gproc n B c).cs.length none, hsV (gproc n B c).cs, Rv (dv n B c)] := by
  refine ACalls.eff ref06_reduced_fn ref06_reduced_ok (Nat.le_of_ble_eq_true rfl) fun hH => ?_
  have hBi : ∀ i k, ∃ z : Int, B i k = z := fun i k => by obtain ⟨z, h, _⟩ := hB i k; exact ⟨z, h⟩
  have hrok := rok_M B hB hn
  have hrdv := rok_dv B hB hn
  have hrw : lid (hM G β n 4 c none (fun i => i) S) 0 = lid G 0 := lid_hM _ _ _ _ _ _ _ _ _
  refine Safe.rg rfl ?_
  simp only [ref06_reduced_r0, lid_hM, hrow_locM, set_locM, st_zeroM, zero_lt_four, E3, Nat.reduceLeDiff, Nat.reduceSub, Nat.reduceAdd, Nat.reduceEqDiff, reduceCtorEq, ↓reduceIte]
  refine Safe.rg rfl ?_
  simp only [ref06_reduced_r1, lid_hM, hrow_locM, set_locM, st_zeroM, Rv_fit, Rv_cells, zero_lt_four, E3, Nat.reduceLeDiff, Nat.reduceSub, Nat.reduceAdd, Nat.reduceEqDiff, reduceCtorEq, ↓reduceIte]
  first | refine (r2of_pure 1 (by decide) (by decide)).acall ?_ | refine (r2of_pure 1 (by decide) (by decide)).dcall ?_
  try simp only [E3, Nat.reduceLeDiff, Nat.reduceSub, Nat.reduceAdd, Nat.reduceEqDiff, reduceCtorEq, ↓reduceIte]
  refine (r3of_pure (canZ 1) ((zok_can (k := 1) (by decide)).mono (by decide))).acall ?_
  rw [canZ_z]
  simp only [lid_hM, hrow_locM, set_locM, st_zeroM, Rv_fit, Rv_cells, zero_lt_four, E3, Nat.reduceLeDiff, Nat.reduceSub, Nat.reduceAdd, Nat.reduceEqDiff, reduceCtorEq, ↓reduceIte]
  refine Safe.rg rfl ?_
  simp only [ref06_reduced_r2, E3, Nat.reduceLeDiff, Nat.reduceSub, Nat.reduceAdd, Nat.reduceEqDiff, reduceCtorEq, ↓reduceIte]
  refine Safe.nilrow 8 1 (by decide) (by simp only [E3, Nat.reduceLeDiff, Nat.reduceSub, Nat.reduceAdd, Nat.reduceEqDiff, reduceCtorEq, ↓reduceIte]) ?_
  refine Safe.rg rfl ?_
  simp only [ref06_reduced_r3, E3, Nat.reduceLeDiff, Nat.reduceSub, Nat.reduceAdd, Nat.reduceEqDiff, reduceCtorEq, ↓reduceIte]
  refine Safe.rg rfl ?_
  simp only [ref06_reduced_r4, E3, Nat.reduceLeDiff, Nat.reduceSub, Nat.reduceAdd, Nat.reduceEqDiff, reduceCtorEq, ↓reduceIte]
  refine Safe.lp rfl ?_
  refine Safe.keep [0, 1, 6, 7, 8, 9, 10] ?_
  simp only [lid_hM, hrow_locM, set_locM, st_zeroM, E3, Nat.reduceLeDiff, Nat.reduceSub, Nat.reduceAdd, Nat.reduceEqDiff, reduceCtorEq, ↓reduceIte]
  refine Safe.loopW (α := Nat × (Nat → Nat) × (Nat → Nat → AV)) (fun s => c - s.1)
    (fun s => [(0, .mu β 0 n none), (1, .int .i64 c), (6, .loc (lid G 0) 0 0), (7, .loc (lid G 1) 0 0), (8, .mu (lid G 2) 0 (gproc n B s.1).cs.length none), (9, .int .i64 (gproc n B s.1).cs.length), (10, .int .i64 s.1)])
    (fun s => hap (hM G β n 4 c none s.2.1 s.2.2) [some ⟨4, [.agg [.bool false, .nil, .bool false, .nil]]⟩, some ⟨4, [Rv (dv n B s.1)]⟩, some ⟨1, (gproc n B s.1).cs.map intV⟩])
    (fun s => s.1 ≤ c ∧ Lk n c s.2.1 s.2.2 fun a b => Rv ((jproc n B s.1).M a b)) (0, fun i => i, S) rfl ?_ ⟨Nat.zero_le _, hS⟩ ?_
  · simp only [dv_zero]; rfl
  rintro ⟨t, π, S1⟩ ⟨ht, hL⟩ ih
  simp only at ht hL ih ⊢
  have hok := jok_proc (n := n) hBi t
  have hrn := hok.g.len
  have hlow := hok.low
  rw [jproc_s] at hrn hlow
  have hHr : ∀ {π' : Nat → Nat} {S' : Nat → Nat → AV} {F : Nat → Nat → AV}, Lk n c π' S' F → HRefs (hM G β n 4 c none π' S') := fun h => hM_refs hG hH h.lt fun a b _ _ => h.cl a b
  have hlen : (gproc n B t).cs.length ≤ 64 := by omega
  have htlt : t < 9223372036854775807 := by omega
  have htw : IntKind.wrap .i64 ((t : Int) + 1) = ((t + 1 : Nat) : Int) := by rw [wrap_i64] <;> omega
  refine Safe.inLoop ?_
  by_cases htc : t < c
  · have hlt : ((t : Int) < (c : Int)) = True := eq_true (by omega)
    refine Safe.rg rfl ?_
    simp only [ref06_reduced_r5, hlt, E3, Nat.reduceLeDiff, Nat.reduceSub, Nat.reduceAdd, Nat.reduceEqDiff, reduceCtorEq, ↓reduceIte]
    refine Safe.cd rfl ?_
    simp only [E3, Nat.reduceLeDiff, Nat.reduceSub, Nat.reduceAdd, Nat.reduceEqDiff, reduceCtorEq, ↓reduceIte]
    refine Safe.rg rfl ?_
    simp only [ref06_reduced_r6, E3, Nat.reduceLeDiff, Nat.reduceSub, Nat.reduceAdd, Nat.reduceEqDiff, reduceCtorEq, ↓reduceIte]
    have entry : ∀ q, q < n → S1 (π q) t = Rv ((jproc n B t).M q t) := fun q hq => hL.at_ q t hq htc
    rcases firstNZ_cases (fun p => (gproc n B t).g p t) (gproc n B t).cs.length n with ⟨p, hf, h1, h2, h3, h4⟩ | ⟨hf, h4⟩
    · have hj := jstep_some (j := jproc n B t) (c := t) (n := n) (p := p) (by rw [jproc_s]; exact hf)
      have hdv := dv_some hBi hf h1
      have hcs : (gproc n B (t + 1)).cs = (gproc n B t).cs ++ [t] := by
        show (gstep n (gproc n B t) t).cs = _
        rw [gstep_some hf]
      have hM' : (jproc n B (t + 1)).M = jel (gproc n B t).cs.length t (swapR p (gproc n B t).cs.length (jproc n B t).M) := by
        show (jstep n (jproc n B t) t).M = _
        rw [hj, jproc_s]
      have hMp : ∀ q, (gproc n B t).cs.length ≤ q → (jproc n B t).M q t = (gproc n B t).g q t := fun q hq => hlow q t hq
      have hrokM : ∀ a b, Rok (KB e + 1) (swapR p (gproc n B t).cs.length (jproc n B t).M a b) := by
        intro a b; unfold swapR
        split
        · exact hrok _ _ _
        · split <;> exact hrok _ _ _
      have hM0r : swapR p (gproc n B t).cs.length (jproc n B t).M (gproc n B t).cs.length t = (gproc n B t).g p t := by
        unfold swapR
        by_cases e : (gproc n B t).cs.length = p
        · rw [if_pos e, ← e, hMp _ (Nat.le_refl _)]
        · rw [if_neg e, if_pos rfl, hMp _ h1]
      generalize hcsl : (gproc n B t).cs.length = r at *
      have hr : r < n := by omega
      have hgp : (gproc n B t).g p t ≠ 0 := h3
      generalize hM0 : swapR p r (jproc n B t).M = M0 at *
      have main : ∀ π', Lk n c π' S1 (fun a b => Rv (M0 a b)) → Safe ⟨Pr, fun _ _ => false, F_ref06_reduced, 136, [.tmp 4, .tmp 5, .cell 6 (some 4)], (hM G β n 4 c none (fun i => i) S).length⟩
          [.code ((ACode.region ref06_reduced_r14 false).seq ((ACode.region ref06_reduced_r15 false).seq (((ACode.region ref06_reduced_r16 false).seq (.block 4 (.loop ref06_reduced_l2))).seq (((ACode.region ref06_reduced_r20 false).seq (.block 6 (.loop ref06_reduced_l3))).seq ((ACode.region ref06_reduced_r25 false).seq (.region ref06_reduced_r26 false)))))),
            .inBlock 1, .code (.region ref06_reduced_r27 false), .inLoop ref06_reduced_l0, .inBlock 0, .code ((ACode.region ref06_reduced_r28 true).seq .ret)]
          [(0, .mu β 0 n none), (1, .int .i64 c), (6, .loc (lid G 0) 0 0), (7, .loc (lid G 1) 0 0), (8, .mu (lid G 2) 0 r none), (9, .int .i64 r), (10, .int .i64 t)]
          (hap (hM G β n 4 c none π' S1) [some ⟨4, [.agg [.bool false, .nil, .bool false, .nil]]⟩, some ⟨4, [Rv (if p = r then dv n B t else -dv n B t)]⟩, some ⟨1, (gproc n B t).cs.map intV⟩])
          fun r' H' => ∃ H1 L, H' = hap H1 L ∧ H1.length = (hM G β n 4 c none (fun i => i) S).length ∧ HRefs H1 ∧ Ref (fun x => x < (hM G β n 4 c none (fun i => i) S).length) r' ∧
            ∃ π S', Lk n c π S' (fun a b => Rv ((jproc n B c).M a b)) ∧ H1 = hM G β n 4 c none π S' ∧ r' = .tup [.mu β 0 (gproc n B c).cs.length none, hsV (gproc n B c).cs, Rv (dv n B c)] := by
        intro π' hL'
        have hpr := hL'.lt r hr
        have hdr : Rok (KB e + 1) (if p = r then dv n B t else -dv n B t) := by
          split
          · exact hrdv t
          · exact rok_neg (hrdv t)
        have v0 : S1 (π' r) t = Rv (M0 r t) := hL'.at_ r t hr htc
        refine Safe.rg rfl ?_
        simp only [ref06_reduced_r14, lid_hM, hrow_locM, set_locM, st_zeroM, M_idx hG hr, M_at hG hr, E_idx hG hpr htc, E_at hG hpr htc, v0, Rv_cells, Rv_fit, zero_lt_four, E3, Nat.reduceLeDiff, Nat.reduceSub, Nat.reduceAdd, Nat.reduceEqDiff, reduceCtorEq, ↓reduceIte]
        refine Safe.rg rfl ?_
        simp only [ref06_reduced_r15, lid_hM, hrow_locM, set_locM, st_zeroM, Rv_cells, Rv_fit, E3, Nat.reduceLeDiff, Nat.reduceSub, Nat.reduceAdd, Nat.reduceEqDiff, reduceCtorEq, ↓reduceIte]
        refine (r3mul_pure _ (M0 r t) hdr (hrokM r t) (by omega)).acall ?_
        rw [hM0r, ← hdv]
        simp only [lid_hM, hrow_locM, set_locM, st_zeroM, Rv_cells, Rv_fit, E3, Nat.reduceLeDiff, Nat.reduceSub, Nat.reduceAdd, Nat.reduceEqDiff, reduceCtorEq, ↓reduceIte]
        have hrokh := hrokM r t
        rw [hM0r] at hrokh
        have hM0rr := hM0r
        generalize (gproc n B t).g p t = h at *
        refine Safe.rg rfl ?_
        simp only [ref06_reduced_r16, E3, Nat.reduceLeDiff, Nat.reduceSub, Nat.reduceAdd, Nat.reduceEqDiff, reduceCtorEq, ↓reduceIte]
        refine Safe.lp rfl ?_
        refine Safe.keep [0, 1, 6, 7, 8, 9, 10, 12, 13] ?_
        try simp only [E3, Nat.reduceLeDiff, Nat.reduceSub, Nat.reduceAdd, Nat.reduceEqDiff, reduceCtorEq, ↓reduceIte]
        refine Safe.loopN c (fun k => [(0, .mu β 0 n none), (1, .int .i64 c), (6, .loc (lid G 0) 0 0), (7, .loc (lid G 1) 0 0), (8, .mu (lid G 2) 0 r none), (9, .int .i64 r), (10, .int .i64 t), (12, .loc (lid G 3) 0 0), (13, .int .i64 k)])
          (fun k => hap (hM G β n 4 c none π' (loseS S1 (π' r) (fun b => Rv (M0 r b / h)) k)) [some ⟨4, [.agg [.bool false, .nil, .bool false, .nil]]⟩, some ⟨4, [Rv (dv n B (t + 1))]⟩, some ⟨1, (gproc n B t).cs.map intV⟩, some ⟨4, [Rv h]⟩]) rfl ?_ (fun k hk ihk => ?_) ?_
        · rw [loseS_zero]; rfl
        · have hlt : ((k : Int) < (c : Int)) = True := eq_true (by omega)
          have hkw : IntKind.wrap .i64 ((k : Int) + 1) = ((k + 1 : Nat) : Int) := by rw [wrap_i64] <;> omega
          have v1 : loseS S1 (π' r) (fun b => Rv (M0 r b / h)) k (π' r) k = Rv (M0 r k) := by rw [loseS_at, hL'.at_ r k hr hk]
          have hsucc := loseS_succ S1 (π' r) (fun b => Rv (M0 r b / h)) k
          generalize loseS S1 (π' r) (fun b => Rv (M0 r b / h)) k = St at *
          refine Safe.inLoop ?_
          refine Safe.rg rfl ?_
          simp only [ref06_reduced_r17, hlt, E3, Nat.reduceLeDiff, Nat.reduceSub, Nat.reduceAdd, Nat.reduceEqDiff, reduceCtorEq, ↓reduceIte]
          refine Safe.cd rfl ?_
          simp only [E3, Nat.reduceLeDiff, Nat.reduceSub, Nat.reduceAdd, Nat.reduceEqDiff, reduceCtorEq, ↓reduceIte]
          refine Safe.rg rfl ?_
          simp only [ref06_reduced_r18, lid_hM, hrow_locM, set_locM, st_zeroM, M_idx hG hr, M_at hG hr, E_idx hG hpr hk, E_at hG hpr hk, v1, Rv_cells, E3, Nat.reduceLeDiff, Nat.reduceSub, Nat.reduceAdd, Nat.reduceEqDiff, reduceCtorEq, ↓reduceIte]
          refine (r3div_pure (M0 r k) h (hrokM r k) hrokh (by omega) hgp).dcall ?_
          simp only [E_idx hG hpr hk, E3, Nat.reduceLeDiff, Nat.reduceSub, Nat.reduceAdd, Nat.reduceEqDiff, reduceCtorEq, ↓reduceIte]
          simp only [E_st hG hpr hk (Rv_fit _) (show (Rv _).cells.length = 4 from rfl), hsucc, E3, Nat.reduceLeDiff, Nat.reduceSub, Nat.reduceAdd, Nat.reduceEqDiff, reduceCtorEq, ↓reduceIte]
          refine Safe.rg rfl ?_
          simp only [ref06_reduced_r19, hkw, E3, Nat.reduceLeDiff, Nat.reduceSub, Nat.reduceAdd, Nat.reduceEqDiff, reduceCtorEq, ↓reduceIte]
          refine Safe.keep [0, 1, 6, 7, 8, 9, 10, 12, 13] ?_
          simp only [E3, Nat.reduceLeDiff, Nat.reduceSub, Nat.reduceAdd, Nat.reduceEqDiff, reduceCtorEq, ↓reduceIte]
          exact ihk
        · refine Safe.inLoop ?_
          refine Safe.rg rfl ?_
          simp only [ref06_reduced_r17, Int.lt_irrefl, E3, Nat.reduceLeDiff, Nat.reduceSub, Nat.reduceAdd, Nat.reduceEqDiff, reduceCtorEq, ↓reduceIte]
          refine Safe.cd rfl ?_
          simp only [E3, Nat.reduceLeDiff, Nat.reduceSub, Nat.reduceAdd, Nat.reduceEqDiff, reduceCtorEq, ↓reduceIte]
          have hL2 : Lk n c π' (loseS S1 (π' r) (fun b => Rv (M0 r b / h)) c) (fun a b => Rv (if a = r then M0 r b / h else M0 a b)) := by
            refine ⟨hL'.lt, hL'.inj, fun a b ha hb => ?_, loseS_cl hL'.cl fun _ => Rv_cl _⟩
            by_cases e : a = r
            · subst e; rw [if_pos rfl]; unfold loseS; rw [if_pos ⟨rfl, hb⟩]
            · rw [if_neg e, loseS_ne (fun h => e (hL'.inj _ _ ha hr h)), hL'.at_ a b ha hb]
          generalize loseS S1 (π' r) (fun b => Rv (M0 r b / h)) c = S2 at *
          refine Safe.rg rfl ?_
          simp only [ref06_reduced_r20, E3, Nat.reduceLeDiff, Nat.reduceSub, Nat.reduceAdd, Nat.reduceEqDiff, reduceCtorEq, ↓reduceIte]
          refine Safe.lp rfl ?_
          refine Safe.keep [0, 1, 6, 7, 8, 9, 10, 14] ?_
          try simp only [E3, Nat.reduceLeDiff, Nat.reduceSub, Nat.reduceAdd, Nat.reduceEqDiff, reduceCtorEq, ↓reduceIte]
          refine Safe.loopW (α := Nat × (Nat → Nat → AV)) (fun s => n - s.1)
            (fun s => [(0, .mu β 0 n none), (1, .int .i64 c), (6, .loc (lid G 0) 0 0), (7, .loc (lid G 1) 0 0), (8, .mu (lid G 2) 0 r none), (9, .int .i64 r), (10, .int .i64 t), (14, .int .i64 s.1)])
            (fun s => hap (hM G β n 4 c none π' s.2) [some ⟨4, [.agg [.bool false, .nil, .bool false, .nil]]⟩, some ⟨4, [Rv (dv n B (t + 1))]⟩, some ⟨1, (gproc n B t).cs.map intV⟩, some ⟨4, [Rv h]⟩])
            (fun s => s.1 ≤ n ∧ Lk n c π' s.2 (fun a b => Rv (if a = r then M0 r b / h else if a < s.1 then M0 a b - M0 a t * (M0 r b / h) else M0 a b))) (0, S2) rfl rfl
            ⟨Nat.zero_le _, by
              refine ⟨hL2.lt, hL2.inj, fun a b ha hb => ?_, hL2.cl⟩
              refine (hL2.at_ a b ha hb).trans ?_; dsimp only; simp⟩ ?_
          rintro ⟨i, S3⟩ ⟨hi, hL3⟩ ih3
          simp only at hi hL3 ih3 ⊢
          refine Safe.inLoop ?_
          by_cases hin : i < n
          · have hlt : ((i : Int) < (n : Int)) = True := eq_true (by omega)
            have hiw : IntKind.wrap .i64 ((i : Int) + 1) = ((i + 1 : Nat) : Int) := by rw [wrap_i64] <;> omega
            have hpi := hL3.lt i hin
            refine Safe.rg rfl ?_
            simp only [ref06_reduced_r21, M_len hG, hlt, E3, Nat.reduceLeDiff, Nat.reduceSub, Nat.reduceAdd, Nat.reduceEqDiff, reduceCtorEq, ↓reduceIte]
            refine Safe.cd rfl ?_
            simp only [E3, Nat.reduceLeDiff, Nat.reduceSub, Nat.reduceAdd, Nat.reduceEqDiff, reduceCtorEq, ↓reduceIte]
            by_cases hir : i = r
            · subst hir
              refine Safe.rg rfl ?_
              simp only [ref06_reduced_r22, E3, Nat.reduceLeDiff, Nat.reduceSub, Nat.reduceAdd, Nat.reduceEqDiff, reduceCtorEq, ↓reduceIte]
              refine Safe.cd rfl ?_
              simp only [E3, Nat.reduceLeDiff, Nat.reduceSub, Nat.reduceAdd, Nat.reduceEqDiff, reduceCtorEq, ↓reduceIte]
              refine Safe.rg rfl ?_
              simp only [ref06_reduced_r24, hiw, E3, Nat.reduceLeDiff, Nat.reduceSub, Nat.reduceAdd, Nat.reduceEqDiff, reduceCtorEq, ↓reduceIte]
              refine Safe.keep [0, 1, 6, 7, 8, 9, 10, 14] ?_
              simp only [E3, Nat.reduceLeDiff, Nat.reduceSub, Nat.reduceAdd, Nat.reduceEqDiff, reduceCtorEq, ↓reduceIte]
              refine ih3 (i + 1, S3) ⟨by omega, hL3.lt, hL3.inj, fun a b ha hb => ?_, hL3.cl⟩ (by show n - (i + 1) < n - i; omega)
              refine (hL3.at_ a b ha hb).trans ?_
              dsimp only
              by_cases e : a = i
              · rw [if_pos e, if_pos e]
              · rw [if_neg e, if_neg e]
                by_cases e2 : a < i
                · rw [if_pos e2, if_pos (show a < i + 1 by omega)]
                · rw [if_neg e2, if_neg (show ¬ a < i + 1 by omega)]
            · have hne : ((i : Int) = (r : Int)) = False := eq_false (by omega)
              have v3 : S3 (π' i) t = Rv (M0 i t) := by rw [hL3.at_ i t hin htc, if_neg hir, if_neg (Nat.lt_irrefl _)]
              refine Safe.rg rfl ?_
              simp only [ref06_reduced_r22, hne, M_idx hG hin, M_at hG hin, E_idx hG hpi htc, E_at hG hpi htc, v3, Rv_cells, E3, Nat.reduceLeDiff, Nat.reduceSub, Nat.reduceAdd, Nat.reduceEqDiff, reduceCtorEq, ↓reduceIte]
              refine (rzero_pure (M0 i t) (hrokM i t) (by omega)).acall ?_
              by_cases hz : M0 i t = 0
              · simp only [hz, E3, Nat.reduceLeDiff, Nat.reduceSub, Nat.reduceAdd, Nat.reduceEqDiff, reduceCtorEq, ↓reduceIte]
                refine Safe.cd rfl ?_
                simp only [E3, Nat.reduceLeDiff, Nat.reduceSub, Nat.reduceAdd, Nat.reduceEqDiff, reduceCtorEq, ↓reduceIte]
                refine Safe.rg rfl ?_
                simp only [ref06_reduced_r24, hiw, E3, Nat.reduceLeDiff, Nat.reduceSub, Nat.reduceAdd, Nat.reduceEqDiff, reduceCtorEq, ↓reduceIte]
                refine Safe.keep [0, 1, 6, 7, 8, 9, 10, 14] ?_
                simp only [E3, Nat.reduceLeDiff, Nat.reduceSub, Nat.reduceAdd, Nat.reduceEqDiff, reduceCtorEq, ↓reduceIte]
                refine ih3 (i + 1, S3) ⟨by omega, hL3.lt, hL3.inj, fun a b ha hb => ?_, hL3.cl⟩ (by show n - (i + 1) < n - i; omega)
                refine (hL3.at_ a b ha hb).trans ?_
                dsimp only
                by_cases e : a = r
                · rw [if_pos e, if_pos e]
                · rw [if_neg e, if_neg e]
                  by_cases e2 : a < i
                  · rw [if_pos e2, if_pos (show a < i + 1 by omega)]
                  · rw [if_neg e2]
                    by_cases e3 : a = i
                    · subst e3
                      rw [if_pos (show a < a + 1 by omega), hz]
                      congr 1
                      generalize M0 r b / h = y
                      grind
                    · rw [if_neg (show ¬ a < i + 1 by omega)]
              · simp only [hz, E3, Nat.reduceLeDiff, Nat.reduceSub, Nat.reduceAdd, Nat.reduceEqDiff, reduceCtorEq, ↓reduceIte]
                refine Safe.cd rfl ?_
                simp only [E3, Nat.reduceLeDiff, Nat.reduceSub, Nat.reduceAdd, Nat.reduceEqDiff, reduceCtorEq, ↓reduceIte]
                have hMs : ∀ a b, a < n → b < c → Rok (KB e + 1) (if a = r then M0 r b / h else if a < i then M0 a b - M0 a t * (M0 r b / h) else M0 a b) := by
                  intro a b _ _
                  have h0 := hrok (t + 1) a b
                  rw [hM'] at h0
                  unfold jel at h0
                  rw [hM0rr] at h0
                  by_cases e : a = r
                  · rw [if_pos e] at h0 ⊢; exact h0
                  · rw [if_neg e] at h0 ⊢
                    split
                    · exact h0
                    · exact hrokM a b
                have hcall := lose_callsL (G := G) (β := β) (n := n) (c := c) (oc := none) (oc' := none) (π := π') (S := S3) hG (M := fun a b => if a = r then M0 r b / h else if a < i then M0 a b - M0 a t * (M0 r b / h) else M0 a b) (M0 i t) hin hr
                  (fun h => hir (hL3.inj _ _ hr hin h).symm) hL3.lt hL3.at_ hL3.cl hMs (hrokM i t) (by omega) hc (by omega)
                  [some ⟨4, [.agg [.bool false, .nil, .bool false, .nil]]⟩, some ⟨4, [Rv (dv n B (t + 1))]⟩, some ⟨1, (gproc n B t).cs.map intV⟩, some ⟨4, [Rv h]⟩]
                obtain ⟨S4, hS4⟩ : ∃ S4, S4 = loseS S3 (π' i) (fun b => Rv ((fun a b => if a = r then M0 r b / h else if a < i then M0 a b - M0 a t * (M0 r b / h) else M0 a b) i b - M0 i t * (fun a b => if a = r then M0 r b / h else if a < i then M0 a b - M0 a t * (M0 r b / h) else M0 a b) r b)) c := ⟨_, rfl⟩
                rw [← hS4] at hcall
                refine Safe.rg rfl ?_
                simp only [ref06_reduced_r23, M_idx hG hin, M_at hG hin, E_idx hG hpi htc, E_at hG hpi htc, v3, Rv_cells, E3, Nat.reduceLeDiff, Nat.reduceSub, Nat.reduceAdd, Nat.reduceEqDiff, reduceCtorEq, ↓reduceIte]
                refine hcall.mono ?_
                rintro r' H' ⟨rfl, rfl⟩
                simp only [E3, Nat.reduceLeDiff, Nat.reduceSub, Nat.reduceAdd, Nat.reduceEqDiff, reduceCtorEq, ↓reduceIte]
                refine Safe.rg rfl ?_
                simp only [ref06_reduced_r24, hiw, E3, Nat.reduceLeDiff, Nat.reduceSub, Nat.reduceAdd, Nat.reduceEqDiff, reduceCtorEq, ↓reduceIte]
                refine Safe.keep [0, 1, 6, 7, 8, 9, 10, 14] ?_
                simp only [E3, Nat.reduceLeDiff, Nat.reduceSub, Nat.reduceAdd, Nat.reduceEqDiff, reduceCtorEq, ↓reduceIte]
                refine ih3 (i + 1, S4) ⟨by omega, hL3.lt, hL3.inj, fun a b ha hb => ?_, by rw [hS4]; exact loseS_cl hL3.cl fun _ => Rv_cl _⟩ (by show n - (i + 1) < n - i; omega)
                show S4 (π' a) b = Rv (if a = r then M0 r b / h else if a < i + 1 then M0 a b - M0 a t * (M0 r b / h) else M0 a b)
                rw [hS4]
                by_cases e3 : a = i
                · subst e3
                  unfold loseS
                  rw [if_pos ⟨rfl, hb⟩]
                  simp only [if_neg hir, Nat.lt_irrefl, if_false, if_true, Nat.lt_succ_self]
                · rw [loseS_ne (fun h => e3 (hL3.inj _ _ ha hin h)), hL3.at_ a b ha hb]
                  by_cases e : a = r
                  · rw [if_pos e, if_pos e]
                  · rw [if_neg e, if_neg e]
                    by_cases e2 : a < i
                    · rw [if_pos e2, if_pos (show a < i + 1 by omega)]
                    · rw [if_neg e2, if_neg (show ¬ a < i + 1 by omega)]
          · have hin' : i = n := by omega
            subst hin'
            refine Safe.rg rfl ?_
            simp only [ref06_reduced_r21, M_len hG, Int.lt_irrefl, E3, Nat.reduceLeDiff, Nat.reduceSub, Nat.reduceAdd, Nat.reduceEqDiff, reduceCtorEq, ↓reduceIte]
            refine Safe.cd rfl ?_
            simp only [E3, Nat.reduceLeDiff, Nat.reduceSub, Nat.reduceAdd, Nat.reduceEqDiff, reduceCtorEq, ↓reduceIte]
            have hL4 : Lk i c π' S3 fun a b => Rv ((jproc i B (t + 1)).M a b) := by
              refine ⟨hL3.lt, hL3.inj, fun a b ha hb => ?_, hL3.cl⟩
              rw [hL3.at_ a b ha hb, hM']
              unfold jel
              rw [hM0rr]
              by_cases e : a = r
              · rw [if_pos e, if_pos e]
              · rw [if_neg e, if_neg e, if_pos ha]
            have hrw2 : IntKind.wrap .i64 ((r : Int) + 1) = ((r + 1 : Nat) : Int) := by rw [wrap_i64] <;> omega
            have hRC : RC [some ⟨4, [.agg [.bool false, .nil, .bool false, .nil]]⟩, some ⟨4, [Rv (dv i B (t + 1))]⟩, some ⟨1, (gproc i B t).cs.map intV⟩, some ⟨4, [Rv h]⟩] :=
              RC.one zero4_cl (RC.one (Rv_cl _) (RC.row intV_cl (RC.one (Rv_cl _) RC.nil)))
            have hnb2 : nref (lid G 2) (.mu β 0 i none) = true := nref_ne (by unfold lid; omega)
            have hnb3 : nref (lid G 3) (.mu β 0 i none) = true := nref_ne (by unfold lid; omega)
            refine Safe.rg rfl ?_
            simp only [ref06_reduced_r25, E3, Nat.reduceLeDiff, Nat.reduceSub, Nat.reduceAdd, Nat.reduceEqDiff, reduceCtorEq, ↓reduceIte]
            rw [app_rowM (n0 := (hM G β i 4 c none (fun i => i) S).length) (bytes := 8) (y := .int .i64 (t : Int)) (hHr hL3) 2 (by rw [hM_len]; exact lid_ge G 2) (f := intV) intV_cl (gproc i B t).cs t hcsl.symm rfl hRC rfl (by omega) (by omega)]
            simp only [hnb2, List.set_cons_succ, List.set_cons_zero, E3, Nat.reduceLeDiff, Nat.reduceSub, Nat.reduceAdd, Nat.reduceEqDiff, reduceCtorEq, ↓reduceIte]
            refine Safe.rg rfl ?_
            simp only [ref06_reduced_r26, hrw2, E3, Nat.reduceLeDiff, Nat.reduceSub, Nat.reduceAdd, Nat.reduceEqDiff, reduceCtorEq, ↓reduceIte]
            refine Safe.rg rfl ?_
            simp only [ref06_reduced_r27, htw, E3, Nat.reduceLeDiff, Nat.reduceSub, Nat.reduceAdd, Nat.reduceEqDiff, reduceCtorEq, ↓reduceIte]
            refine Safe.keep [0, 1, 6, 7, 8, 9, 10] ?_
            simp only [E3, Nat.reduceLeDiff, Nat.reduceSub, Nat.reduceAdd, Nat.reduceEqDiff, reduceCtorEq, ↓reduceIte]
            refine Safe.dropM [some ⟨4, [.agg [.bool false, .nil, .bool false, .nil]]⟩, some ⟨4, [Rv (dv i B (t + 1))]⟩, some ⟨1, ((gproc i B t).cs ++ [t]).map intV⟩] (hHr hL4) (by rw [hM_len]; exact Nat.le_refl _) (by simp only [List.all_cons, List.all_nil, hnb3, E3, Nat.reduceLeDiff, Nat.reduceSub, Nat.reduceAdd, Nat.reduceEqDiff, reduceCtorEq, ↓reduceIte]) (RC.one zero4_cl (RC.one (Rv_cl _) (RC.row intV_cl RC.nil))) ?_
            have hfin := ih (t + 1, π', S3) ⟨htc, hL4⟩ (by show c - (t + 1) < c - t; omega)
            simp only [hcs, len_snoc, hcsl] at hfin
            exact hfin
      -- the head's row
      refine Safe.lp rfl ?_
      refine Safe.keep [0, 1, 6, 7, 8, 9, 10, 11] ?_
      try simp only [E3, Nat.reduceLeDiff, Nat.reduceSub, Nat.reduceAdd, Nat.reduceEqDiff, reduceCtorEq, ↓reduceIte]
      refine Safe.loopN (p - r) (fun j => [(0, .mu β 0 n none), (1, .int .i64 c), (6, .loc (lid G 0) 0 0), (7, .loc (lid G 1) 0 0), (8, .mu (lid G 2) 0 r none), (9, .int .i64 r), (10, .int .i64 t), (11, .int .i64 ((r + j : Nat) : Int))])
        (fun _ => hap (hM G β n 4 c none π S1) [some ⟨4, [.agg [.bool false, .nil, .bool false, .nil]]⟩, some ⟨4, [Rv (dv n B t)]⟩, some ⟨1, (gproc n B t).cs.map intV⟩]) rfl rfl (fun j hj2 ihj => ?_) ?_
      · have hq : r + j < n := by omega
        have hlt2 : (((r + j : Nat) : Int) < (n : Int)) = True := eq_true (by omega)
        have hpq := hL.lt (r + j) hq
        have hqw : IntKind.wrap .i64 (((r + j : Nat) : Int) + 1) = ((r + (j + 1) : Nat) : Int) := by rw [wrap_i64] <;> omega
        have hz : (jproc n B t).M (r + j) t = 0 := by rw [hMp _ (by omega)]; exact h4 _ (by omega) (by omega)
        have v4 := entry (r + j) hq
        refine Safe.inLoop ?_
        refine Safe.rg rfl ?_
        simp only [ref06_reduced_r7, M_len hG, hlt2, M_idx hG hq, M_at hG hq, E_idx hG hpq htc, E_at hG hpq htc, v4, Rv_cells, E3, Nat.reduceLeDiff, Nat.reduceSub, Nat.reduceAdd, Nat.reduceEqDiff, reduceCtorEq, ↓reduceIte]
        refine (rzero_pure _ (hrok t (r + j) t) (by omega)).acall ?_
        simp only [hz, E3, Nat.reduceLeDiff, Nat.reduceSub, Nat.reduceAdd, Nat.reduceEqDiff, reduceCtorEq, ↓reduceIte]
        refine Safe.cd rfl ?_
        simp only [E3, Nat.reduceLeDiff, Nat.reduceSub, Nat.reduceAdd, Nat.reduceEqDiff, reduceCtorEq, ↓reduceIte]
        refine Safe.rg rfl ?_
        simp only [ref06_reduced_r8, hqw, E3, Nat.reduceLeDiff, Nat.reduceSub, Nat.reduceAdd, Nat.reduceEqDiff, reduceCtorEq, ↓reduceIte]
        refine Safe.keep [0, 1, 6, 7, 8, 9, 10, 11] ?_
        simp only [E3, Nat.reduceLeDiff, Nat.reduceSub, Nat.reduceAdd, Nat.reduceEqDiff, reduceCtorEq, ↓reduceIte]
        refine Safe.inBlock ?_
        exact ihj
      · have hrp : r + (p - r) = p := by omega
        rw [hrp]
        have hlt2 : ((p : Int) < (n : Int)) = True := eq_true (by omega)
        have hpq := hL.lt p h2
        have hz : ((jproc n B t).M p t = 0) = False := eq_false (by rw [hMp _ h1]; exact hgp)
        have v4 := entry p h2
        have hpn : ((p : Int) = (n : Int)) = False := eq_false (by omega)
        refine Safe.inLoop ?_
        refine Safe.rg rfl ?_
        simp only [ref06_reduced_r7, M_len hG, hlt2, M_idx hG h2, M_at hG h2, E_idx hG hpq htc, E_at hG hpq htc, v4, Rv_cells, E3, Nat.reduceLeDiff, Nat.reduceSub, Nat.reduceAdd, Nat.reduceEqDiff, reduceCtorEq, ↓reduceIte]
        refine (rzero_pure _ (hrok t p t) (by omega)).acall ?_
        simp only [hz, E3, Nat.reduceLeDiff, Nat.reduceSub, Nat.reduceAdd, Nat.reduceEqDiff, reduceCtorEq, ↓reduceIte]
        refine Safe.cd rfl ?_
        simp only [E3, Nat.reduceLeDiff, Nat.reduceSub, Nat.reduceAdd, Nat.reduceEqDiff, reduceCtorEq, ↓reduceIte]
        refine Safe.rg rfl ?_
        simp only [ref06_reduced_r9, M_len hG, hpn, E3, Nat.reduceLeDiff, Nat.reduceSub, Nat.reduceAdd, Nat.reduceEqDiff, reduceCtorEq, ↓reduceIte]
        refine Safe.cd rfl ?_
        simp only [E3, Nat.reduceLeDiff, Nat.reduceSub, Nat.reduceAdd, Nat.reduceEqDiff, reduceCtorEq, ↓reduceIte]
        by_cases hpr : p = r
        · have hpr1 : ((p : Int) = (r : Int)) = True := eq_true (by omega)
          refine Safe.rg rfl ?_
          simp only [ref06_reduced_r11, hpr1, E3, Nat.reduceLeDiff, Nat.reduceSub, Nat.reduceAdd, Nat.reduceEqDiff, reduceCtorEq, ↓reduceIte]
          refine Safe.cd rfl ?_
          simp only [E3, Nat.reduceLeDiff, Nat.reduceSub, Nat.reduceAdd, Nat.reduceEqDiff, reduceCtorEq, ↓reduceIte]
          refine Safe.keep [0, 1, 6, 7, 8, 9, 10] ?_
          simp only [E3, Nat.reduceLeDiff, Nat.reduceSub, Nat.reduceAdd, Nat.reduceEqDiff, reduceCtorEq, ↓reduceIte]
          have hm := main π (by rw [← hM0, hpr, swapR_self]; exact hL)
          rw [if_pos hpr] at hm
          refine Safe.skip ?_
          exact hm
        · have hpr1 : ((p : Int) = (r : Int)) = False := eq_false (by omega)
          refine Safe.rg rfl ?_
          simp only [ref06_reduced_r11, hpr1, E3, Nat.reduceLeDiff, Nat.reduceSub, Nat.reduceAdd, Nat.reduceEqDiff, reduceCtorEq, ↓reduceIte]
          refine Safe.cd rfl ?_
          simp only [E3, Nat.reduceLeDiff, Nat.reduceSub, Nat.reduceAdd, Nat.reduceEqDiff, reduceCtorEq, ↓reduceIte]
          refine Safe.rg rfl ?_
          simp only [ref06_reduced_r12, M_idx hG h2, M_at hG h2, M_idx hG hr, M_at hG hr, E3, Nat.reduceLeDiff, Nat.reduceSub, Nat.reduceAdd, Nat.reduceEqDiff, reduceCtorEq, ↓reduceIte]
          simp only [M_st hG h2, M_idx hG hr, M_st hG hr, swp_at, E3, Nat.reduceLeDiff, Nat.reduceSub, Nat.reduceAdd, Nat.reduceEqDiff, reduceCtorEq, ↓reduceIte]
          refine Safe.rg rfl ?_
          simp only [ref06_reduced_r13, lid_hM, hrow_locM, set_locM, st_zeroM, Rv_cells, Rv_fit, E3, Nat.reduceLeDiff, Nat.reduceSub, Nat.reduceAdd, Nat.reduceEqDiff, reduceCtorEq, ↓reduceIte]
          refine (r3neg_pure (dv n B t) (hrdv t) (by omega)).acall ?_
          simp only [lid_hM, hrow_locM, set_locM, st_zeroM, Rv_cells, Rv_fit, E3, Nat.reduceLeDiff, Nat.reduceSub, Nat.reduceAdd, Nat.reduceEqDiff, reduceCtorEq, ↓reduceIte]
          refine Safe.keep [0, 1, 6, 7, 8, 9, 10] ?_
          simp only [E3, Nat.reduceLeDiff, Nat.reduceSub, Nat.reduceAdd, Nat.reduceEqDiff, reduceCtorEq, ↓reduceIte]
          have hm := main (swp π p r) (by
            have hsw := Lk.swap (f := Rv) hL h2 hr
            refine ⟨hsw.lt, hsw.inj, fun a b ha hb => ?_, hsw.cl⟩
            rw [hsw.at_ a b ha hb, ← hM0]
            unfold swapR
            split
            · rfl
            · split <;> rfl)
          rw [if_neg hpr] at hm
          exact hm
    · -- no head in this column
      have hcs : gproc n B (t + 1) = gproc n B t := gstep_none hf
      have hj : jproc n B (t + 1) = jproc n B t := jstep_none (by rw [jproc_s]; exact hf)
      have hdv := dv_none hf
      generalize hcsl : (gproc n B t).cs.length = r at *
      refine Safe.lp rfl ?_
      refine Safe.keep [0, 1, 6, 7, 8, 9, 10, 11] ?_
      try simp only [E3, Nat.reduceLeDiff, Nat.reduceSub, Nat.reduceAdd, Nat.reduceEqDiff, reduceCtorEq, ↓reduceIte]
      refine Safe.loopN (n - r) (fun j => [(0, .mu β 0 n none), (1, .int .i64 c), (6, .loc (lid G 0) 0 0), (7, .loc (lid G 1) 0 0), (8, .mu (lid G 2) 0 r none), (9, .int .i64 r), (10, .int .i64 t), (11, .int .i64 ((r + j : Nat) : Int))])
        (fun _ => hap (hM G β n 4 c none π S1) [some ⟨4, [.agg [.bool false, .nil, .bool false, .nil]]⟩, some ⟨4, [Rv (dv n B t)]⟩, some ⟨1, (gproc n B t).cs.map intV⟩]) rfl rfl (fun j hj2 ihj => ?_) ?_
      · have hq : r + j < n := by omega
        have hlt2 : (((r + j : Nat) : Int) < (n : Int)) = True := eq_true (by omega)
        have hpq := hL.lt (r + j) hq
        have hqw : IntKind.wrap .i64 (((r + j : Nat) : Int) + 1) = ((r + (j + 1) : Nat) : Int) := by rw [wrap_i64] <;> omega
        have hz : (jproc n B t).M (r + j) t = 0 := by rw [hlow _ _ (by omega)]; exact h4 _ (by omega) (by omega)
        have v4 := entry (r + j) hq
        refine Safe.inLoop ?_
        refine Safe.rg rfl ?_
        simp only [ref06_reduced_r7, M_len hG, hlt2, M_idx hG hq, M_at hG hq, E_idx hG hpq htc, E_at hG hpq htc, v4, Rv_cells, E3, Nat.reduceLeDiff, Nat.reduceSub, Nat.reduceAdd, Nat.reduceEqDiff, reduceCtorEq, ↓reduceIte]
        refine (rzero_pure _ (hrok t (r + j) t) (by omega)).acall ?_
        simp only [hz, E3, Nat.reduceLeDiff, Nat.reduceSub, Nat.reduceAdd, Nat.reduceEqDiff, reduceCtorEq, ↓reduceIte]
        refine Safe.cd rfl ?_
        simp only [E3, Nat.reduceLeDiff, Nat.reduceSub, Nat.reduceAdd, Nat.reduceEqDiff, reduceCtorEq, ↓reduceIte]
        refine Safe.rg rfl ?_
        simp only [ref06_reduced_r8, hqw, E3, Nat.reduceLeDiff, Nat.reduceSub, Nat.reduceAdd, Nat.reduceEqDiff, reduceCtorEq, ↓reduceIte]
        refine Safe.keep [0, 1, 6, 7, 8, 9, 10, 11] ?_
        simp only [E3, Nat.reduceLeDiff, Nat.reduceSub, Nat.reduceAdd, Nat.reduceEqDiff, reduceCtorEq, ↓reduceIte]
        refine Safe.inBlock ?_
        exact ihj
      · have hrp : r + (n - r) = n := by omega
        rw [hrp]
        refine Safe.inLoop ?_
        refine Safe.rg rfl ?_
        simp only [ref06_reduced_r7, M_len hG, Int.lt_irrefl, E3, Nat.reduceLeDiff, Nat.reduceSub, Nat.reduceAdd, Nat.reduceEqDiff, reduceCtorEq, ↓reduceIte]
        refine Safe.cd rfl ?_
        simp only [E3, Nat.reduceLeDiff, Nat.reduceSub, Nat.reduceAdd, Nat.reduceEqDiff, reduceCtorEq, ↓reduceIte]
        refine Safe.rg rfl ?_
        simp only [ref06_reduced_r9, M_len hG, E3, Nat.reduceLeDiff, Nat.reduceSub, Nat.reduceAdd, Nat.reduceEqDiff, reduceCtorEq, ↓reduceIte]
        refine Safe.cd rfl ?_
        simp only [E3, Nat.reduceLeDiff, Nat.reduceSub, Nat.reduceAdd, Nat.reduceEqDiff, reduceCtorEq, ↓reduceIte]
        refine Safe.rg rfl ?_
        simp only [ref06_reduced_r10, E3, Nat.reduceLeDiff, Nat.reduceSub, Nat.reduceAdd, Nat.reduceEqDiff, reduceCtorEq, ↓reduceIte]
        first | refine (r2of_pure 0 (by decide) (by decide)).acall ?_ | refine (r2of_pure 0 (by decide) (by decide)).dcall ?_
        try simp only [E3, Nat.reduceLeDiff, Nat.reduceSub, Nat.reduceAdd, Nat.reduceEqDiff, reduceCtorEq, ↓reduceIte]
        refine (r3of_pure (canZ 0) ((zok_can (k := 1) (by decide)).mono (by decide))).acall ?_
        rw [canZ_z]
        simp only [lid_hM, hrow_locM, set_locM, st_zeroM, Rv_fit, Rv_cells, zero_lt_four, E3, Nat.reduceLeDiff, Nat.reduceSub, Nat.reduceAdd, Nat.reduceEqDiff, reduceCtorEq, ↓reduceIte]
        refine Safe.rg rfl ?_
        simp only [ref06_reduced_r27, htw, E3, Nat.reduceLeDiff, Nat.reduceSub, Nat.reduceAdd, Nat.reduceEqDiff, reduceCtorEq, ↓reduceIte]
        refine Safe.keep [0, 1, 6, 7, 8, 9, 10] ?_
        simp only [E3, Nat.reduceLeDiff, Nat.reduceSub, Nat.reduceAdd, Nat.reduceEqDiff, reduceCtorEq, ↓reduceIte]
        have hfin := ih (t + 1, π, S1) ⟨htc, by rw [hj]; exact hL⟩ (by show c - (t + 1) < c - t; omega)
        simp only [hcs, hcsl, hdv] at hfin
        exact hfin
  · have htc' : t = c := by omega
    subst htc'
    refine Safe.rg rfl ?_
    simp only [ref06_reduced_r5, Int.lt_irrefl, E3, Nat.reduceLeDiff, Nat.reduceSub, Nat.reduceAdd, Nat.reduceEqDiff, reduceCtorEq, ↓reduceIte]
    refine Safe.cd rfl ?_
    simp only [E3, Nat.reduceLeDiff, Nat.reduceSub, Nat.reduceAdd, Nat.reduceEqDiff, reduceCtorEq, ↓reduceIte]
    have hnb2 : frz (lid G 2) ⟨1, (gproc n B t).cs.map intV⟩ (.mu β 0 n none) = .mu β 0 n none := frz_ref (.mu _ _ _ _ (by show β ≠ _; unfold lid; omega))
    refine Safe.freezeM 2 (hHr hL) (by rw [hM_len]; exact Nat.le_refl _) rfl (blk_map 1 intV _ intV_cl) ?_
    refine Safe.keep [0, 6, 7, 8, 9] ?_
    simp only [hnb2, frz_mu_same, List.length_map, frz_loc_other, Rv_frz, E3, Nat.reduceLeDiff, Nat.reduceSub, Nat.reduceAdd, Nat.reduceEqDiff, reduceCtorEq, ↓reduceIte]
    have hcl : frz (lid G 2) ⟨1, (gproc n B t).cs.map intV⟩ (.mu (lid G 2) 0 (gproc n B t).cs.length none) = hsV (gproc n B t).cs := frz_mu_map (H := G) 2 1 intV _ none
    refine Safe.rg rfl ?_
    simp only [ref06_reduced_r28, lid_hM, hrow_locM, set_locM, st_zeroM, M_slc hG hrn, hcl, Rv_cells, Rv_fit, E3, Nat.reduceLeDiff, Nat.reduceSub, Nat.reduceAdd, Nat.reduceEqDiff, reduceCtorEq, ↓reduceIte]
    refine Safe.rt rfl ?_
    simp only [lid_hM, hrow_locM, set_locM, st_zeroM, Rv_cells, Rv_fit, E3, Nat.reduceLeDiff, Nat.reduceSub, Nat.reduceAdd, Nat.reduceEqDiff, reduceCtorEq, ↓reduceIte]
    refine ⟨_, _, rfl, by rw [hM_len, hM_len], hHr hL, .tup _ ?_, π, S1, hL, rfl, rfl⟩
    intro a ha
    simp only [List.mem_cons, List.not_mem_nil, or_false] at ha
    rcases ha with rfl | rfl | rfl
    · exact .mu _ _ _ _ (by show β < _; rw [hM_len]; omega)
    · exact (hsV_cl _).ref
    · exact (Rv_cl _).ref
end
end Go.Abs

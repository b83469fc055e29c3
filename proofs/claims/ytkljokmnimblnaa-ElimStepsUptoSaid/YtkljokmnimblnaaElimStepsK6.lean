/- Part 6 of the proof of ElimSteps: W10, W11, W12, W13, W14, W15, W16, W17, W18, W19, W20, W21, W22, W23, W24, W26, W27, W28. -/
import Derived.Test.YtkljokmnimblnaaElimStepsK5
set_option linter.unusedVariables false
set_option linter.unusedSimpArgs false
namespace Go.Abs
theorem hap_hap (H L M : Heap) : hap (hap H L) M = hap H (L ++ M) := by simp [hap]
theorem lid_hap (H L : Heap) (i : Nat) : lid (hap H L) i = lid H (L.length + i) := by simp [hap, lid, Nat.add_assoc]
theorem limbs_idem (n : Nat) : limbs (val (limbs n)) = limbs n := by rw [val_limbs]
theorem fl_limbs {M k n : Nat} (hk : k = (limbs M).length) (hn : k ≤ n) : (fl n (dig M)).take k = limbs M := by
  rw [fl_take _ hn, hk]
  have := lim_fl_val (lim_limbs M) rfl
  rw [val_limbs] at this
  exact this.symm
theorem frz_part {H : Heap} {i len : Nat} {X : List Nat} (oc : Option Nat) (h : len ≤ X.length) : frz (lid H i) ⟨1, u32s X⟩ (.mu (lid H i) 0 len oc) = natV (X.take len) := by
  simp only [frz, if_true, Nat.zero_add, u32s_len, h, List.drop_zero, u32s_take]; rfl
theorem app_part {H : Heap} (hH : HRefs H) {n0 : Nat} {env : Env} {L : Heap} {len c : Nat} {X l : List Nat} {o : Option Blk} (hn : n0 ≤ lid H 0) (hlen : len ≤ X.length) (hc : c < len + l.length) (hb : X.length + l.length ≤ 35184372088832) :
    appV n0 1 4 false (.mu (lid H 0) 0 len (some c)) (.sl 1 (u32s l)) env (hap H [some ⟨1, u32s X⟩]) = some (.mu (lid H 0) 0 (len + l.length) none, scrub (lid H 0) env, hap H [some ⟨1, u32s (X.take len ++ l)⟩]) := by
  have hf : free (hap H [some ⟨1, u32s X⟩]) (lid H 0) = true := free_hap hH (aside_cl fun b hb a ha => by
    simp at hb; subst hb; exact blk_u32 X a ha)
  simp only [appV, srcEls_sl, Option.bind_some, hrow_hap, List.getElem?_cons_zero, Option.join_some, set_hap, List.set_cons_zero]
  rw [if_neg (by simp [u32s_len]; omega), if_pos]
  · simp only [u32s_len, u32s_take, u32s_append, capAfter]
    rw [Option.bind_some, if_neg (by omega)]
  · simp only [u32s_len, true_and]
    refine ⟨hlen, hn, hf, ?_, ?_, by omega, by omega⟩
    · exact List.all_eq_true.2 fun a ha => nref_cl (u32s_clf ha)
    · exact List.all_eq_true.2 fun a ha => nref_cl (u32s_clf ha)
theorem slc_lohi {H L : Heap} {i lo hi len m : Nat} {b : Blk} (hl : L[i]? = some (some b)) {wd : Nat} (hw : b.wd = wd) (oc : Option Nat) (k k' : IntKind) (h1 : hi = lo + m) (h2 : hi ≤ len) :
    slcV (hap H L) wd (.mu (lid H i) 0 len oc) (some (.int k lo)) (some (.int k' hi)) none = some (.mu (lid H i) lo m (oc.map (· - lo))) := by
  subst h1
  simp only [slcV, hrow_hap, hl, Option.join_some, Option.bind_some, boundV]
  rw [if_pos ⟨hw, by omega, by omega, by omega⟩]
  simp
  omega
/-- The rests, from the top. -/
theorem rest_step {U V i nv : Nat} (hV : V < LB ^ nv) (hV0 : 0 < V) : (∀ j, xr (dig (U % (V * LB ^ (i + 1)))) i (fl (nv + 1) (dig (U % (V * LB ^ (i + 1)) / LB ^ i % V))) j = dig (U % (V * LB ^ i)) j) ∧
    U % (V * LB ^ (i + 1)) / LB ^ i / V = dig (U / V) i ∧ val (fl (nv + 1) fun t => dig (U % (V * LB ^ (i + 1))) (i + t)) = U % (V * LB ^ (i + 1)) / LB ^ i ∧ U % (V * LB ^ (i + 1)) / LB ^ i < LB * V := by
  have hp := pow_pos' i
  have e1 : V * LB ^ (i + 1) = V * LB ^ i * LB := by rw [Nat.pow_succ, Nat.mul_assoc]
  have hR1 : U % (V * LB ^ (i + 1)) < V * LB ^ (i + 1) := Nat.mod_lt _ (Nat.mul_pos hV0 (pow_pos' _))
  have hS : U % (V * LB ^ (i + 1)) / LB ^ i < LB * V := by
    rw [Nat.div_lt_iff_lt_mul hp]
    have : LB * V * LB ^ i = V * LB ^ (i + 1) := by rw [e1]; rw [Nat.mul_comm LB, Nat.mul_right_comm]
    rw [this]; exact hR1
  have hSl : U % (V * LB ^ (i + 1)) / LB ^ i < LB ^ (nv + 1) := by
    have : LB * V ≤ LB ^ (nv + 1) := by rw [Nat.pow_succ']; exact Nat.mul_le_mul_left _ (Nat.le_of_lt hV)
    omega
  have hR : U % (V * LB ^ i) = U % (V * LB ^ (i + 1)) % (V * LB ^ i) := by
    rw [e1, Nat.mod_mul_right_mod]
  have hq : U % (V * LB ^ (i + 1)) / LB ^ i % V = U % (V * LB ^ i) / LB ^ i := by
    rw [hR, Nat.mul_comm V (LB ^ i), Nat.mod_mul_right_div_self]
  refine ⟨fun j => ?_, ?_, ?_, hS⟩
  · unfold xr
    rw [fl_len]
    by_cases h : i ≤ j ∧ j < i + (nv + 1)
    · rw [if_pos h, fl_get (by omega), hq, dig_div]
      congr 1; omega
    · rw [if_neg h]
      rcases Nat.lt_or_ge j i with h1 | h1
      · have h2 := Nat.mod_add_div (U % (V * LB ^ (i + 1))) (V * LB ^ i)
        rw [← hR] at h2
        have h3 : V * LB ^ i * (U % (V * LB ^ (i + 1)) / (V * LB ^ i)) = LB ^ i * (V * (U % (V * LB ^ (i + 1)) / (V * LB ^ i))) := by rw [Nat.mul_comm V, Nat.mul_assoc]
        rw [h3] at h2
        conv => lhs; rw [← h2]
        exact dig_add_mul _ h1
      · have hj : i + (nv + 1) ≤ j := by omega
        have hpj : LB ^ (nv + (i + 1)) ≤ LB ^ j := Nat.pow_le_pow_right (by decide) (by omega)
        have h3 : V * LB ^ (i + 1) ≤ LB ^ (nv + (i + 1)) := by rw [Nat.pow_add LB nv (i + 1)]; exact Nat.mul_le_mul_right _ (Nat.le_of_lt hV)
        have h4 : U % (V * LB ^ i) ≤ U % (V * LB ^ (i + 1)) := by rw [hR]; exact Nat.mod_le _ _
        rw [dig_high (by omega), dig_high (by omega)]
  · rw [Nat.div_div_eq_div_mul, Nat.mul_comm (LB ^ i), e1, Nat.mod_mul_right_div_self]
    unfold dig
    rw [Nat.div_div_eq_div_mul]
  · have : (fl (nv + 1) fun t => dig (U % (V * LB ^ (i + 1))) (i + t)) = fl (nv + 1) (dig (U % (V * LB ^ (i + 1)) / LB ^ i)) := fl_congr fun t _ => (dig_div _ _ _).symm
    rw [this, val_fl_all hSl]
theorem last_pos {l : List Nat} (h : (l.getLast?).getD 1 ≠ 0) (hl : 0 < l.length) : 0 < l.getD (l.length - 1) 0 := by
  rw [List.getLast?_eq_getElem?, List.getElem?_eq_getElem (by omega)] at h
  rw [List.getD_eq_getElem?_getD, List.getElem?_eq_getElem (by omega)]
  simp at h ⊢; omega
theorem blen_le32 {n : Nat} (h : n < LB) : blen n ≤ 32 := by
  rcases Nat.lt_or_ge 32 (blen n) with hc | hc
  · exfalso
    have h0 : n ≠ 0 := by rintro rfl; simp [blen_zero] at hc
    have := blen_ge h0
    have h2 : 2 ^ 32 ≤ 2 ^ (blen n - 1) := Nat.pow_le_pow_right (by decide) (by omega)
    have : (2 : Nat) ^ 32 = LB := by decide
    omega
  · exact hc
/-- Doubled till the top bit is set: as many limbs. -/
theorem norm_len {l : List Nat} (hl : Lim l) (h0 : 0 < l.length) (ht : 0 < l.getD (l.length - 1) 0) : val l * 2 ^ (32 - blen (l.getD (l.length - 1) 0)) < LB ^ l.length ∧ LB ^ (l.length - 1) ≤ val l := by
  have hd := getD_lt hl (l.length - 1)
  have hb := blen_le32 hd
  have hs := val_split l (l.length - 1)
  have hdr : val (l.drop (l.length - 1)) = l.getD (l.length - 1) 0 := by
    rw [val_drop_succ, show l.length - 1 + 1 = l.length by omega, List.drop_length]; simp [val]
  rw [hdr] at hs
  have htk := val_take_lt hl (l.length - 1)
  generalize l.getD (l.length - 1) 0 = d at *
  have hlt := blen_lt d
  constructor
  · have h1 : val l < LB ^ (l.length - 1) * 2 ^ blen d := by
      have : LB ^ (l.length - 1) * (d + 1) ≤ LB ^ (l.length - 1) * 2 ^ blen d := Nat.mul_le_mul_left _ hlt
      rw [Nat.mul_add] at this
      omega
    have h2 : LB ^ (l.length - 1) * 2 ^ blen d * 2 ^ (32 - blen d) = LB ^ l.length := by
      rw [Nat.mul_assoc, ← Nat.pow_add, show blen d + (32 - blen d) = 32 by omega, show (2 : Nat) ^ 32 = LB by decide, ← Nat.pow_succ]
      congr 1; omega
    rw [← h2]
    exact Nat.mul_lt_mul_of_pos_right h1 (Nat.pow_pos (by decide))
  · have : LB ^ (l.length - 1) * 1 ≤ LB ^ (l.length - 1) * d := Nat.mul_le_mul_left _ ht
    omega
theorem natV_one (r : Nat) : AV.sl 1 [.int .u32 (r : Int)] = natV [r] := rfl
theorem limbs_one {r : Nat} : val [r] = r := by simp [val]
theorem natdiv_pure (a b : List Nat) (ha : Nt a) (hb : Nt b) (hal : a.length < 17592186044000) (hbl : b.length < 17592186044000) (hb0 : val b ≠ 0) : PureC Pr F_nat_Div [natV a, natV b] (.tup [natV (limbs (val a / val b)), natV (limbs (val a % val b)), .int .i64 0]) := by
  have hLB : LB = 4294967296 := rfl
  have hna := ha.limbs
  have hnb := hb.limbs
  have hlal : (limbs (val a)).length < 17592186044000 := Nat.lt_of_le_of_lt (limbs_val_len ha.lim) hal
  have hlbl : (limbs (val b)).length < 17592186044000 := Nat.lt_of_le_of_lt (limbs_val_len hb.lim) hbl
  have hva := val_limbs (val a)
  have hvb := val_limbs (val b)
  have hlasta := limbs_last (val a)
  have hlastb := limbs_last (val b)
  have hia := limbs_idem (val a)
  have hib := limbs_idem (val b)
  refine PureC.introL nat_Div_fn nat_Div_ok (Nat.le_of_ble_eq_true rfl) (cl_tup3 (natV_cl _) (natV_cl _) (.int _ _)) fun H hH => ?_
  refine Safe.rg rfl ?_
  simp only [nat_Div_r0, E3, seval]
  refine Safe.rg rfl ?_
  simp only [nat_Div_r1, E3, seval]
  first | refine (trim_pure a ha.lim ha.len).acall ?_ | refine (trim_pure a ha.lim ha.len).dcall ?_
  try simp only [E3, seval]
  first | refine (trim_pure b hb.lim hb.len).acall ?_ | refine (trim_pure b hb.lim hb.len).dcall ?_
  try simp only [E3, seval]
  generalize limbs (val a) = la at *
  generalize limbs (val b) = lb at *
  generalize val a = A at *
  generalize val b = B at *
  subst hva
  subst hvb
  have hb1 : 0 < lb.length := by
    rcases Nat.eq_zero_or_pos lb.length with h | h
    · exfalso; have := List.length_eq_zero_iff.1 h; subst this; exact hb0 rfl
    · exact h
  have hB : 0 < val lb := Nat.pos_of_ne_zero hb0
  refine Safe.rg rfl ?_
  simp only [nat_Div_r2, show (((lb.length : Nat) : Int) = 0) = False from eq_false (by omega), E3, seval]
  refine Safe.cd rfl ?_
  simp only [E3, seval]
  refine Safe.rg rfl ?_
  simp only [nat_Div_r4, E3, seval]
  refine (natcmp_pure la lb hna hnb).acall ?_
  by_cases hab : val la < val lb
  · have hcm : (cmpI (val la) (val lb) < 0) = True := by rw [cmpI_lt]; exact eq_true hab
    simp only [hcm, E3, seval]
    refine Safe.cd rfl ?_
    simp only [E3, seval]
    refine Safe.rg rfl ?_
    simp only [nat_Div_r5, E3, seval]
    first | refine (norm_pure la hna).acall ?_ | refine (norm_pure la hna).dcall ?_
    try simp only [E3, seval]
    refine Safe.rt rfl ?_
    simp only [E3, seval]
    rw [Nat.div_eq_of_lt hab, Nat.mod_eq_of_lt hab, limbs_zero]
    exact ⟨Le.tup3 (Le.nil 1 (by decide)) (Le.refl _) (Le.refl _), _, rfl⟩
  have hcm : (cmpI (val la) (val lb) < 0) = False := by rw [cmpI_lt]; exact eq_false hab
  simp only [hcm, E3, seval]
  refine Safe.cd rfl ?_
  simp only [E3, seval]
  have htb := last_pos hlastb hb1
  have hdl := getD_lt hnb.lim (lb.length - 1)
  by_cases hone : lb.length = 1
  · have h1 : (((lb.length : Nat) : Int) = 1) = True := eq_true (by omega)
    refine Safe.rg rfl ?_
    simp only [nat_Div_r6, h1, E3, seval]
    refine Safe.cd rfl ?_
    simp only [E3, seval]
    have hvb1 : val lb = lb.getD 0 0 := by
      have := val_drop_succ lb 0
      rw [List.drop_zero, List.drop_eq_nil_of_le (by omega)] at this
      simpa [val] using this
    have i0 := natV_idx (hap H []) lb .i64 0 hb1
    rw [Int.natCast_zero] at i0
    have hd0 : 0 < lb.getD 0 0 := by rw [← hvb1]; exact hB
    have hd1 : lb.getD 0 0 < LB := getD_lt hnb.lim 0
    refine Safe.rg rfl ?_
    simp only [nat_Div_r7, i0, E3, seval]
    first | refine (short_pure la (lb.getD 0 0) hna hd0 hd1).acall ?_ | refine (short_pure la (lb.getD 0 0) hna hd0 hd1).dcall ?_
    try simp only [E3, seval]
    have hrl : val la % lb.getD 0 0 < LB := Nat.lt_trans (Nat.mod_lt _ hd0) hd1
    refine Safe.rg rfl ?_
    simp only [nat_Div_r8, natV_one, E3, seval]
    first | refine (trim_pure [val la % lb.getD 0 0] (by intro d hd; simp at hd; subst hd; exact hrl) (by simp)).acall ?_ | refine (trim_pure [val la % lb.getD 0 0] (by intro d hd; simp at hd; subst hd; exact hrl) (by simp)).dcall ?_
    try simp only [E3, seval]
    refine Safe.rt rfl ?_
    simp only [E3, seval]
    rw [hvb1, limbs_one]
    exact ⟨Le.refl _, _, rfl⟩
  have h1 : (((lb.length : Nat) : Int) = 1) = False := eq_false (by omega)
  refine Safe.rg rfl ?_
  simp only [nat_Div_r6, h1, E3, seval]
  refine Safe.cd rfl ?_
  simp only [E3, seval]
  have w0 : IntKind.wrap .i64 (((lb.length : Nat) : Int) - 1) = ((lb.length - 1 : Nat) : Int) := by rw [wrap_i64] <;> omega
  refine Safe.rg rfl ?_
  simp only [nat_Div_r9, w0, natV_idx _ lb _ (lb.length - 1) (by omega), E3, seval]
  first | refine (clz_pure _ hdl).acall ?_ | refine (clz_pure _ hdl).dcall ?_
  try simp only [E3, seval]
  obtain ⟨hVl, hBl⟩ := norm_len hnb.lim hb1 htb
  have hn32 : 32 - blen (lb.getD (lb.length - 1) 0) < 32 := by
    have : 0 < blen (lb.getD (lb.length - 1) 0) := by unfold blen; rw [if_neg (by omega)]; omega
    omega
  generalize hn : 32 - blen (lb.getD (lb.length - 1) 0) = n at *
  have hp2 : 0 < 2 ^ n := Nat.pow_pos (by decide)
  -- the divisor
  refine Safe.rg rfl ?_
  simp only [nat_Div_r10, E3, seval]
  refine ACalls.mono (shl_calls lb n hnb (by omega) hb0 hn32 (hap H [])) ?_
  rintro r' H' ⟨rfl, rfl⟩
  simp only [hap_hap, lid_hap, List.nil_append, List.length_nil, hib, E3, seval]
  have hVp : 0 < val lb * 2 ^ n := Nat.mul_pos hB hp2
  have hnv1 : (limbs (val lb * 2 ^ n)).length ≤ lb.length := limbs_len_le hVl
  have hnv2 : lb.length ≤ (limbs (val lb * 2 ^ n)).length := by
    rcases Nat.lt_or_ge (limbs (val lb * 2 ^ n)).length lb.length with h | h
    · exfalso
      have h2 := val_lt (lim_limbs (val lb * 2 ^ n))
      rw [val_limbs] at h2
      have h3 : LB ^ (limbs (val lb * 2 ^ n)).length ≤ LB ^ (lb.length - 1) := Nat.pow_le_pow_right (by decide) (by omega)
      have h4 : val lb * 1 ≤ val lb * 2 ^ n := Nat.mul_le_mul_left _ hp2
      omega
    · exact h
  have hnv : (limbs (val lb * 2 ^ n)).length = lb.length := by omega
  refine Safe.freeze 0 hH rfl rfl (blk_u32 _) ?_
  refine Safe.keep [0, 1, 9, 10] ?_
  simp only [frz_part (H := H) (i := 0) _ (show (limbs (val lb * 2 ^ n)).length ≤ (fl (lb.length + 1) (dig (val lb * 2 ^ n))).length by rw [fl_len]; omega), fl_limbs (M := val lb * 2 ^ n) rfl (show (limbs (val lb * 2 ^ n)).length ≤ lb.length + 1 by omega), E3, seval]
  refine Safe.drop0 hH rfl (by simp only [List.all_cons, List.all_nil, E3, seval]) (by repeat (first | exact RC.nil | refine RC.none ?_ | refine RC.row ZI.cl ?_ | refine RC.cons (blk_u32 _) ?_ | refine RC.row vecV_cl ?_ | refine RC.emp ?_ | refine RC.zero ?_ | refine RC.one (Z_cl _) ?_ | refine RC.one (ZI.cl _) ?_ | refine RC.one (vecV_cl _) ?_)) ?_
  -- the dividend
  have hA0 : val la ≠ 0 := by omega
  have hla1 : 0 < la.length := by
    rcases Nat.eq_zero_or_pos la.length with h | h
    · exfalso; have := List.length_eq_zero_iff.1 h; subst this; exact hA0 rfl
    · exact h
  have hU1 : la.length ≤ (limbs (val la * 2 ^ n)).length := by
    rcases Nat.lt_or_ge (limbs (val la * 2 ^ n)).length la.length with h | h
    · exfalso
      have h2 := val_lt (lim_limbs (val la * 2 ^ n))
      rw [val_limbs] at h2
      have h3 : LB ^ (limbs (val la * 2 ^ n)).length ≤ LB ^ (la.length - 1) := Nat.pow_le_pow_right (by decide) (by omega)
      have h4 : val la * 1 ≤ val la * 2 ^ n := Nat.mul_le_mul_left _ hp2
      have h5 := (norm_len hna.lim hla1 (last_pos hlasta hla1)).2
      omega
    · exact h
  have hU2 : val la * 2 ^ n < LB ^ (la.length + 1) := by
    rw [Nat.pow_succ]
    have h2n : 2 ^ n ≤ LB := by
      have : LB = 2 ^ (32 - n) * 2 ^ n := by rw [← Nat.pow_add, show 32 - n + n = 32 by omega]
      rw [this]; exact Nat.le_mul_of_pos_left _ (Nat.pow_pos (by decide))
    exact Nat.lt_of_lt_of_le (Nat.mul_lt_mul_of_pos_right (val_lt hna.lim) hp2) (Nat.mul_le_mul_left _ h2n)
  have hU3 : (limbs (val la * 2 ^ n)).length ≤ la.length + 1 := limbs_len_le hU2
  refine Safe.rg rfl ?_
  simp only [nat_Div_r11, E3, seval]
  refine ACalls.mono (shl_calls la n hna (by omega) hA0 hn32 (hap H [])) ?_
  rintro r' H' ⟨rfl, rfl⟩
  generalize hK : (limbs (val la * 2 ^ n)).length = K at *
  have hrow : (fl (la.length + 1) (dig (val la * 2 ^ n))).take K ++ [0, 0] = fl (K + 2) (dig (val la * 2 ^ n)) := by
    have hh : val la * 2 ^ n < LB ^ K := by have := val_lt (lim_limbs (val la * 2 ^ n)); rwa [val_limbs, hK] at this
    have hh2 : val la * 2 ^ n < LB ^ (K + 1) := Nat.lt_of_lt_of_le hh (Nat.pow_le_pow_right (by decide) (by omega))
    rw [fl_take _ hU3, fl_succ, fl_succ, dig_high hh, dig_high hh2, List.append_assoc]; rfl
  have happ := fun (env : Env) => app_part (H := H) hH (n0 := H.length) (env := env) (L := []) (len := K) (c := la.length + 1) (X := fl (la.length + 1) (dig (val la * 2 ^ n))) (l := [0, 0]) (o := none) (lid_ge H 0) (by rw [fl_len]; exact hU3) (by simp; omega) (by rw [fl_len]; simp; omega)
  have w2 : IntKind.wrap .i64 ((la.length : Int) + 1) = ((la.length + 1 : Nat) : Int) := by rw [wrap_i64] <;> omega
  have hslc : slcV (hap H [some ⟨1, u32s (fl (K + 2) (dig (val la * 2 ^ n)))⟩]) 1 (.mu (lid H 0) 0 (K + 2) none) none (some (.int .i64 ((la.length + 1 : Nat) : Int))) none = some (.mu (lid H 0) 0 (la.length + 1) none) := by
    simp only [slcV, hrow_hap, List.getElem?_cons_zero, Option.join_some, Option.bind_some, boundV]
    rw [if_pos ⟨trivial, by omega, by omega, by omega⟩]
    simp
  simp only [u32s_cons, u32s_nil, Int.natCast_zero, List.length_cons, List.length_nil, hrow] at happ
  simp only [hap_hap, lid_hap, List.nil_append, List.length_nil, hia, E3, seval]
  simp only [happ, w2, hslc, E3, seval]
  have hle : lb.length ≤ la.length := by
    rcases Nat.lt_or_ge la.length lb.length with h | h
    · exfalso
      have h2 := val_lt hna.lim
      have h3 : LB ^ la.length ≤ LB ^ (lb.length - 1) := Nat.pow_le_pow_right (by decide) (by omega)
      omega
    · exact h
  have w3 : IntKind.wrap .i64 ((la.length : Int) - (lb.length : Int)) = ((la.length - lb.length : Nat) : Int) := by rw [wrap_i64] <;> omega
  generalize hm : la.length - lb.length = m at *
  have w4 : IntKind.wrap .i64 ((m : Int) + 1) = ((m + 1 : Nat) : Int) := by rw [wrap_i64] <;> omega
  refine Safe.rg rfl ?_
  simp only [nat_Div_r12, w3, w4, mksl_fl (H := H) (L := [some ⟨1, u32s (fl (K + 2) (dig (val la * 2 ^ n)))⟩]) (n := m + 1) (by omega), E3, seval]
  refine Safe.rg rfl ?_
  simp only [nat_Div_r13, w3, E3, seval]
  have hUV : val la * 2 ^ n < val lb * 2 ^ n * LB ^ (m + 1) := by
    rw [Nat.mul_right_comm]
    refine Nat.mul_lt_mul_of_pos_right ?_ hp2
    have h1 := val_lt hna.lim
    have h2 : LB ^ (lb.length - 1) * LB ^ (m + 1) ≤ val lb * LB ^ (m + 1) := Nat.mul_le_mul_right _ hBl
    rw [← Nat.pow_add, show lb.length - 1 + (m + 1) = la.length by omega] at h2
    omega
  generalize hU : val la * 2 ^ n = U at *
  generalize hV : val lb * 2 ^ n = V at *
  have hvt : 0 < (limbs V).getD (lb.length - 1) 0 := by
    have := last_pos (limbs_last V) (by omega)
    rwa [hnv] at this
  refine Safe.lp rfl ?_
  refine Safe.keep [0, 1, 9, 10, 11, 12, 13] ?_
  simp only [E3, seval]
  refine Safe.loopD (m + 1) (fun i => [(0, natV la), (1, natV lb), (9, .int .i64 n), (10, natV (limbs V)), (11, .mu (lid H 0) 0 (la.length + 1) none), (12, .mu (lid H 1) 0 (m + 1) (some (m + 1))), (13, .int .i64 ((i : Int) - 1))])
    (fun i => hap H [some ⟨1, u32s (fl (K + 2) (dig (U % (V * LB ^ i))))⟩, some ⟨1, u32s (fl (m + 1) fun j => if i ≤ j then dig (U / V) j else 0)⟩]) ?_ ?_ (fun i hi ih => ?_) ?_
  · have : (((m + 1 : Nat) : Int) - 1) = (m : Int) := by omega
    rw [this]
  · rw [digs_zero, Nat.mod_eq_of_lt hUV]
  · have e1 : ((i + 1 : Nat) : Int) - 1 = (i : Int) := by omega
    rw [e1]
    obtain ⟨s1, s2, s3, s4⟩ := rest_step (U := U) (V := V) (i := i) (nv := lb.length) hVl hVp
    refine Safe.inLoop ?_
    refine Safe.rg rfl ?_
    simp only [nat_Div_r14, Int.natCast_nonneg i, E3, seval]
    refine Safe.cd rfl ?_
    simp only [E3, seval]
    have w5 : IntKind.wrap .i64 ((i : Int) + (lb.length : Int)) = ((i + lb.length : Nat) : Int) := by rw [wrap_i64] <;> omega
    have w6 : IntKind.wrap .i64 (((i + lb.length : Nat) : Int) + 1) = ((i + lb.length + 1 : Nat) : Int) := by rw [wrap_i64] <;> omega
    refine Safe.rg rfl ?_
    simp only [nat_Div_r15, hnv, w5, w6, slc_lohi (H := H) (i := 0) (L := [some ⟨1, u32s (fl (K + 2) (dig (U % (V * LB ^ (i + 1)))))⟩, some ⟨1, u32s (fl (m + 1) fun j => if i + 1 ≤ j then dig (U / V) j else 0)⟩]) rfl rfl none .i64 .i64 (show i + lb.length + 1 = i + (lb.length + 1) by omega) (show i + lb.length + 1 ≤ la.length + 1 by omega), E3, seval]
    have hcall := digit_calls (H := hap H [some ⟨1, u32s (fl (K + 2) (dig (U % (V * LB ^ (i + 1)))))⟩, some ⟨1, u32s (fl (m + 1) fun j => if i + 1 ≤ j then dig (U / V) j else 0)⟩]) (id := lid H 0) (off := i) (N := K + 2) (n := lb.length) (oc := none) (v := limbs V) (f := dig (U % (V * LB ^ (i + 1))))
      (hap_get rfl) (lim_limbs V) hnv hb1 hvt (by omega) (by omega) (fun j _ => dig_lt _ _) s3 (by rw [val_limbs]; exact s4)
    refine ACalls.mono hcall ?_
    rintro r' H' ⟨rfl, rfl⟩
    rw [val_limbs, s2, fl_congr fun j _ => s1 j]
    simp only [set_hap, List.set_cons_zero, fidx1 (show i < m + 1 by omega), fst1 (show i < m + 1 by omega), digs_step, E3, seval]
    refine Safe.inBlock ?_
    refine Safe.rg rfl ?_
    simp only [nat_Div_r16, wrap_i64 (n := (i : Int) - 1) (by omega) (by omega), E3, seval]
    refine Safe.keep [0, 1, 9, 10, 11, 12, 13] ?_
    simp only [E3, seval]
    exact ih
  · refine Safe.inLoop ?_
    refine Safe.rg rfl ?_
    simp only [nat_Div_r14, show (0 ≤ ((0 : Nat) : Int) - 1) = False by simp, E3, seval]
    refine Safe.cd rfl ?_
    simp only [E3, seval]
    have hR0 : U % (V * LB ^ 0) = U % V := by rw [Nat.pow_zero, Nat.mul_one]
    rw [hR0]
    refine Safe.freeze 0 hH rfl rfl (blk_u32 _) ?_
    refine Safe.keep [9, 11, 12] ?_
    simp only [frz_part (H := H) (i := 0) none (show la.length + 1 ≤ (fl (K + 2) (dig (U % V))).length by rw [fl_len]; omega), frz_mu_other, E3, seval]
    refine Safe.freeze 1 hH rfl rfl (blk_u32 _) ?_
    refine Safe.keep [9, 11, 12] ?_
    simp only [frz_fl, E3, seval]
    rw [digs_all, fl_take _ (show la.length + 1 ≤ K + 2 by omega)]
    have hUm : U % V < LB ^ (la.length + 1) := Nat.lt_of_le_of_lt (Nat.mod_le _ _) hU2
    have hUd : U / V < LB ^ (m + 1) := by rw [Nat.div_lt_iff_lt_mul hVp, Nat.mul_comm]; exact hUV
    refine Safe.rg rfl ?_
    simp only [nat_Div_r17, E3, seval]
    first | refine (trim_pure _ (lim_dig (U / V) (m + 1)) (by rw [fl_len]; omega)).acall ?_ | refine (trim_pure _ (lim_dig (U / V) (m + 1)) (by rw [fl_len]; omega)).dcall ?_
    try simp only [E3, seval]
    first | refine (trim_pure _ (lim_dig (U % V) (la.length + 1)) (by rw [fl_len]; omega)).acall ?_ | refine (trim_pure _ (lim_dig (U % V) (la.length + 1)) (by rw [fl_len]; omega)).dcall ?_
    try simp only [E3, seval]
    rw [val_fl_all hUm, val_fl_all hUd]
    first | refine (shr_pure (limbs (U % V)) n ⟨lim_limbs _, Nat.le_trans (limbs_len_le hUm) (by omega)⟩ hn32).acall ?_ | refine (shr_pure (limbs (U % V)) n ⟨lim_limbs _, Nat.le_trans (limbs_len_le hUm) (by omega)⟩ hn32).dcall ?_
    try simp only [E3, seval]
    refine Safe.rt rfl ?_
    simp only [E3, seval]
    rw [val_limbs, ← hU, ← hV, Nat.mul_mod_mul_right, Nat.mul_div_cancel _ hp2, Nat.mul_div_mul_right _ _ hp2]
    exact ⟨Le.refl _, _, rfl⟩
end Go.Abs
set_option linter.unusedVariables false
set_option linter.unusedSimpArgs false
namespace Go.Abs
theorem sgn_quo {n m : Bool} {A B : Nat} {q : Int} (hB : B ≠ 0) (h : sgn n A = sgn m B * q) : A % B = 0 ∧ sgn (!(n == m)) (A / B) = q := by
  have hA : A = B * q.natAbs := by
    have := congrArg Int.natAbs h
    rwa [sgn_abs, Int.natAbs_mul, sgn_abs] at this
  refine ⟨by rw [hA]; exact Nat.mul_mod_right _ _, ?_⟩
  have hne : sgn m B ≠ 0 := by cases m <;> simp [sgn] <;> omega
  refine Int.eq_of_mul_eq_mul_left hne ?_
  rw [← h, sgn_mul]
  have hC : B * (A / B) = A := by rw [hA, Nat.mul_div_cancel_left _ (Nat.pos_of_ne_zero hB)]
  rw [hC]
  cases n <;> cases m <;> rfl
theorem zfloor_exact (x y : ZI) (k : Nat) (hx : Zok k x) (hy : Zok k y) (hk : k < 17592186044000) (q : Int) (hy0 : y.z ≠ 0) (hq : x.z = y.z * q) : PureC Pr F_zint_Floor [x.av, y.av] (.tup [Z q, Z 0, .int .i64 0]) := by
  obtain ⟨n, a⟩ := x
  obtain ⟨m, b⟩ := y
  have hal := hx.len
  have hbl := hy.len
  simp only at hal hbl
  have ha : Nt a := ⟨hx.lim, by omega⟩
  have hb : Nt b := ⟨hy.lim, by omega⟩
  simp only [ZI.av, ZI.z] at *
  have hb0 : val b ≠ 0 := by
    intro h; rw [h, sgn_zero] at hy0; exact hy0 rfl
  obtain ⟨hr, hqq⟩ := sgn_quo hb0 hq
  have hnt : ∀ v, v ≤ val a → Nt (limbs v) := fun v hv => ⟨lim_limbs _, Nat.le_trans (limbs_len_le (Nat.lt_of_le_of_lt hv (val_lt ha.lim))) ha.len⟩
  refine PureC.intro zint_Floor_fn zint_Floor_ok (Nat.le_of_ble_eq_true rfl) (cl_tup3 (Z_cl _) (Z_cl _) (.int _ _)) fun H hH => ?_
  refine Safe.rg rfl ?_
  simp only [zint_Floor_r0, E3, seval]
  refine Safe.rg rfl ?_
  simp only [zint_Floor_r1, E3, seval]
  first | refine (natdiv_pure a b ha hb (by omega) (by omega) hb0).acall ?_ | refine (natdiv_pure a b ha hb (by omega) (by omega) hb0).dcall ?_
  try simp only [E3, seval]
  refine Safe.rg rfl ?_
  simp only [zint_Floor_r2, E3, seval]
  refine Safe.cd rfl ?_
  simp only [E3, seval]
  refine Safe.rx rfl (by simp only [sdOk_cons, sdOk_nil, locNe_loc, E3, seval]) ?_
  simp only [zint_Floor_r4, zint_Floor_r4a, zint_Floor_r4b, E3, seval]
  refine (made_pure (!(n == m)) _ (hnt _ (Nat.div_le_self _ _))).dcall ?_
  rw [val_limbs, hqq]
  simp only [E3, seval]
  refine (made_pure n _ (hnt _ (Nat.mod_le _ _))).dcall ?_
  rw [val_limbs, hr, sgn_zero]
  simp only [E3, seval]
  refine ⟨?_, ?_⟩
  all_goals
    refine Safe.rg rfl ?_
    simp only [zint_Floor_r5, E3, seval]
    refine (zsign_pure (canZ 0) (zok_can (k := 1) (by decide) |>.mono (by omega))).dcall ?_
    rw [canZ_z]
    simp only [Int.sign_zero, E3, seval]
    refine Safe.cd rfl ?_
    simp only [E3, seval]
    refine Safe.rx rfl (by simp only [sdOk_cons, sdOk_nil, locNe_loc, E3, seval]) ?_
    simp only [zint_Floor_r7, zint_Floor_r7a, zint_Floor_r7b, E3, seval]
    refine Safe.rt rfl ?_
    simp only [E3, seval]
    exact ⟨rfl, _, rfl⟩
end Go.Abs
set_option linter.unusedVariables false
set_option linter.unusedSimpArgs false
namespace Go.Abs
theorem wrap_mulLB {x : Nat} (h : x < LB) : IntKind.wrap .u64 ((x : Int) * 4294967296) = ((x * LB : Nat) : Int) := wrap_mul64 (x := x) (y := LB) (by
  have : LB = 4294967296 := rfl
  have : x * LB ≤ 4294967295 * LB := Nat.mul_le_mul_right _ (by omega)
  omega)
theorem small_pure (a : List Nat) (d : Nat) (ha : Nt a) (hd : 0 < d) (hd2 : d < LB) : PureC Pr F_ref01_small [natV a, .int .u64 d] (.tup [natV (limbs (val a / d)), .int .u64 (val a % d : Nat)]) := by
  have hLB : LB = 4294967296 := rfl
  have hlen := ha.len
  have hv := val_lt ha.lim
  refine PureC.intro ref01_small_fn ref01_small_ok (Nat.le_of_ble_eq_true rfl) (cl_tup2 (natV_cl _) (.int _ _)) fun H hH => ?_
  refine Safe.rg rfl ?_
  simp only [ref01_small_r0, E3, seval]
  refine Safe.rg rfl ?_
  simp only [ref01_small_r1, mksl_fl (H := H) (L := []) (n := a.length) (by omega), E3, seval]
  refine Safe.rg rfl ?_
  simp only [ref01_small_r2, E3, seval]
  refine Safe.rg rfl ?_
  simp only [ref01_small_r3, wrap_i64 (n := (a.length : Int) - 1) (by omega) (by omega), E3, seval]
  refine Safe.lp rfl ?_
  refine Safe.keep [0, 1, 6, 7, 8] ?_
  simp only [E3, seval]
  refine Safe.loopD a.length (fun i => [(0, natV a), (1, .int .u64 d), (6, .mu (lid H 0) 0 a.length (some a.length)), (7, .int .u64 (val a / LB ^ i % d : Nat)), (8, .int .i64 ((i : Int) - 1))])
    (fun i => hap H [some ⟨1, u32s (fl a.length fun j => if i ≤ j then dig (val a / d) j else 0)⟩]) ?_ ?_ (fun i hi ih => ?_) ?_
  · rw [Nat.div_eq_of_lt hv]; rfl
  · rw [digs_zero]
  · have e1 : ((i + 1 : Nat) : Int) - 1 = (i : Int) := by omega
    rw [e1]
    refine Safe.inLoop ?_
    refine Safe.rg rfl ?_
    simp only [ref01_small_r4, Int.natCast_nonneg i, E3, seval]
    refine Safe.cd rfl ?_
    simp only [E3, seval]
    have hr : val a / LB ^ (i + 1) % d < LB := Nat.lt_trans (Nat.mod_lt _ hd) hd2
    have hai : a.getD i 0 < LB := getD_lt ha.lim i
    have hb : val a / LB ^ (i + 1) % d * LB + a.getD i 0 < 18446744073709551616 := by
      have : val a / LB ^ (i + 1) % d * LB ≤ 4294967295 * LB := Nat.mul_le_mul_right _ (by omega)
      omega
    have hmul := wrap_mulLB hr
    refine Safe.rg rfl ?_
    simp only [ref01_small_r5, natV_idx _ a _ i hi, hmul, wrap64 (x := a.getD i 0) (by omega), wrap_add64 hb, E3, seval]
    rw [← dig_val ha.lim i] at hb ⊢
    have hs := short_mod (val a) d i
    have hq := short_div (val a) d i
    refine Safe.rg rfl ?_
    simp only [ref01_small_r6, quo_nat hd hb, hq, wrap32 (dig_lt _ _), fidx0 hi, fst0 hi, E3, seval]
    refine Safe.rg rfl ?_
    simp only [ref01_small_r7, rem_nat hd, hs, E3, seval]
    refine Safe.rg rfl ?_
    simp only [ref01_small_r8, wrap_i64 (n := (i : Int) - 1) (by omega) (by omega), E3, seval]
    refine Safe.keep [0, 1, 6, 7, 8] ?_
    simp only [E3, seval]
    rw [digs_step]
    exact ih
  · refine Safe.inLoop ?_
    refine Safe.rg rfl ?_
    simp only [ref01_small_r4, show (0 ≤ ((0 : Nat) : Int) - 1) = False by simp, E3, seval]
    refine Safe.cd rfl ?_
    simp only [E3, seval]
    refine Safe.freeze 0 hH rfl rfl (blk_u32 _) ?_
    refine Safe.keep [6, 7] ?_
    simp only [frz_fl, E3, seval]
    rw [digs_all]
    have hr : val a % d < LB := Nat.lt_trans (Nat.mod_lt _ hd) hd2
    refine Safe.rg rfl ?_
    simp only [ref01_small_r9, E3, seval]
    first | refine (refnorm_pure _ ⟨lim_dig _ _, by rw [fl_len]; exact hlen⟩).acall ?_ | refine (refnorm_pure _ ⟨lim_dig _ _, by rw [fl_len]; exact hlen⟩).dcall ?_
    try simp only [E3, seval]
    simp only [val_fl_all (div_lt_pow hv (d := d)), Nat.pow_zero, Nat.div_one, E3, seval]
    refine Safe.rt rfl ?_
    simp only [E3, seval]
    first | exact ⟨rfl, _, rfl⟩ | exact ⟨_, rfl⟩ | exact ⟨trivial, _, rfl⟩
theorem two_pure (n : Nat) (hn : n < 32) : PureC Pr F_ref01_Two [.int .i64 n] (natV [2 ^ n]) := by
  have hLB : LB = 4294967296 := rfl
  have h2n : 2 ^ n < LB := by
    have : 2 ^ n ≤ 2 ^ 31 := Nat.pow_le_pow_right (by decide) (by omega)
    have : (2 : Nat) ^ 31 < LB := by decide
    omega
  refine PureC.intro ref01_Two_fn ref01_Two_ok (Nat.le_of_ble_eq_true rfl) (natV_cl _) fun H hH => ?_
  have hq : binV .quo (.int .i64 (n : Int)) (.int .i64 32) = some (.int .i64 0) := by
    have := quo_i (x := n) (y := 32) (by decide) (by omega)
    rw [Nat.div_eq_of_lt hn] at this; exact this
  have hr : binV .rem (.int .i64 (n : Int)) (.int .i64 32) = some (.int .i64 (n : Int)) := by
    have := rem_i (x := n) (y := 32) (by decide)
    rw [Nat.mod_eq_of_lt hn] at this; exact this
  refine Safe.rg rfl ?_
  simp only [ref01_Two_r0, E3, seval]
  refine Safe.rg rfl ?_
  simp only [ref01_Two_r1, E3, seval]
  refine Safe.rg rfl ?_
  simp only [ref01_Two_r2, E3, seval]
  refine Safe.lp rfl ?_
  refine Safe.inLoop ?_
  refine Safe.rg rfl ?_
  simp only [ref01_Two_r3, hq, Int.lt_irrefl, E3, seval]
  refine Safe.cd rfl ?_
  simp only [E3, seval]
  have hs : shBin .shl .u32 1 (n : Int) = some (.int .u32 ((2 ^ n : Nat) : Int)) := by
    rw [shBin_shl _ _ _ (by omega)]
    have hm : min (Int.toNat (n : Int)) IntKind.u32.bits = n := by
      show min n 32 = n
      omega
    rw [hm]
    have : (1 : Int) * 2 ^ n = ((2 ^ n : Nat) : Int) := by simp
    rw [this, wrap32 h2n]
  refine Safe.rg rfl ?_
  simp only [ref01_Two_r6, hr, wrap64 (x := n) (by omega), hs, natV_one, app_nil_nat _ _ H [] [2 ^ n] (by simp), E3, seval]
  refine Safe.freeze 0 hH rfl rfl (blk_u32 _) ?_
  refine Safe.keep [2] ?_
  simp only [show frz (lid H 0) ⟨1, u32s [2 ^ n]⟩ (.mu (lid H 0) 0 1 none) = natV [2 ^ n] from frz_mu_nat H 0 [2 ^ n] none, E3, seval]
  refine Safe.rt rfl ?_
  simp only [E3, seval]
  first | exact ⟨rfl, _, rfl⟩ | exact ⟨_, rfl⟩ | exact ⟨trivial, _, rfl⟩
theorem rshr_pure (a : List Nat) (n : Nat) (ha : Nt a) (hn : n < 32) : PureC Pr F_ref01_Shr [natV a, .int .i64 n] (.tup [natV (limbs (val a / 2 ^ n)), .int .i64 0]) := by
  have hLB : LB = 4294967296 := rfl
  have hal := ha.len
  have hq : binV .quo (.int .i64 (n : Int)) (.int .i64 32) = some (.int .i64 0) := by
    have := quo_i (x := n) (y := 32) (by decide) (by omega)
    rw [Nat.div_eq_of_lt hn] at this; exact this
  have hr : binV .rem (.int .i64 (n : Int)) (.int .i64 32) = some (.int .i64 (n : Int)) := by
    have := rem_i (x := n) (y := 32) (by decide)
    rw [Nat.mod_eq_of_lt hn] at this; exact this
  refine PureC.introL ref01_Shr_fn ref01_Shr_ok (Nat.le_of_ble_eq_true rfl) (cl_tup2 (natV_cl _) (.int _ _)) fun H hH => ?_
  refine Safe.rg rfl ?_
  simp only [ref01_Shr_r0, E3, seval]
  refine Safe.rg rfl ?_
  simp only [ref01_Shr_r1, show ((n : Int) < 0) = False from eq_false (by omega), E3, seval]
  refine Safe.cd rfl ?_
  simp only [E3, seval]
  refine Safe.rg rfl ?_
  simp only [ref01_Shr_r3, E3, seval]
  refine (refbits_pure a ha).acall ?_
  by_cases hb : blen (val a) ≤ n
  · have hc : (((blen (val a) : Nat) : Int) ≤ (n : Int)) = True := eq_true (by omega)
    simp only [hc, E3, seval]
    refine Safe.cd rfl ?_
    simp only [E3, seval]
    refine Safe.rg rfl ?_
    simp only [ref01_Shr_r4, E3, seval]
    refine Safe.rt rfl ?_
    simp only [E3, seval]
    have h0 : val a / 2 ^ n = 0 := by
      rw [Nat.div_eq_of_lt]
      have := blen_lt (val a)
      have h2 : 2 ^ blen (val a) ≤ 2 ^ n := Nat.pow_le_pow_right (by decide) hb
      omega
    rw [h0, limbs_zero]
    exact ⟨Le.tup2 (Le.nil 1 (by decide)) (Le.refl _), _, rfl⟩
  have hc : (((blen (val a) : Nat) : Int) ≤ (n : Int)) = False := eq_false (by omega)
  simp only [hc, E3, seval]
  refine Safe.cd rfl ?_
  simp only [E3, seval]
  refine Safe.rg rfl ?_
  simp only [ref01_Shr_r5, E3, seval]
  refine Safe.nilrow 6 1 (by decide) (by simp only [E3, seval]) ?_
  refine Safe.rg rfl ?_
  simp only [ref01_Shr_r6, hq, E3, seval]
  refine Safe.lp rfl ?_
  refine Safe.keep [0, 1, 6, 7] ?_
  simp only [E3, seval]
  refine Safe.loopN a.length (fun i => [(0, natV a), (1, .int .i64 n), (6, .mu (lid H 0) 0 (fl i (dig (val a / 2 ^ n))).length none), (7, .int .i64 i)]) (fun i => hap H [some ⟨1, u32s (fl i (dig (val a / 2 ^ n)))⟩]) rfl rfl (fun i hi ih => ?_) ?_
  · have hlt : ((i : Int) < (a.length : Int)) = True := eq_true (by omega)
    have hai := getD_lt ha.lim i
    have hai1 := getD_lt ha.lim (i + 1)
    have w4 : IntKind.wrap .i64 ((i : Int) + 1) = ((i + 1 : Nat) : Int) := by rw [wrap_i64] <;> omega
    refine Safe.inLoop ?_
    refine Safe.rg rfl ?_
    simp only [ref01_Shr_r7, hlt, E3, seval]
    refine Safe.cd rfl ?_
    simp only [E3, seval]
    have hmx : a.getD (i + 1) 0 * LB ≤ 4294967295 * LB := Nat.mul_le_mul_right _ (by omega)
    have hmul : IntKind.wrap .u64 (((a.getD (i + 1) 0 : Nat) : Int) * 4294967296) = ((a.getD (i + 1) 0 * LB : Nat) : Int) := wrap_mul64 (x := a.getD (i + 1) 0) (y := LB) (by omega)
    have hadd : IntKind.wrap .u64 (((a.getD i 0 : Nat) : Int) + ((a.getD (i + 1) 0 * LB : Nat) : Int)) = ((a.getD (i + 1) 0 * LB + a.getD i 0 : Nat) : Int) := by
      rw [wrap_add64 (by omega), Nat.add_comm]
    refine Safe.rg rfl ?_
    simp only [ref01_Shr_r8, E3, seval]
    first | refine (limb_pure a i ha.lim hal).acall ?_ | refine (limb_pure a i ha.lim hal).dcall ?_
    try simp only [E3, seval]
    simp only [w4, E3, seval]
    first | refine (limb_pure a (i + 1) ha.lim hal).acall ?_ | refine (limb_pure a (i + 1) ha.lim hal).dcall ?_
    try simp only [E3, seval]
    simp only [hmul, hadd, E3, seval]
    have hstep := shr_step ha.lim i hn
    have hrem := rem_lb ((a.getD (i + 1) 0 * LB + a.getD i 0) / 2 ^ n)
    rw [hstep] at hrem
    refine Safe.rg rfl ?_
    simp only [ref01_Shr_r9, hr, wrap64 (x := n) (by omega), shr64 (show n ≤ 64 by omega), hrem, wrap32 (dig_lt (val a / 2 ^ n) i), one_app H hH _ (lid_ge H 0) _ (fl i (dig (val a / 2 ^ n))) (dig (val a / 2 ^ n) i) (by rw [fl_len]; omega), E3, seval]
    refine Safe.rg rfl ?_
    simp only [ref01_Shr_r10, w4, E3, seval]
    refine Safe.keep [0, 1, 6, 7] ?_
    simp only [E3, seval]
    rw [← fl_succ]
    have e : (fl i (dig (val a / 2 ^ n))).length + 1 = (fl (i + 1) (dig (val a / 2 ^ n))).length := by rw [fl_len, fl_len]
    rw [e]
    exact ih
  · refine Safe.inLoop ?_
    refine Safe.rg rfl ?_
    simp only [ref01_Shr_r7, Int.lt_irrefl, E3, seval]
    refine Safe.cd rfl ?_
    simp only [E3, seval]
    refine Safe.freeze 0 hH rfl rfl (blk_u32 _) ?_
    refine Safe.keep [6] ?_
    simp only [E3, seval]
    refine Safe.rg rfl ?_
    simp only [ref01_Shr_r11, E3, seval]
    first | refine (refnorm_pure _ ⟨lim_dig _ _, by rw [fl_len]; exact hal⟩).acall ?_ | refine (refnorm_pure _ ⟨lim_dig _ _, by rw [fl_len]; exact hal⟩).dcall ?_
    try simp only [E3, seval]
    simp only [val_fl_all (div_lt_pow (val_lt ha.lim) (d := 2 ^ n)), E3, seval]
    refine Safe.rt rfl ?_
    simp only [E3, seval]
    exact ⟨Le.refl _, _, rfl⟩
end Go.Abs
set_option linter.unusedVariables false
set_option linter.unusedSimpArgs false
namespace Go.Abs
theorem app_lit {H : Heap} (hH : HRefs H) {n0 : Nat} {env : Env} {L : Heap} {i d c : Nat} {l : List Nat} (hn : n0 ≤ lid H i) (hl : L[i]? = some (some ⟨1, [.int .u32 (d : Int)]⟩)) (hL : Aside H L i) (hc : 0 < l.length → c < 1 + l.length) (hb : l.length ≤ 17592186044416) :
    appV n0 1 4 false (.mu (lid H i) 0 1 (some c)) (natV l) env (hap H L) = some (.mu (lid H i) 0 (1 + l.length) (capAfter (some c) (1 + l.length)), scrub (lid H i) env, hap H (L.set i (some ⟨1, u32s (d :: l)⟩))) := by
  have hf : free (hap H L) (lid H i) = true := free_hap hH hL
  simp only [appV, natV_src, Option.bind_some, hrow_hap, hl, Option.join_some, set_hap]
  rw [if_neg, if_pos]
  · simp [u32s_len, u32s_cons]
  · simp only [u32s_len, true_and]
    refine ⟨Nat.le_refl _, hn, hf, ?_, ?_, by omega, by omega⟩
    · exact List.all_eq_true.2 fun a ha => nref_cl (u32s_clf ha)
    · simp [AV.cells, nref_int]
  · simp only [u32s_len, Option.any_some]
    rintro ⟨_, _, _, _, h1, h2⟩
    have := hc h1
    simp at h2
    omega
theorem val_cons (d : Nat) (l : List Nat) : val (d :: l) = d + LB * val l := rfl
theorem val_cons_limbs (d n : Nat) : val (d :: limbs n) = n * LB + d := by
  rw [val_cons, val_limbs, Nat.mul_comm, Nat.add_comm]
theorem nt_cons {d : Nat} {l : List Nat} {n : Nat} (hd : d < LB) (hl : Lim l) (h : l.length ≤ n) (hn : n < 17592186044000) : Nt (d :: l) :=
  ⟨lim_cons.2 ⟨hd, hl⟩, by rw [List.length_cons]; omega⟩
theorem frz_litrow (H : Heap) (i d : Nat) (l : List Nat) (oc : Option Nat) : [AV.mu (lid H i) 0 (1 + l.length) oc].map (frz (lid H i) ⟨1, u32s (d :: l)⟩) = [natV (d :: l)] := by
  rw [Nat.add_comm]
  exact congrArg (fun x => [x]) (frz_mu_nat H i (d :: l) oc)
theorem cmpI_gt (a b : Nat) : (cmpI a b > 0) = (b < a) := by
  unfold cmpI; split
  · simp; omega
  · split <;> simp <;> omega
theorem getD_limbs (S i : Nat) : (limbs S).getD i 0 = dig S i := by
  rw [← dig_val (lim_limbs S), val_limbs]
theorem refdiv_pure (a b : List Nat) (ha : Nt a) (hb : Nt b) (hal : a.length < 17592186044000) (hbl : b.length < 17592186044000) (hb0 : val b ≠ 0) : PureC Pr F_ref01_Div [natV a, natV b] (.tup [natV (limbs (val a / val b)), natV (limbs (val a % val b)), .int .i64 0]) := by
  have hLB : LB = 4294967296 := rfl
  have hnb := hb.limbs
  have hlbl : (limbs (val b)).length < 17592186044000 := Nat.lt_of_le_of_lt (limbs_val_len hb.lim) hbl
  have hvb := val_limbs (val b)
  have hlastb := limbs_last (val b)
  have hib := limbs_idem (val b)
  refine PureC.intro ref01_Div_fn ref01_Div_ok (Nat.le_of_ble_eq_true rfl) (cl_tup3 (natV_cl _) (natV_cl _) (.int _ _)) fun H hH => ?_
  refine Safe.rg rfl ?_
  simp only [ref01_Div_r0, E3, seval]
  refine Safe.rg rfl ?_
  simp only [ref01_Div_r1, E3, seval]
  first | refine (refnorm_pure b hb).acall ?_ | refine (refnorm_pure b hb).dcall ?_
  try simp only [E3, seval]
  generalize limbs (val b) = lb at *
  generalize val b = B at *
  subst hvb
  have hb1 : 0 < lb.length := by
    rcases Nat.eq_zero_or_pos lb.length with h | h
    · exfalso; have := List.length_eq_zero_iff.1 h; subst this; exact hb0 rfl
    · exact h
  have hB : 0 < val lb := Nat.pos_of_ne_zero hb0
  refine Safe.rg rfl ?_
  simp only [ref01_Div_r2, show (((lb.length : Nat) : Int) = 0) = False from eq_false (by omega), E3, seval]
  refine Safe.cd rfl ?_
  simp only [E3, seval]
  have htb := last_pos hlastb hb1
  have hdl := getD_lt hnb.lim (lb.length - 1)
  by_cases hone : lb.length = 1
  · have h1 : (((lb.length : Nat) : Int) = 1) = True := eq_true (by omega)
    refine Safe.rg rfl ?_
    simp only [ref01_Div_r4, h1, E3, seval]
    refine Safe.cd rfl ?_
    simp only [E3, seval]
    have hvb1 : val lb = lb.getD 0 0 := by
      have := val_drop_succ lb 0
      rw [List.drop_zero, List.drop_eq_nil_of_le (by omega)] at this
      simpa [val] using this
    have i0 := natV_idx (hap H []) lb .i64 0 hb1
    rw [Int.natCast_zero] at i0
    have hd0 : 0 < lb.getD 0 0 := by rw [← hvb1]; exact hB
    have hd1 : lb.getD 0 0 < LB := getD_lt hnb.lim 0
    refine Safe.rg rfl ?_
    simp only [ref01_Div_r5, i0, wrap64 (x := lb.getD 0 0) (by omega), E3, seval]
    first | refine (small_pure a (lb.getD 0 0) ha hd0 hd1).acall ?_ | refine (small_pure a (lb.getD 0 0) ha hd0 hd1).dcall ?_
    try simp only [E3, seval]
    have hrl : val a % lb.getD 0 0 < LB := Nat.lt_trans (Nat.mod_lt _ hd0) hd1
    refine Safe.rg rfl ?_
    simp only [ref01_Div_r6, wrap32 hrl, natV_one, E3, seval]
    first | refine (refnorm_pure [val a % lb.getD 0 0] ⟨by intro d hd; simp at hd; subst hd; exact hrl, by simp⟩).acall ?_ | refine (refnorm_pure [val a % lb.getD 0 0] ⟨by intro d hd; simp at hd; subst hd; exact hrl, by simp⟩).dcall ?_
    try simp only [E3, seval]
    refine Safe.rt rfl ?_
    simp only [hvb1, limbs_one, E3, seval]
    first | exact ⟨rfl, _, rfl⟩ | exact ⟨_, rfl⟩ | exact ⟨trivial, _, rfl⟩
  have h1 : (((lb.length : Nat) : Int) = 1) = False := eq_false (by omega)
  refine Safe.rg rfl ?_
  simp only [ref01_Div_r4, h1, E3, seval]
  refine Safe.cd rfl ?_
  simp only [E3, seval]
  obtain ⟨hVl, hBl⟩ := norm_len hnb.lim hb1 htb
  have hblen : blen (val lb) = 32 * (lb.length - 1) + blen (lb.getD (lb.length - 1) 0) := by
    have hs : lb = lb.take (lb.length - 1) ++ [lb.getD (lb.length - 1) 0] := by
      rw [← take_snoc (by omega), show lb.length - 1 + 1 = lb.length by omega, List.take_length]
    have := blen_limbs (hnb.lim.take (lb.length - 1)) (show lb.getD (lb.length - 1) 0 ≠ 0 by omega)
    rw [← hs, List.length_take, Nat.min_eq_left (by omega)] at this
    exact this
  have hb32 := blen_le32 hdl
  have hbp : 0 < blen (lb.getD (lb.length - 1) 0) := by unfold blen; rw [if_neg (by omega)]; omega
  generalize hn : 32 - blen (lb.getD (lb.length - 1) 0) = n at *
  have hn32 : n < 32 := by omega
  have hp2 : 0 < 2 ^ n := Nat.pow_pos (by decide)
  have h2n : 2 ^ n < LB := by
    have : 2 ^ n ≤ 2 ^ 31 := Nat.pow_le_pow_right (by decide) (by omega)
    have : (2 : Nat) ^ 31 < LB := by decide
    omega
  have w1 : IntKind.wrap .i64 (32 * ((lb.length : Nat) : Int)) = ((32 * lb.length : Nat) : Int) := by rw [wrap_i64] <;> omega
  have w2 : IntKind.wrap .i64 (((32 * lb.length : Nat) : Int) - ((blen (val lb) : Nat) : Int)) = (n : Int) := by rw [wrap_i64] <;> omega
  refine Safe.rg rfl ?_
  simp only [ref01_Div_r7, w1, E3, seval]
  first | refine (refbits_pure lb hnb).acall ?_ | refine (refbits_pure lb hnb).dcall ?_
  try simp only [E3, seval]
  simp only [w2, E3, seval]
  first | refine (two_pure n hn32).acall ?_ | refine (two_pure n hn32).dcall ?_
  try simp only [E3, seval]
  have hn1 : Nt [2 ^ n] := ⟨by intro d hd; simp at hd; omega, by simp⟩
  refine Safe.rg rfl ?_
  simp only [ref01_Div_r8, E3, seval]
  first | refine (refmul_pure a [2 ^ n] ha hn1 (by simp; omega)).acall ?_ | refine (refmul_pure a [2 ^ n] ha hn1 (by simp; omega)).dcall ?_
  try simp only [E3, seval]
  refine Safe.rg rfl ?_
  simp only [ref01_Div_r9, E3, seval]
  first | refine (refmul_pure lb [2 ^ n] hnb hn1 (by simp; omega)).acall ?_ | refine (refmul_pure lb [2 ^ n] hnb hn1 (by simp; omega)).dcall ?_
  try simp only [E3, seval]
  simp only [limbs_one]
  have hU2 : val a * 2 ^ n < LB ^ (a.length + 1) := by
    rw [Nat.pow_succ]
    exact Nat.lt_of_lt_of_le (Nat.mul_lt_mul_of_pos_right (val_lt ha.lim) hp2) (Nat.mul_le_mul_left _ (by omega))
  have hVp : 0 < val lb * 2 ^ n := Nat.mul_pos hB hp2
  have hnv1 : (limbs (val lb * 2 ^ n)).length ≤ lb.length := limbs_len_le hVl
  have hnv2 : lb.length ≤ (limbs (val lb * 2 ^ n)).length := by
    rcases Nat.lt_or_ge (limbs (val lb * 2 ^ n)).length lb.length with h | h
    · exfalso
      have h2 := val_lt (lim_limbs (val lb * 2 ^ n))
      rw [val_limbs] at h2
      have h3 : LB ^ (limbs (val lb * 2 ^ n)).length ≤ LB ^ (lb.length - 1) := Nat.pow_le_pow_right (by decide) (by omega)
      have h4 : val lb * 1 ≤ val lb * 2 ^ n := Nat.mul_le_mul_left _ hp2
      omega
    · exact h
  have hnv : (limbs (val lb * 2 ^ n)).length = lb.length := by omega
  have hUV1 : val a * 2 ^ n / (val lb * 2 ^ n) = val a / val lb := Nat.mul_div_mul_right _ _ hp2
  have hUV2 : val a * 2 ^ n % (val lb * 2 ^ n) / 2 ^ n = val a % val lb := by rw [Nat.mul_mod_mul_right, Nat.mul_div_cancel _ hp2]
  have hK1 : (limbs (val a * 2 ^ n)).length ≤ a.length + 1 := limbs_len_le hU2
  generalize hU : val a * 2 ^ n = U at *
  generalize hV : val lb * 2 ^ n = V at *
  have hvt : 0 < (limbs V).getD (lb.length - 1) 0 := by
    have := last_pos (limbs_last V) (by omega)
    rwa [hnv] at this
  have hUl : U < LB ^ (limbs U).length := by have := val_lt (lim_limbs U); rwa [val_limbs] at this
  generalize hK : (limbs U).length = K at *
  have hVl' : V < LB ^ lb.length := hVl
  refine Safe.rg rfl ?_
  simp only [ref01_Div_r10, hK, mksl_fl (H := H) (L := []) (n := K) (by omega), E3, seval]
  refine Safe.rg rfl ?_
  simp only [ref01_Div_r11, E3, seval]
  refine Safe.nilsl 14 1 (by decide) (by simp only [E3, seval]) ?_
  refine Safe.rg rfl ?_
  simp only [ref01_Div_r12, hK, wrap_i64 (n := (K : Int) - 1) (by omega) (by omega), E3, seval]
  refine Safe.lp rfl ?_
  refine Safe.keep [7, 11, 12, 13, 14, 15] ?_
  simp only [E3, seval]
  refine Safe.loopD K (fun i => [(7, natV lb), (11, natV (limbs U)), (12, natV (limbs V)), (13, .mu (lid H 0) 0 K (some K)), (14, natV (limbs (U / LB ^ i % V))), (15, .int .i64 ((i : Int) - 1))])
    (fun i => hap H [some ⟨1, u32s (fl K fun j => if i ≤ j then dig (U / V) j else 0)⟩]) ?_ ?_ (fun i hi ih => ?_) ?_
  · rw [Nat.div_eq_of_lt hUl, Nat.zero_mod, limbs_zero]; rfl
  · rw [digs_zero]
  · have e1 : ((i + 1 : Nat) : Int) - 1 = (i : Int) := by omega
    rw [e1]
    refine Safe.inLoop ?_
    refine Safe.rg rfl ?_
    simp only [ref01_Div_r13, Int.natCast_nonneg i, E3, seval]
    refine Safe.cd rfl ?_
    simp only [E3, seval]
    have hmod := Nat.mod_lt (U / LB ^ (i + 1)) hVp
    have hSm := short_mod U V i
    have hSd := short_div U V i
    have hiU : i < (limbs U).length := by omega
    have hdi := dig_lt U i
    have hdU : (limbs U).getD i 0 = dig U i := getD_limbs U i
    have hml : (limbs (U / LB ^ (i + 1) % V)).length ≤ lb.length := limbs_len_le (Nat.lt_trans hmod hVl)
    generalize U / LB ^ (i + 1) % V = R0 at *
    generalize U / LB ^ i % V = R1 at *
    generalize dig U i = d at *
    have hstep := digs_step (n := K) (i := i) (U / V)
    generalize dig (U / V) i = q at *
    generalize (fl K fun j => if i ≤ j then dig (U / V) j else 0) = Q1 at *
    generalize hQ0 : (fl K fun j => if i + 1 ≤ j then dig (U / V) j else 0) = Q0 at *
    have hapx := fun (env : Env) => app_lit (H := H) hH (n0 := H.length) (env := env) (L := [some ⟨1, u32s Q0⟩, some ⟨1, [.int .u32 (d : Int)]⟩]) (i := 1) (d := d) (c := 1) (l := limbs R0) (lid_ge H 1) rfl
      (by intro j b hb a ha
          match j with
          | 0 => simp at hb; subst hb; exact (u32s_clf ha).ref
          | 1 => simp at hb; subst hb; simp [Blk.flat, AV.cells] at ha; subst ha; exact .int _ _
          | j + 2 => simp at hb) (by omega) (by omega)
    refine Safe.rg rfl ?_
    simp only [ref01_Div_r14, natV_idx _ (limbs U) _ i hiU, hdU, E3, seval]
    rw [hapx]
    simp only [List.set_cons_succ, List.set_cons_zero, E3, seval]
    have hnt : Nt (d :: limbs R0) := nt_cons hdi (lim_limbs _) hml hlbl
    have hnc := refnorm_pure (d :: limbs R0) hnt
    rw [val_cons_limbs] at hnc
    refine PureC.consumeL (r := natV (limbs (R0 * LB + d))) hH 1 rfl (blk_u32 _) (by rw [frz_litrow]; exact hnc) ?_
    simp only [frzL_cons, frzL_nil, List.set_cons_succ, List.set_cons_zero, E3, seval]
    have hSl : R0 * LB + d < LB * V := by
      have : (R0 + 1) * LB ≤ V * LB := Nat.mul_le_mul_right _ hmod
      rw [Nat.add_mul, Nat.one_mul] at this
      rw [Nat.mul_comm LB V]; omega
    generalize R0 * LB + d = S at *
    refine Safe.keep [7, 11, 12, 13, 14, 15] ?_
    simp only [E3, seval]
    refine Safe.drop1 hH rfl (by simp only [List.all_cons, List.all_nil, E3, seval]) (by repeat (first | exact RC.nil | refine RC.none ?_ | refine RC.row ZI.cl ?_ | refine RC.cons (blk_u32 _) ?_ | refine RC.row vecV_cl ?_ | refine RC.emp ?_ | refine RC.zero ?_ | refine RC.one (Z_cl _) ?_ | refine RC.one (ZI.cl _) ?_ | refine RC.one (vecV_cl _) ?_)) ?_
    have hSn : S < LB ^ (lb.length + 1) := by
      have : LB * V ≤ LB * LB ^ lb.length := Nat.mul_le_mul_left _ (Nat.le_of_lt hVl)
      rw [Nat.pow_succ']; omega
    have hSlen : (limbs S).length ≤ lb.length + 1 := limbs_len_le hSn
    have hntS : Nt (limbs S) := ⟨lim_limbs S, by omega⟩
    have hntV : Nt (limbs V) := ⟨lim_limbs V, by omega⟩
    refine Safe.rg rfl ?_
    simp only [ref01_Div_r15, E3, seval]
    refine (refcmp_pure (limbs S) (limbs V) hntS hntV).acall ?_
    rw [val_limbs, val_limbs]
    have w3 : IntKind.wrap .i64 ((i : Int) - 1) = (i : Int) - 1 := wrap_i64 (n := (i : Int) - 1) (by omega) (by omega)
    by_cases hSV : S < V
    · have hcm : (cmpI S V < 0) = True := by rw [cmpI_lt]; exact eq_true hSV
      simp only [hcm, E3, seval]
      refine Safe.cd rfl ?_
      simp only [E3, seval]
      refine Safe.rg rfl ?_
      simp only [ref01_Div_r25, w3, E3, seval]
      refine Safe.keep [7, 11, 12, 13, 14, 15] ?_
      simp only [E3, seval]
      have hS1 : R1 = S := by rw [← hSm, Nat.mod_eq_of_lt hSV]
      have hq0 : q = 0 := by rw [← hSd, Nat.div_eq_of_lt hSV]
      have hQ : Q0 = Q1 := by
        rw [← hQ0, ← hstep]
        refine fl_congr fun j _ => ?_
        by_cases hj : j = i
        · subst hj; rw [if_pos rfl, if_neg (by omega), hq0]
        · rw [if_neg hj]
      rw [hQ, ← hS1]
      exact ih
    have hcm : (cmpI S V < 0) = False := by rw [cmpI_lt]; exact eq_false hSV
    simp only [hcm, E3, seval]
    refine Safe.cd rfl ?_
    simp only [E3, seval]
    have main : ∀ G, S / V ≤ G → G < LB → Safe ⟨Pr, fun _ k => k == 4, F_ref01_Div, 132, [.tmp 4, .tmp 5, .tmp 6], H.length⟩
        [.code ((ACode.region ref01_Div_r19 false).seq ((ACode.block 2 ref01_Div_l1.loop).seq ((ACode.region ref01_Div_r23 false).seq (ACode.region ref01_Div_r24 false)))),
          .inBlock 1, .code (.region ref01_Div_r25 false), .inLoop ref01_Div_l0, .inBlock 0, .code ((ACode.region ref01_Div_r26 false).seq ((ACode.region ref01_Div_r27 false).seq .ret))]
        [(7, natV lb), (11, natV (limbs U)), (12, natV (limbs V)), (13, .mu (lid H 0) 0 K (some K)), (14, natV (limbs S)), (15, .int .i64 i), (16, .int .u64 G)]
        (hap H [some ⟨1, u32s Q0⟩]) fun r' H' => r' = .tup [natV (limbs (val a / val lb)), natV (limbs (val a % val lb)), .int .i64 0] ∧ ∃ L, H' = hap H L := by
      intro G hG1 hG2
      refine Safe.rg rfl ?_
      simp only [ref01_Div_r19, wrap32 hG2, natV_one, E3, seval]
      have hnG : Nt [G] := ⟨by intro d hd; simp at hd; omega, by simp⟩
      first | refine (refmul_pure (limbs V) [G] hntV hnG (by simp; omega)).acall ?_ | refine (refmul_pure (limbs V) [G] hntV hnG (by simp; omega)).dcall ?_
      try simp only [E3, seval]
      rw [val_limbs, limbs_one]
      refine Safe.lp rfl ?_
      refine Safe.keep [7, 11, 12, 13, 14, 15, 16, 17] ?_
      simp only [E3, seval]
      refine Safe.loopW (α := Nat) (fun g => g) (fun g => [(7, natV lb), (11, natV (limbs U)), (12, natV (limbs V)), (13, .mu (lid H 0) 0 K (some K)), (14, natV (limbs S)), (15, .int .i64 i), (16, .int .u64 g), (17, natV (limbs (V * g)))])
        (fun _ => hap H [some ⟨1, u32s Q0⟩]) (fun g => S / V ≤ g ∧ g < LB) G rfl rfl ⟨hG1, hG2⟩ fun g ⟨hg1, hg2⟩ ihg => ?_
      have hVg : V * g < LB ^ (lb.length + 1) := by
        have h1 : V * g ≤ V * LB := Nat.mul_le_mul_left _ (Nat.le_of_lt hg2)
        have h2 : V * LB < LB ^ lb.length * LB := Nat.mul_lt_mul_of_pos_right hVl (by decide)
        rw [Nat.pow_succ]; omega
      have hVgl : (limbs (V * g)).length ≤ lb.length + 1 := limbs_len_le hVg
      have hntg : Nt (limbs (V * g)) := ⟨lim_limbs _, by omega⟩
      refine Safe.inLoop ?_
      refine Safe.rg rfl ?_
      simp only [ref01_Div_r20, E3, seval]
      refine (refcmp_pure (limbs (V * g)) (limbs S) hntg hntS).acall ?_
      rw [val_limbs, val_limbs]
      by_cases hlt : S < V * g
      · have hcm : (cmpI (V * g) S > 0) = True := by rw [cmpI_gt]; exact eq_true hlt
        simp only [hcm, E3, seval]
        refine Safe.cd rfl ?_
        simp only [E3, seval]
        have hgq : S / V < g := by rw [Nat.div_lt_iff_lt_mul hVp, Nat.mul_comm]; exact hlt
        have w4 : IntKind.wrap .u64 ((g : Int) - 1) = ((g - 1 : Nat) : Int) := by rw [wrap_u64] <;> omega
        have hVV : V ≤ V * g := Nat.le_mul_of_pos_right _ (by omega)
        refine Safe.rg rfl ?_
        simp only [ref01_Div_r21, w4, E3, seval]
        refine Safe.rg rfl ?_
        simp only [ref01_Div_r22, E3, seval]
        first | refine (refless_pure (limbs (V * g)) (limbs V) (lim_limbs _) (lim_limbs _) hntg.len hntV.len (by rw [val_limbs, val_limbs]; exact hVV)).acall ?_ | refine (refless_pure (limbs (V * g)) (limbs V) (lim_limbs _) (lim_limbs _) hntg.len hntV.len (by rw [val_limbs, val_limbs]; exact hVV)).dcall ?_
        try simp only [E3, seval]
        rw [val_limbs, val_limbs, show V * g - V = V * (g - 1) by rw [Nat.mul_sub, Nat.mul_one]]
        refine Safe.keep [7, 11, 12, 13, 14, 15, 16, 17] ?_
        simp only [E3, seval]
        refine Safe.inBlock ?_
        exact ihg (g - 1) ⟨by omega, by omega⟩ (by omega)
      · have hcm : (cmpI (V * g) S > 0) = False := by rw [cmpI_gt]; exact eq_false hlt
        simp only [hcm, E3, seval]
        refine Safe.cd rfl ?_
        simp only [E3, seval]
        have hgq : g = q := by
          have : g ≤ S / V := by rw [Nat.le_div_iff_mul_le hVp, Nat.mul_comm]; omega
          omega
        subst hgq
        rw [← hQ0]
        refine Safe.rg rfl ?_
        simp only [ref01_Div_r23, wrap32 hg2, fidx0 hi, fst0 hi, E3, seval]
        have hSr : S - V * g = R1 := by
          rw [← hSm, ← hSd]
          have := Nat.div_add_mod S V
          omega
        refine Safe.rg rfl ?_
        simp only [ref01_Div_r24, E3, seval]
        first | refine (refless_pure (limbs S) (limbs (V * g)) (lim_limbs _) (lim_limbs _) hntS.len hntg.len (by rw [val_limbs, val_limbs]; omega)).acall ?_ | refine (refless_pure (limbs S) (limbs (V * g)) (lim_limbs _) (lim_limbs _) hntS.len hntg.len (by rw [val_limbs, val_limbs]; omega)).dcall ?_
        try simp only [E3, seval]
        rw [val_limbs, val_limbs, hSr]
        refine Safe.rg rfl ?_
        simp only [ref01_Div_r25, w3, E3, seval]
        refine Safe.keep [7, 11, 12, 13, 14, 15] ?_
        simp only [E3, seval]
        rw [hstep]
        exact ih
    have hguess := guess_ge (u := fl (lb.length + 1) (dig S)) (v := limbs V) (n := lb.length) (lim_dig _ _) (lim_limbs V) (fl_len _ _) hnv hb1 (by rw [val_limbs]; exact hVp) (by rw [val_limbs, val_fl_all hSn]; exact hSl) hvt
    rw [val_fl_all hSn, val_limbs, fl_get (by omega), fl_get (by omega)] at hguess
    have hg1 := Nat.le_trans hguess (Nat.min_le_left _ _)
    have hg2 : S / V ≤ 4294967295 := Nat.le_trans hguess (Nat.min_le_right _ _)
    clear hguess
    have hx1 := dig_lt S lb.length
    have hx2 := dig_lt S (lb.length - 1)
    have w5 : IntKind.wrap .i64 ((lb.length : Int) - 1) = ((lb.length - 1 : Nat) : Int) := by rw [wrap_i64] <;> omega
    refine Safe.rg rfl ?_
    simp only [ref01_Div_r16, hnv, E3, seval]
    first | refine (limb_pure (limbs S) lb.length (lim_limbs S) hntS.len).acall ?_ | refine (limb_pure (limbs S) lb.length (lim_limbs S) hntS.len).dcall ?_
    try simp only [E3, seval]
    rw [getD_limbs]
    simp only [wrap_mulLB hx1, hnv, w5, E3, seval]
    first | refine (limb_pure (limbs S) (lb.length - 1) (lim_limbs S) hntS.len).acall ?_ | refine (limb_pure (limbs S) (lb.length - 1) (lim_limbs S) hntS.len).dcall ?_
    try simp only [E3, seval]
    rw [getD_limbs]
    generalize dig S lb.length = x at *
    generalize dig S (lb.length - 1) = y at *
    have hxy : x * LB + y < 18446744073709551616 := by
      have : x * LB ≤ 4294967295 * LB := Nat.mul_le_mul_right _ (by omega)
      omega
    simp only [wrap_add64 hxy, hnv, w5, E3, seval]
    first | refine (limb_pure (limbs V) (lb.length - 1) (lim_limbs V) hntV.len).acall ?_ | refine (limb_pure (limbs V) (lb.length - 1) (lim_limbs V) hntV.len).dcall ?_
    try simp only [E3, seval]
    generalize (limbs V).getD (lb.length - 1) 0 = z at *
    simp only [quo_nat hvt hxy, E3, seval]
    by_cases hge : LB ≤ (x * LB + y) / z
    · have hc : ((((x * LB + y) / z : Nat) : Int) ≥ 4294967296) = True := eq_true (by omega)
      refine Safe.rg rfl ?_
      simp only [ref01_Div_r17, hc, E3, seval]
      refine Safe.cd rfl ?_
      simp only [E3, seval]
      refine Safe.rg rfl ?_
      simp only [ref01_Div_r18, E3, seval]
      refine Safe.keep [7, 11, 12, 13, 14, 15, 16] ?_
      simp only [E3, seval]
      exact main 4294967295 hg2 (by decide)
    · have hc : ((((x * LB + y) / z : Nat) : Int) ≥ 4294967296) = False := eq_false (by omega)
      refine Safe.rg rfl ?_
      simp only [ref01_Div_r17, hc, E3, seval]
      refine Safe.cd rfl ?_
      simp only [E3, seval]
      refine Safe.keep [7, 11, 12, 13, 14, 15, 16] ?_
      simp only [E3, seval]
      refine Safe.skip ?_
      exact main _ hg1 (Nat.lt_of_not_le hge)
  · refine Safe.inLoop ?_
    refine Safe.rg rfl ?_
    simp only [ref01_Div_r13, show (0 ≤ ((0 : Nat) : Int) - 1) = False by simp, E3, seval]
    refine Safe.cd rfl ?_
    simp only [E3, seval]
    rw [Nat.pow_zero, Nat.div_one]
    refine Safe.freeze 0 hH rfl rfl (blk_u32 _) ?_
    refine Safe.keep [7, 13, 14] ?_
    simp only [frz_fl, E3, seval]
    rw [digs_all]
    have hUm : U % V < LB ^ lb.length := Nat.lt_trans (Nat.mod_lt _ hVp) hVl
    refine Safe.rg rfl ?_
    simp only [ref01_Div_r26, w1, E3, seval]
    first | refine (refbits_pure lb hnb).acall ?_ | refine (refbits_pure lb hnb).dcall ?_
    try simp only [E3, seval]
    simp only [w2, E3, seval]
    first | refine (rshr_pure (limbs (U % V)) n ⟨lim_limbs _, Nat.le_trans (limbs_len_le hUm) (by omega)⟩ hn32).acall ?_ | refine (rshr_pure (limbs (U % V)) n ⟨lim_limbs _, Nat.le_trans (limbs_len_le hUm) (by omega)⟩ hn32).dcall ?_
    try simp only [E3, seval]
    rw [val_limbs, hUV2]
    have hUd : U / V < LB ^ K := Nat.lt_of_le_of_lt (Nat.div_le_self _ _) hUl
    refine Safe.rg rfl ?_
    simp only [ref01_Div_r27, E3, seval]
    first | refine (refnorm_pure (fl K (dig (U / V))) ⟨lim_dig _ _, by rw [fl_len]; omega⟩).acall ?_ | refine (refnorm_pure (fl K (dig (U / V))) ⟨lim_dig _ _, by rw [fl_len]; omega⟩).dcall ?_
    try simp only [E3, seval]
    rw [val_fl_all hUd, hUV1]
    refine Safe.rt rfl ?_
    simp only [E3, seval]
    first | exact ⟨rfl, _, rfl⟩ | exact ⟨_, rfl⟩ | exact ⟨trivial, _, rfl⟩
end Go.Abs
set_option linter.unusedVariables false
set_option linter.unusedSimpArgs false
namespace Go.Abs
theorem len_pos_limbs {n : Nat} : (((limbs n).length : Nat) : Int) > 0 ↔ n ≠ 0 := by
  have := limbs_len_zero n
  omega
theorem natgcd_pure (a b : List Nat) (ha : Nt a) (hb : Nt b) (hal : a.length < 17592186044000) (hbl : b.length < 17592186044000) : PureC Pr F_nat_Gcd [natV a, natV b] (natV (limbs (Nat.gcd (val a) (val b)))) := by
  have hva : (limbs (val a)).length < 17592186044000 := Nat.lt_of_le_of_lt (limbs_val_len ha.lim) hal
  have hvb : (limbs (val b)).length < 17592186044000 := Nat.lt_of_le_of_lt (limbs_val_len hb.lim) hbl
  refine PureC.intro nat_Gcd_fn nat_Gcd_ok (Nat.le_of_ble_eq_true rfl) (natV_cl _) fun H hH => ?_
  refine Safe.rg rfl ?_
  simp only [nat_Gcd_r0, E3, seval]
  refine Safe.rg rfl ?_
  simp only [nat_Gcd_r1, E3, seval]
  first | refine (norm_pure a ha).acall ?_ | refine (norm_pure a ha).dcall ?_
  try simp only [E3, seval]
  first | refine (norm_pure b hb).acall ?_ | refine (norm_pure b hb).dcall ?_
  try simp only [E3, seval]
  refine Safe.lp rfl ?_
  refine Safe.keep [5, 6] ?_
  simp only [E3, seval]
  refine Safe.loopW (α := Nat × Nat) (fun p => p.2) (fun p => [(5, natV (limbs p.1)), (6, natV (limbs p.2))]) (fun _ => hap H [])
    (fun p => Nat.gcd p.1 p.2 = Nat.gcd (val a) (val b) ∧ (limbs p.1).length < 17592186044000 ∧ (limbs p.2).length < 17592186044000) (val a, val b) rfl rfl ⟨rfl, hva, hvb⟩ ?_
  rintro ⟨x, y⟩ ⟨hg, hx, hy⟩ ih
  simp only at hg hx hy ih ⊢
  refine Safe.inLoop ?_
  by_cases h0 : y = 0
  · subst h0
    refine Safe.rg rfl ?_
    simp only [nat_Gcd_r2, limbs_zero, show ((([] : List Nat).length : Nat) : Int) > 0 ↔ False by simp, E3, seval]
    refine Safe.cd rfl ?_
    simp only [E3, seval]
    refine Safe.rg rfl ?_
    simp only [nat_Gcd_r5, E3, seval]
    rw [Nat.gcd_zero_right] at hg
    refine Safe.rt rfl ?_
    simp only [hg, E3, seval]
    first | exact ⟨rfl, _, rfl⟩ | exact ⟨_, rfl⟩ | exact ⟨trivial, _, rfl⟩
  · have hc : ((((limbs y).length : Nat) : Int) > 0) = True := eq_true (len_pos_limbs.2 h0)
    refine Safe.rg rfl ?_
    simp only [nat_Gcd_r2, hc, E3, seval]
    refine Safe.cd rfl ?_
    simp only [E3, seval]
    refine Safe.rg rfl ?_
    simp only [nat_Gcd_r3, E3, seval]
    first | refine (natdiv_pure (limbs x) (limbs y) ⟨lim_limbs _, by omega⟩ ⟨lim_limbs _, by omega⟩ hx hy (by rw [val_limbs]; exact h0)).acall ?_ | refine (natdiv_pure (limbs x) (limbs y) ⟨lim_limbs _, by omega⟩ ⟨lim_limbs _, by omega⟩ hx hy (by rw [val_limbs]; exact h0)).dcall ?_
    try simp only [E3, seval]
    rw [val_limbs, val_limbs]
    have hm : x % y < y := Nat.mod_lt _ (Nat.pos_of_ne_zero h0)
    refine Safe.rg rfl ?_
    simp only [nat_Gcd_r4, E3, seval]
    refine Safe.keep [5, 6] ?_
    simp only [E3, seval]
    refine Safe.inBlock ?_
    refine ih (y, x % y) ⟨?_, hy, ?_⟩ hm
    · rw [← hg, Nat.gcd_comm x y, Nat.gcd_rec y x, Nat.gcd_comm]
    · have h1 := val_lt (lim_limbs y)
      rw [val_limbs] at h1
      exact Nat.lt_of_le_of_lt (limbs_len_le (Nat.lt_trans hm h1)) hy
theorem refgcd_pure (a b : List Nat) (ha : Nt a) (hb : Nt b) (hal : a.length < 17592186044000) (hbl : b.length < 17592186044000) : PureC Pr F_ref01_Gcd [natV a, natV b] (natV (limbs (Nat.gcd (val a) (val b)))) := by
  have hva : (limbs (val a)).length < 17592186044000 := Nat.lt_of_le_of_lt (limbs_val_len ha.lim) hal
  have hvb : (limbs (val b)).length < 17592186044000 := Nat.lt_of_le_of_lt (limbs_val_len hb.lim) hbl
  refine PureC.intro ref01_Gcd_fn ref01_Gcd_ok (Nat.le_of_ble_eq_true rfl) (natV_cl _) fun H hH => ?_
  refine Safe.rg rfl ?_
  simp only [ref01_Gcd_r0, E3, seval]
  refine Safe.rg rfl ?_
  simp only [ref01_Gcd_r1, E3, seval]
  first | refine (refnorm_pure a ha).acall ?_ | refine (refnorm_pure a ha).dcall ?_
  try simp only [E3, seval]
  refine Safe.rg rfl ?_
  simp only [ref01_Gcd_r2, E3, seval]
  first | refine (refnorm_pure b hb).acall ?_ | refine (refnorm_pure b hb).dcall ?_
  try simp only [E3, seval]
  refine Safe.lp rfl ?_
  refine Safe.keep [5, 6] ?_
  simp only [E3, seval]
  refine Safe.loopW (α := Nat × Nat) (fun p => p.2) (fun p => [(5, natV (limbs p.1)), (6, natV (limbs p.2))]) (fun _ => hap H [])
    (fun p => Nat.gcd p.1 p.2 = Nat.gcd (val a) (val b) ∧ (limbs p.1).length < 17592186044000 ∧ (limbs p.2).length < 17592186044000) (val a, val b) rfl rfl ⟨rfl, hva, hvb⟩ ?_
  rintro ⟨x, y⟩ ⟨hg, hx, hy⟩ ih
  simp only at hg hx hy ih ⊢
  refine Safe.inLoop ?_
  by_cases h0 : y = 0
  · subst h0
    refine Safe.rg rfl ?_
    simp only [ref01_Gcd_r3, limbs_zero, show ((([] : List Nat).length : Nat) : Int) > 0 ↔ False by simp, E3, seval]
    refine Safe.cd rfl ?_
    simp only [E3, seval]
    refine Safe.rg rfl ?_
    simp only [ref01_Gcd_r7, E3, seval]
    rw [Nat.gcd_zero_right] at hg
    refine Safe.rt rfl ?_
    simp only [hg, E3, seval]
    first | exact ⟨rfl, _, rfl⟩ | exact ⟨_, rfl⟩ | exact ⟨trivial, _, rfl⟩
  · have hc : ((((limbs y).length : Nat) : Int) > 0) = True := eq_true (len_pos_limbs.2 h0)
    refine Safe.rg rfl ?_
    simp only [ref01_Gcd_r3, hc, E3, seval]
    refine Safe.cd rfl ?_
    simp only [E3, seval]
    refine Safe.rg rfl ?_
    simp only [ref01_Gcd_r4, E3, seval]
    first | refine (refdiv_pure (limbs x) (limbs y) ⟨lim_limbs _, by omega⟩ ⟨lim_limbs _, by omega⟩ hx hy (by rw [val_limbs]; exact h0)).acall ?_ | refine (refdiv_pure (limbs x) (limbs y) ⟨lim_limbs _, by omega⟩ ⟨lim_limbs _, by omega⟩ hx hy (by rw [val_limbs]; exact h0)).dcall ?_
    try simp only [E3, seval]
    rw [val_limbs, val_limbs]
    have hm : x % y < y := Nat.mod_lt _ (Nat.pos_of_ne_zero h0)
    refine Safe.rg rfl ?_
    simp only [ref01_Gcd_r5, E3, seval]
    refine Safe.rg rfl ?_
    simp only [ref01_Gcd_r6, E3, seval]
    refine Safe.keep [5, 6] ?_
    simp only [E3, seval]
    refine Safe.inBlock ?_
    refine ih (y, x % y) ⟨?_, hy, ?_⟩ hm
    · rw [← hg, Nat.gcd_comm x y, Nat.gcd_rec y x, Nat.gcd_comm]
    · have h1 := val_lt (lim_limbs y)
      rw [val_limbs] at h1
      exact Nat.lt_of_le_of_lt (limbs_len_le (Nat.lt_trans hm h1)) hy
theorem gcd_lt {a b M : Nat} (ha : a < M) (hb : b < M) : Nat.gcd a b < M := by
  rcases Nat.eq_zero_or_pos a with h | h
  · subst h; rw [Nat.gcd_zero_left]; exact hb
  · exact Nat.lt_of_le_of_lt (Nat.gcd_le_left _ h) ha
section
variable (x y : ZI) (k : Nat) (hx : Zok k x) (hy : Zok k y) (hk : k < 17592186044000)
include hx hy hk
theorem zgcd_pure : PureC Pr F_zint_Gcd [x.av, y.av] (Z (Int.gcd x.z y.z)) := by
  obtain ⟨n, a⟩ := x
  obtain ⟨m, b⟩ := y
  have hal := hx.len
  have hbl := hy.len
  have hav := hx.lt
  have hbv := hy.lt
  simp only at hal hbl hav hbv
  have ha : Nt a := ⟨hx.lim, by omega⟩
  have hb : Nt b := ⟨hy.lim, by omega⟩
  simp only [ZI.av, ZI.z, Int.gcd, sgn_abs]
  refine PureC.intro zint_Gcd_fn zint_Gcd_ok (Nat.le_of_ble_eq_true rfl) (Z_cl _) fun H hH => ?_
  refine Safe.rg rfl ?_
  simp only [zint_Gcd_r0, E3, seval]
  refine Safe.rg rfl ?_
  simp only [zint_Gcd_r1, E3, seval]
  first | refine (natgcd_pure a b ha hb (by omega) (by omega)).acall ?_ | refine (natgcd_pure a b ha hb (by omega) (by omega)).dcall ?_
  try simp only [E3, seval]
  have hg : Nt (limbs (Nat.gcd (val a) (val b))) := ⟨lim_limbs _, Nat.le_trans (limbs_len_le (gcd_lt hav hbv)) (by omega)⟩
  first | refine (made_pure false _ hg).acall ?_ | refine (made_pure false _ hg).dcall ?_
  try simp only [E3, seval]
  rw [val_limbs]
  refine Safe.rt rfl ?_
  simp only [show sgn false (Nat.gcd (val a) (val b)) = ((Nat.gcd (val a) (val b) : Nat) : Int) from rfl, E3, seval]
  first | exact ⟨rfl, _, rfl⟩ | exact ⟨_, rfl⟩ | exact ⟨trivial, _, rfl⟩
theorem r2gcd_pure : PureC Pr F_ref02_Gcd [x.av, y.av] (Z (Int.gcd x.z y.z)) := by
  obtain ⟨n, a⟩ := x
  obtain ⟨m, b⟩ := y
  have hal := hx.len
  have hbl := hy.len
  have hav := hx.lt
  have hbv := hy.lt
  simp only at hal hbl hav hbv
  have ha : Nt a := ⟨hx.lim, by omega⟩
  have hb : Nt b := ⟨hy.lim, by omega⟩
  simp only [ZI.av, ZI.z, Int.gcd, sgn_abs]
  refine PureC.intro ref02_Gcd_fn ref02_Gcd_ok (Nat.le_of_ble_eq_true rfl) (Z_cl _) fun H hH => ?_
  refine Safe.rg rfl ?_
  simp only [ref02_Gcd_r0, E3, seval]
  refine Safe.rg rfl ?_
  simp only [ref02_Gcd_r1, E3, seval]
  first | refine (refgcd_pure a b ha hb (by omega) (by omega)).acall ?_ | refine (refgcd_pure a b ha hb (by omega) (by omega)).dcall ?_
  try simp only [E3, seval]
  have hg : Nt (limbs (Nat.gcd (val a) (val b))) := ⟨lim_limbs _, Nat.le_trans (limbs_len_le (gcd_lt hav hbv)) (by omega)⟩
  first | refine (refmade_pure false _ hg).acall ?_ | refine (refmade_pure false _ hg).dcall ?_
  try simp only [E3, seval]
  rw [val_limbs]
  refine Safe.rt rfl ?_
  simp only [show sgn false (Nat.gcd (val a) (val b)) = ((Nat.gcd (val a) (val b) : Nat) : Int) from rfl, E3, seval]
  first | exact ⟨rfl, _, rfl⟩ | exact ⟨_, rfl⟩ | exact ⟨trivial, _, rfl⟩
end
/-- Toward nought. -/
theorem trunc_eq (n m : Bool) (A B : Nat) : sgn n (A % B) + sgn m B * sgn (!(n == m)) (A / B) = sgn n A := by
  rw [sgn_mul]
  have e : sgn (!(m == !(n == m))) (B * (A / B)) = sgn n (B * (A / B)) := by cases n <;> cases m <;> rfl
  rw [e, sgn_add, Nat.mod_add_div]
theorem floor_same {n m : Bool} {A B : Nat} (hB : B ≠ 0) (h : A % B = 0 ∨ n = m) : (sgn n A).fdiv (sgn m B) = sgn (!(n == m)) (A / B) ∧ (sgn n A).fmod (sgn m B) = sgn n (A % B) := by
  have hr := Nat.mod_lt A (Nat.pos_of_ne_zero hB)
  have ht := trunc_eq n m A B
  cases m
  · have hb : (0 : Int) < sgn false B := by simp [sgn]; omega
    refine (Int.fdiv_fmod_unique hb).2 ⟨ht, ?_, ?_⟩
    · rcases h with h | h
      · rw [h, sgn_zero]; exact Int.le_refl _
      · subst h; simp [sgn]
        exact Int.natCast_nonneg _
    · rcases h with h | h
      · rw [h, sgn_zero]; exact hb
      · subst h; simp only [sgn, Bool.false_eq_true, if_false]; omega
  · have hb : sgn true B < 0 := by simp [sgn]; omega
    refine (Int.fdiv_fmod_unique' hb).2 ⟨ht, ?_, ?_⟩
    · rcases h with h | h
      · rw [h, sgn_zero]; exact hb
      · subst h; simp only [sgn, if_true]; omega
    · rcases h with h | h
      · rw [h, sgn_zero]; exact Int.le_refl _
      · subst h; simp only [sgn, if_true]; omega
theorem floor_other {n m : Bool} {A B : Nat} (hB : B ≠ 0) (h0 : A % B ≠ 0) (h : n ≠ m) : (sgn n A).fdiv (sgn m B) = sgn (!(n == m)) (A / B) - 1 ∧ (sgn n A).fmod (sgn m B) = sgn n (A % B) + sgn m B := by
  have hr := Nat.mod_lt A (Nat.pos_of_ne_zero hB)
  have ht := trunc_eq n m A B
  have ht' : sgn n (A % B) + sgn m B + sgn m B * (sgn (!(n == m)) (A / B) - 1) = sgn n A := by rw [Int.mul_sub, Int.mul_one]; omega
  cases m
  · have hn : n = true := by cases n <;> simp_all
    subst hn
    have hb : (0 : Int) < sgn false B := by simp [sgn]; omega
    refine (Int.fdiv_fmod_unique hb).2 ⟨ht', ?_, ?_⟩ <;> simp only [sgn, if_true, Bool.false_eq_true, if_false] <;> omega
  · have hn : n = false := by cases n <;> simp_all
    subst hn
    have hb : sgn true B < 0 := by simp [sgn]; omega
    refine (Int.fdiv_fmod_unique' hb).2 ⟨ht', ?_, ?_⟩ <;> simp only [sgn, if_true, Bool.false_eq_true, if_false] <;> omega
theorem sgn_lt {n : Bool} {A M : Nat} (h : A < M) : (sgn n A).natAbs < M := by rw [sgn_abs]; exact h
theorem lb_one (k : Nat) : (1 : Int).natAbs < LB ^ (k + 1) := Nat.one_lt_pow (Nat.succ_ne_zero k) (by decide)
theorem r2floor_pure (x y : ZI) (k : Nat) (hx : Zok k x) (hy : Zok k y) (hk : k + k < 17592186044000) (hy0 : y.z ≠ 0) : PureC Pr F_ref02_Floor [x.av, y.av] (.tup [Z (x.z.fdiv y.z), Z (x.z.fmod y.z)]) := by
  obtain ⟨n, a⟩ := x
  obtain ⟨m, b⟩ := y
  have hal := hx.len
  have hbl := hy.len
  have hav := hx.lt
  have hbv := hy.lt
  simp only at hal hbl hav hbv
  have ha : Nt a := ⟨hx.lim, by omega⟩
  have hb : Nt b := ⟨hy.lim, by omega⟩
  have hzb := hy
  have hza := hx
  have habs := hy.abs
  simp only [ZI.av, ZI.z] at hy0 habs ⊢
  have hb0 : val b ≠ 0 := by
    intro h; rw [h, sgn_zero] at hy0; exact hy0 rfl
  have hq := Nat.lt_of_le_of_lt (Nat.div_le_self (val a) (val b)) hav
  have hr := Nat.lt_of_le_of_lt (Nat.mod_le (val a) (val b)) hav
  have hnt : ∀ v, v < LB ^ k → Nt (limbs v) := fun v hv => ⟨lim_limbs _, Nat.le_trans (limbs_len_le hv) (by omega)⟩
  have hsame := @floor_same n m (val a) (val b) hb0
  have hother := @floor_other n m (val a) (val b) hb0
  have htr := trunc_eq n m (val a) (val b)
  refine PureC.intro ref02_Floor_fn ref02_Floor_ok (Nat.le_of_ble_eq_true rfl) (cl_tup2 (Z_cl _) (Z_cl _)) fun H hH => ?_
  refine Safe.rg rfl ?_
  simp only [ref02_Floor_r0, E3, seval]
  refine Safe.rg rfl ?_
  simp only [ref02_Floor_r1, E3, seval]
  first | refine (refdiv_pure a b ha hb (by omega) (by omega) hb0).acall ?_ | refine (refdiv_pure a b ha hb (by omega) (by omega) hb0).dcall ?_
  try simp only [E3, seval]
  refine Safe.rg rfl ?_
  simp only [ref02_Floor_r2, E3, seval]
  first | refine (refmade_pure (!(n == m)) _ (hnt _ hq)).acall ?_ | refine (refmade_pure (!(n == m)) _ (hnt _ hq)).dcall ?_
  try simp only [E3, seval]
  rw [val_limbs]
  have hqz := sgn_lt (n := !(n == m)) hq
  have hrz := sgn_lt (n := n) hr
  have hrs := sign_sgn n (val a % val b)
  have hbs := sign_sgn m (val b)
  rw [if_neg hb0] at hbs
  have hmulz := mul_abs hqz hzb.abs
  have hsubz : sgn n (val a) - sgn (!(n == m)) (val a / val b) * sgn m (val b) = sgn n (val a % val b) := by
    rw [← htr, Int.mul_comm (sgn m (val b))]; omega
  refine Safe.rg rfl ?_
  simp only [ref02_Floor_r3, E3, seval]
  have hcall := r2mul_pure (canZ (sgn (!(n == m)) (val a / val b))) ⟨m, b⟩ k k (zok_can hqz) hzb (by omega)
  rw [canZ_av, canZ_z] at hcall
  simp only [ZI.av, ZI.z] at hcall
  refine hcall.dcall ?_
  simp only [E3, seval]
  have hcall := r2sub_pure ⟨n, a⟩ (canZ (sgn (!(n == m)) (val a / val b) * sgn m (val b))) (k + k) (hza.mono (by omega)) (zok_can hmulz) (by omega)
  rw [canZ_av, canZ_z] at hcall
  simp only [ZI.av, ZI.z, hsubz] at hcall
  refine hcall.dcall ?_
  simp only [E3, seval]
  clear hcall hmulz hsubz htr
  generalize val a % val b = r at *
  generalize val a / val b = q at *
  refine Safe.rg rfl ?_
  simp only [ref02_Floor_r4, E3, seval]
  refine (r2sign_pure (canZ (sgn n r)) ((zok_can hrz).mono (by omega))).dcall ?_
  rw [canZ_z, hrs]
  by_cases hr0 : r = 0
  · have hs := hsame (.inl hr0)
    simp only [hr0, E3, seval]
    refine Safe.cd rfl ?_
    simp only [E3, seval]
    refine Safe.rx rfl (by simp only [sdOk_cons, sdOk_nil, locNe_loc, E3, seval]) ?_
    simp only [ref02_Floor_r7, ref02_Floor_r7a, ref02_Floor_r7b, E3, seval]
    refine Safe.rt rfl ?_
    simp only [E3, seval]
    rw [hs.1, hs.2, hr0]
    exact ⟨rfl, _, rfl⟩
  · rw [if_neg hr0]
    have hsn : ((if n = true then (-1 : Int) else 1) = 0) = False := by cases n <;> simp
    simp only [hsn, E3, seval]
    refine (r2sign_pure (canZ (sgn n r)) ((zok_can hrz).mono (by omega))).dcall ?_
    rw [canZ_z, hrs, if_neg hr0]
    simp only [E3, seval]
    have hcall := r2sign_pure ⟨m, b⟩ (hzb.mono (by omega))
    simp only [ZI.av, ZI.z, hbs] at hcall
    refine hcall.dcall ?_
    by_cases hnm : n = m
    · have hs := hsame (.inr hnm)
      have he : ((if n = true then (-1 : Int) else 1) = (if m = true then (-1 : Int) else 1)) = True := by subst hnm; simp
      simp only [he, E3, seval]
      refine Safe.cd rfl ?_
      simp only [E3, seval]
      refine Safe.rx rfl (by simp only [sdOk_cons, sdOk_nil, locNe_loc, E3, seval]) ?_
      simp only [ref02_Floor_r7, ref02_Floor_r7a, ref02_Floor_r7b, E3, seval]
      refine Safe.rt rfl ?_
      simp only [E3, seval]
      rw [hs.1, hs.2]
      exact ⟨rfl, _, rfl⟩
    · have hs := hother hr0 hnm
      have he : ((if n = true then (-1 : Int) else 1) = (if m = true then (-1 : Int) else 1)) = False := by cases n <;> cases m <;> simp_all
      simp only [he, E3, seval]
      refine Safe.cd rfl ?_
      simp only [E3, seval]
      refine Safe.rg rfl ?_
      simp only [ref02_Floor_r5, E3, seval]
      refine (r2of_pure 1 (by decide) (by decide)).dcall ?_
      simp only [E3, seval]
      refine (r2sub_can (a := sgn (!(n == m)) q) (b := 1) (k := k + 1) (Nat.lt_of_lt_of_le hqz (lb_mono (by omega))) (lb_one k) (by omega)).dcall ?_
      simp only [E3, seval]
      refine Safe.rg rfl ?_
      simp only [ref02_Floor_r6, E3, seval]
      have hcall := r2add_pure (canZ (sgn n r)) ⟨m, b⟩ k (zok_can hrz) hzb (by omega)
      rw [canZ_av, canZ_z] at hcall
      simp only [ZI.av, ZI.z] at hcall
      refine hcall.acall ?_
      simp only [E3, seval]
      refine Safe.rx rfl (by simp only [sdOk_cons, sdOk_nil, locNe_loc, E3, seval]) ?_
      simp only [ref02_Floor_r7, ref02_Floor_r7a, ref02_Floor_r7b, E3, seval]
      refine Safe.rt rfl ?_
      simp only [E3, seval]
      rw [hs.1, hs.2]
      exact ⟨rfl, _, rfl⟩
end Go.Abs
set_option linter.unusedVariables false
set_option linter.unusedSimpArgs false
namespace Go.Abs
/-- A rational in lowest terms as it is handed round. -/
def Rv (q : Rat) : AV := .agg [.bool (decide (q.num < 0)), natV (limbs q.num.natAbs), .bool false, natV (limbs q.den)]
structure Rok (k : Nat) (q : Rat) : Prop where
  num : q.num.natAbs < LB ^ k
  den : q.den < LB ^ k
theorem Rok.mono {k l : Nat} {q : Rat} (h : Rok k q) (hl : k ≤ l) : Rok l q := ⟨Nat.lt_of_lt_of_le h.num (lb_mono hl), Nat.lt_of_lt_of_le h.den (lb_mono hl)⟩
def dZ (d : Nat) : ZI := ⟨false, limbs d⟩
theorem dZ_z (d : Nat) : (dZ d).z = (d : Int) := by simp only [dZ, ZI.z, val_limbs]; rfl
theorem dZ_ok {k d : Nat} (h : d < LB ^ k) : Zok k (dZ d) := ⟨lim_limbs _, limbs_len_le h⟩
theorem Rv_cl (q : Rat) : Cl (Rv q) := .agg _ fun c hc => by
  simp only [List.mem_cons, List.not_mem_nil, or_false] at hc
  rcases hc with rfl | rfl | rfl | rfl
  · exact .bool _
  · exact natV_cl _
  · exact .bool _
  · exact natV_cl _
theorem Rv_cells (q : Rat) : (Rv q).cells = [.bool (decide (q.num < 0)), natV (limbs q.num.natAbs), .bool false, natV (limbs q.den)] := rfl
theorem Rv_fit (q : Rat) : (Rv q).fit = true := rfl
theorem Rv_frz (id : Nat) (b : Blk) (q : Rat) : frz id b (Rv q) = Rv q := frz_cl (Rv_cl q)
theorem zero_lt_four : (0 < 4) = True := by decide
theorem sgn_div {n : Int} {g : Nat} (h : g ∣ n.natAbs) : sgn (decide (n < 0)) (n.natAbs / g) = n / (g : Int) := by
  obtain ⟨c, hc⟩ := h
  rcases Nat.eq_zero_or_pos g with rfl | hg
  · simp [sgn]
  rw [hc, Nat.mul_div_cancel_left _ hg]
  have hg' : (g : Int) ≠ 0 := by omega
  by_cases h0 : n < 0
  · have : n = (g : Int) * -(c : Int) := by
      have : (n.natAbs : Int) = (g : Int) * (c : Int) := by rw [hc]; exact Int.natCast_mul _ _
      rw [Int.mul_neg]; omega
    rw [decide_eq_true h0, this, Int.mul_ediv_cancel_left _ hg']
    simp [sgn]
  · have : n = (g : Int) * (c : Int) := by
      have : (n.natAbs : Int) = (g : Int) * (c : Int) := by rw [hc]; exact Int.natCast_mul _ _
      omega
    rw [decide_eq_false h0, this, Int.mul_ediv_cancel_left _ hg']
    simp [sgn]
theorem r3make_pure (x y : ZI) (k : Nat) (hx : Zok k x) (hy : Zok k y) (hk : k < 17592186044000) (hy0 : y.z ≠ 0) : PureC Pr F_ref03_Make [x.av, y.av] (Rv (Rat.divInt x.z y.z)) := by
  have hax := hx.abs
  have hay := hy.abs
  refine PureC.intro ref03_Make_fn ref03_Make_ok (Nat.le_of_ble_eq_true rfl) (Rv_cl _) fun H hH => ?_
  refine Safe.rg rfl ?_
  simp only [ref03_Make_r0, zero_lt_four, E3, seval]
  refine Safe.rg rfl ?_
  simp only [ref03_Make_r1, E3, seval]
  first | refine (r2form_pure x (hx.mono (by omega))).acall ?_ | refine (r2form_pure x (hx.mono (by omega))).dcall ?_
  try simp only [E3, seval]
  refine Safe.rg rfl ?_
  simp only [ref03_Make_r2, E3, seval]
  first | refine (r2form_pure y (hy.mono (by omega))).acall ?_ | refine (r2form_pure y (hy.mono (by omega))).dcall ?_
  try simp only [E3, seval]
  have main : ∀ a b : Int, 0 < b → a.natAbs < LB ^ k → b.natAbs < LB ^ k → Rat.divInt a b = Rat.divInt x.z y.z → Safe ⟨Pr, fun _ _ => false, F_ref03_Make, 54, [.cell 4 (some 4)], H.length⟩
      [.code ((ACode.region ref03_Make_r6 false).seq ((ACode.region ref03_Make_r7 false).seq ((ACode.region ref03_Make_r8 false).seq ((ACode.region ref03_Make_r9 false).seq .ret))))]
      [(4, .loc (lid H 2) 0 0), (5, .loc (lid H 3) 0 0), (6, .loc (lid H 4) 0 0)]
      (hap H [some ⟨2, [x.av]⟩, some ⟨2, [y.av]⟩, some ⟨4, [.agg [.bool false, .nil, .bool false, .nil]]⟩, some ⟨2, [Z a]⟩, some ⟨2, [Z b]⟩]) fun r' H' => r' = Rv (Rat.divInt x.z y.z) ∧ ∃ L, H' = hap H L := by
    intro a b hb ha1 hb1 he
    have hla : (limbs a.natAbs).length ≤ k := limbs_len_le ha1
    have hlb : (limbs b.natAbs).length ≤ k := limbs_len_le hb1
    have hg0 : Nat.gcd a.natAbs b.natAbs ≠ 0 := fun h => by
      have := Nat.gcd_eq_zero_iff.1 h
      omega
    have hnum := Rat.num_divInt a b
    have hden := Rat.den_divInt a b
    rw [Int.sign_eq_one_of_pos hb, Int.one_mul, Int.gcd, Nat.gcd_comm] at hnum
    rw [if_neg (by omega), Int.gcd, Nat.gcd_comm] at hden
    have hgl : (limbs (Nat.gcd a.natAbs b.natAbs)).length ≤ k := limbs_len_le (gcd_lt ha1 hb1)
    have hs := sgn_div (n := a) (Nat.gcd_dvd_left a.natAbs b.natAbs)
    rw [← hnum] at hs
    rw [← he]
    refine Safe.rg rfl ?_
    simp only [ref03_Make_r6, E3, seval]
    first | refine (refgcd_pure (limbs a.natAbs) (limbs b.natAbs) ⟨lim_limbs _, by omega⟩ ⟨lim_limbs _, by omega⟩ (by omega) (by omega)).acall ?_ | refine (refgcd_pure (limbs a.natAbs) (limbs b.natAbs) ⟨lim_limbs _, by omega⟩ ⟨lim_limbs _, by omega⟩ (by omega) (by omega)).dcall ?_
    try simp only [E3, seval]
    simp only [val_limbs]
    refine Safe.rg rfl ?_
    simp only [ref03_Make_r7, E3, seval]
    first | refine (refdiv_pure (limbs a.natAbs) (limbs (Nat.gcd a.natAbs b.natAbs)) ⟨lim_limbs _, by omega⟩ ⟨lim_limbs _, by omega⟩ (by omega) (by omega) (by rw [val_limbs]; exact hg0)).acall ?_ | refine (refdiv_pure (limbs a.natAbs) (limbs (Nat.gcd a.natAbs b.natAbs)) ⟨lim_limbs _, by omega⟩ ⟨lim_limbs _, by omega⟩ (by omega) (by omega) (by rw [val_limbs]; exact hg0)).dcall ?_
    try simp only [E3, seval]
    simp only [val_limbs]
    refine Safe.rg rfl ?_
    simp only [ref03_Make_r8, E3, seval]
    first | refine (refdiv_pure (limbs b.natAbs) (limbs (Nat.gcd a.natAbs b.natAbs)) ⟨lim_limbs _, by omega⟩ ⟨lim_limbs _, by omega⟩ (by omega) (by omega) (by rw [val_limbs]; exact hg0)).acall ?_ | refine (refdiv_pure (limbs b.natAbs) (limbs (Nat.gcd a.natAbs b.natAbs)) ⟨lim_limbs _, by omega⟩ ⟨lim_limbs _, by omega⟩ (by omega) (by omega) (by rw [val_limbs]; exact hg0)).dcall ?_
    try simp only [E3, seval]
    simp only [val_limbs]
    rw [← hden]
    have hna : a.natAbs / Nat.gcd a.natAbs b.natAbs < LB ^ k := Nat.lt_of_le_of_lt (Nat.div_le_self _ _) ha1
    have hcall := r2form_pure ⟨decide (a < 0), limbs (a.natAbs / Nat.gcd a.natAbs b.natAbs)⟩ (dZ_ok hna |>.mono (by omega) |> fun h => ⟨h.lim, h.len⟩)
    simp only [ZI.z, val_limbs, hs] at hcall
    refine Safe.rg rfl ?_
    simp only [ref03_Make_r9, E3, seval]
    refine hcall.acall ?_
    simp only [Z, E3, seval]
    refine Safe.rt rfl ?_
    simp only [E3, seval]
    first | exact ⟨rfl, _, rfl⟩ | exact ⟨_, rfl⟩ | exact ⟨trivial, _, rfl⟩
  have hfrom : ∀ a b : Int, a.natAbs < LB ^ k → b.natAbs < LB ^ k → Zok 17592186044416 (canZ a) := fun a b h _ => (zok_can h).mono (by omega)
  refine Safe.rg rfl ?_
  simp only [ref03_Make_r3, E3, seval]
  refine (r2sign_pure (canZ y.z) ((zok_can hay).mono (by omega))).acall ?_
  rw [canZ_z]
  by_cases hneg : y.z < 0
  · have hc : (y.z.sign < 0) = True := eq_true (Int.sign_neg_iff.2 hneg)
    simp only [hc, E3, seval]
    refine Safe.cd rfl ?_
    simp only [E3, seval]
    refine Safe.rg rfl ?_
    simp only [ref03_Make_r4, E3, seval]
    refine (r2neg_pure (canZ x.z) ((zok_can hax).mono (by omega))).acall ?_
    rw [canZ_z]
    simp only [E3, seval]
    refine Safe.rg rfl ?_
    simp only [ref03_Make_r5, E3, seval]
    refine (r2neg_pure (canZ y.z) ((zok_can hay).mono (by omega))).acall ?_
    rw [canZ_z]
    simp only [E3, seval]
    refine Safe.keep [4, 5, 6] ?_
    simp only [E3, seval]
    exact main (-x.z) (-y.z) (by omega) (by rw [Int.natAbs_neg]; exact hax) (by rw [Int.natAbs_neg]; exact hay) (Rat.neg_divInt_neg _ _)
  · have hc : (y.z.sign < 0) = False := eq_false fun h => hneg (Int.sign_neg_iff.1 h)
    simp only [hc, E3, seval]
    refine Safe.cd rfl ?_
    simp only [E3, seval]
    refine Safe.keep [4, 5, 6] ?_
    simp only [E3, seval]
    refine Safe.skip ?_
    exact main x.z y.z (by omega) hax hay rfl
theorem r3one_pure : PureC Pr F_ref03_one [] (Z 1) := by
  refine PureC.intro ref03_one_fn ref03_one_ok (Nat.le_of_ble_eq_true rfl) (Z_cl _) fun H hH => ?_
  refine Safe.rg rfl ?_
  simp only [ref03_one_r0, E3, seval]
  refine Safe.rg rfl ?_
  simp only [ref03_one_r1, E3, seval]
  first | refine (r2of_pure 1 (by decide) (by decide)).acall ?_ | refine (r2of_pure 1 (by decide) (by decide)).dcall ?_
  try simp only [E3, seval]
  refine Safe.rt rfl ?_
  simp only [E3, seval]
  first | exact ⟨rfl, _, rfl⟩ | exact ⟨_, rfl⟩ | exact ⟨trivial, _, rfl⟩
theorem r3of_pure (x : ZI) (hx : Zok 17592186044416 x) : PureC Pr F_ref03_Of [x.av] (Rv (x.z : Rat)) := by
  refine PureC.intro ref03_Of_fn ref03_Of_ok (Nat.le_of_ble_eq_true rfl) (Rv_cl _) fun H hH => ?_
  refine Safe.rg rfl ?_
  simp only [ref03_Of_r0, zero_lt_four, E3, seval]
  refine Safe.rg rfl ?_
  simp only [ref03_Of_r1, E3, seval]
  first | refine (r2form_pure x hx).acall ?_ | refine (r2form_pure x hx).dcall ?_
  try simp only [E3, seval]
  first | refine (r3one_pure).acall ?_ | refine (r3one_pure).dcall ?_
  try simp only [E3, seval]
  have h1 : limbs 1 = limbs (Int.natAbs 1) := rfl
  have h2 : (decide ((1 : Int) < 0)) = false := rfl
  simp only [Z, E3, seval]
  refine Safe.rt rfl ?_
  simp only [E3, seval]
  first | exact ⟨rfl, _, rfl⟩ | exact ⟨_, rfl⟩ | exact ⟨trivial, _, rfl⟩
section
variable (a b : Rat) {k l : Nat} (ha : Rok k a) (hb : Rok l b) (hkl : k + l < 17592186043000)
include ha hb hkl
theorem r3add_pure : PureC Pr F_ref03_Add [Rv a, Rv b] (Rv (a + b)) := by
  have h1 := mul_abs ha.num (show (b.den : Int).natAbs < LB ^ l from hb.den)
  have h2 := mul_abs hb.num (show (a.den : Int).natAbs < LB ^ k from ha.den)
  have h3 := mul_abs (show (a.den : Int).natAbs < LB ^ k from ha.den) (show (b.den : Int).natAbs < LB ^ l from hb.den)
  rw [Nat.add_comm l k] at h2
  have h4 := add_abs h1 h2
  refine PureC.intro ref03_Add_fn ref03_Add_ok (Nat.le_of_ble_eq_true rfl) (Rv_cl _) fun H hH => ?_
  simp only [Rv]
  refine Safe.rg rfl ?_
  simp only [ref03_Add_r0, zero_lt_four, E3, seval]
  refine Safe.rg rfl ?_
  simp only [ref03_Add_r1, E3, seval]
  have hm := r2mul_pure (canZ a.num) (dZ b.den) k l (zok_can ha.num) (dZ_ok hb.den) (by omega)
  rw [canZ_z, dZ_z] at hm
  refine hm.acall ?_
  simp only [E3, seval]
  refine Safe.rg rfl ?_
  simp only [ref03_Add_r2, E3, seval]
  have hm := r2mul_pure (canZ b.num) (dZ a.den) l k (zok_can hb.num) (dZ_ok ha.den) (by omega)
  rw [canZ_z, dZ_z] at hm
  refine hm.acall ?_
  simp only [E3, seval]
  refine Safe.rg rfl ?_
  simp only [ref03_Add_r3, E3, seval]
  refine (r2add_can h1 h2 (by omega)).dcall ?_
  simp only [E3, seval]
  have hm := r2mul_pure (dZ a.den) (dZ b.den) k l (dZ_ok ha.den) (dZ_ok hb.den) (by omega)
  rw [dZ_z, dZ_z] at hm
  refine hm.dcall ?_
  simp only [E3, seval]
  have hm := r3make_pure (canZ (a.num * b.den + b.num * a.den)) (canZ (a.den * b.den)) (k + l + 1) (zok_can h4) (zok_can h3 |>.mono (by omega)) (by omega) (by
    rw [canZ_z]
    have h1 := a.den_nz
    have h2 := b.den_nz
    exact Int.mul_ne_zero (by omega) (by omega))
  rw [canZ_av, canZ_av, canZ_z, canZ_z, ← Int.natCast_mul, Rat.divInt_ofNat, ← Rat.add_def', Int.natCast_mul] at hm
  refine hm.dcall ?_
  simp only [Rv, E3, seval]
  refine Safe.rt rfl ?_
  simp only [E3, seval]
  first | exact ⟨rfl, _, rfl⟩ | exact ⟨_, rfl⟩ | exact ⟨trivial, _, rfl⟩
theorem r3mul_pure : PureC Pr F_ref03_Mul [Rv a, Rv b] (Rv (a * b)) := by
  have h1 := mul_abs ha.num hb.num
  have h3 := mul_abs (show (a.den : Int).natAbs < LB ^ k from ha.den) (show (b.den : Int).natAbs < LB ^ l from hb.den)
  refine PureC.intro ref03_Mul_fn ref03_Mul_ok (Nat.le_of_ble_eq_true rfl) (Rv_cl _) fun H hH => ?_
  simp only [Rv]
  refine Safe.rg rfl ?_
  simp only [ref03_Mul_r0, zero_lt_four, E3, seval]
  refine Safe.rg rfl ?_
  simp only [ref03_Mul_r1, E3, seval]
  refine (r2mul_can ha.num hb.num (by omega)).dcall ?_
  simp only [E3, seval]
  have hm := r2mul_pure (dZ a.den) (dZ b.den) k l (dZ_ok ha.den) (dZ_ok hb.den) (by omega)
  rw [dZ_z, dZ_z] at hm
  refine hm.dcall ?_
  simp only [E3, seval]
  have hm := r3make_pure (canZ (a.num * b.num)) (canZ (a.den * b.den)) (k + l) (zok_can h1) (zok_can h3) (by omega) (by
    rw [canZ_z]
    have h1 := a.den_nz
    have h2 := b.den_nz
    exact Int.mul_ne_zero (by omega) (by omega))
  rw [canZ_av, canZ_av, canZ_z, canZ_z, ← Int.natCast_mul, Rat.divInt_ofNat, ← Rat.mul_def', Int.natCast_mul] at hm
  refine hm.dcall ?_
  simp only [Rv, E3, seval]
  refine Safe.rt rfl ?_
  simp only [E3, seval]
  first | exact ⟨rfl, _, rfl⟩ | exact ⟨_, rfl⟩ | exact ⟨trivial, _, rfl⟩
omit ha hb hkl in
theorem rat_div_eq (b0 : b ≠ 0) : Rat.divInt (a.num * b.den) (a.den * b.num) = a / b := by
  have h1 : (a.den : Int) ≠ 0 := by have := a.den_nz; omega
  have h2 : b.num ≠ 0 := fun h => b0 (Rat.num_eq_zero.1 h)
  rw [← Rat.divInt_mul_divInt, Rat.num_divInt_den, Rat.div_def, Rat.inv_def]
theorem r3div_pure (b0 : b ≠ 0) : PureC Pr F_ref03_Div [Rv a, Rv b] (Rv (a / b)) := by
  have h1 := mul_abs ha.num (show (b.den : Int).natAbs < LB ^ l from hb.den)
  have h3 := mul_abs (show (a.den : Int).natAbs < LB ^ k from ha.den) hb.num
  refine PureC.intro ref03_Div_fn ref03_Div_ok (Nat.le_of_ble_eq_true rfl) (Rv_cl _) fun H hH => ?_
  simp only [Rv]
  refine Safe.rg rfl ?_
  simp only [ref03_Div_r0, zero_lt_four, E3, seval]
  refine Safe.rg rfl ?_
  simp only [ref03_Div_r1, E3, seval]
  have hm := r2mul_pure (canZ a.num) (dZ b.den) k l (zok_can ha.num) (dZ_ok hb.den) (by omega)
  rw [canZ_z, dZ_z] at hm
  refine hm.dcall ?_
  simp only [E3, seval]
  have hm := r2mul_pure (dZ a.den) (canZ b.num) k l (dZ_ok ha.den) (zok_can hb.num) (by omega)
  rw [dZ_z, canZ_z] at hm
  refine hm.dcall ?_
  simp only [E3, seval]
  have hm := r3make_pure (canZ (a.num * b.den)) (canZ (a.den * b.num)) (k + l) (zok_can h1) (zok_can h3) (by omega) (by
    rw [canZ_z]
    have h1 := a.den_nz
    exact Int.mul_ne_zero (by omega) fun h => b0 (Rat.num_eq_zero.1 h))
  rw [canZ_av, canZ_av, canZ_z, canZ_z, rat_div_eq a b b0] at hm
  refine hm.dcall ?_
  simp only [Rv, E3, seval]
  refine Safe.rt rfl ?_
  simp only [E3, seval]
  first | exact ⟨rfl, _, rfl⟩ | exact ⟨_, rfl⟩ | exact ⟨trivial, _, rfl⟩
end
theorem rok_neg {k : Nat} {a : Rat} (h : Rok k a) : Rok k (-a) := ⟨by rw [Rat.neg_num, Int.natAbs_neg]; exact h.num, h.den⟩
theorem r3neg_pure (a : Rat) {k : Nat} (ha : Rok k a) (hk : k < 17592186044000) : PureC Pr F_ref03_Neg [Rv a] (Rv (-a)) := by
  refine PureC.intro ref03_Neg_fn ref03_Neg_ok (Nat.le_of_ble_eq_true rfl) (Rv_cl _) fun H hH => ?_
  simp only [Rv]
  refine Safe.rg rfl ?_
  simp only [ref03_Neg_r0, zero_lt_four, E3, seval]
  refine Safe.rg rfl ?_
  simp only [ref03_Neg_r1, E3, seval]
  have hm := r2neg_pure (canZ a.num) ((zok_can ha.num).mono (by omega))
  rw [canZ_z] at hm
  refine hm.dcall ?_
  simp only [E3, seval]
  have hm := r3make_pure (canZ (-a.num)) (dZ a.den) k (zok_can (by rw [Int.natAbs_neg]; exact ha.num)) (dZ_ok ha.den) hk (by
    rw [dZ_z]
    have h1 := a.den_nz
    omega)
  rw [canZ_av, canZ_z, dZ_z, ← Rat.neg_divInt, Rat.num_divInt_den] at hm
  refine hm.dcall ?_
  simp only [Rv, E3, seval]
  refine Safe.rt rfl ?_
  simp only [E3, seval]
  first | exact ⟨rfl, _, rfl⟩ | exact ⟨_, rfl⟩ | exact ⟨trivial, _, rfl⟩
theorem r3sub_pure (a b : Rat) {k l : Nat} (ha : Rok k a) (hb : Rok l b) (hkl : k + l < 17592186043000) : PureC Pr F_ref03_Sub [Rv a, Rv b] (Rv (a - b)) := by
  refine PureC.intro ref03_Sub_fn ref03_Sub_ok (Nat.le_of_ble_eq_true rfl) (Rv_cl _) fun H hH => ?_
  refine Safe.rg rfl ?_
  simp only [ref03_Sub_r0, zero_lt_four, Rv_cells, Rv_fit, E3, seval]
  refine Safe.rg rfl ?_
  simp only [ref03_Sub_r1, Rv_cells, Rv_fit, E3, seval]
  refine (r3neg_pure b hb (by omega)).dcall ?_
  simp only [Rv_cells, Rv_fit, E3, seval]
  have hm := r3add_pure a (-b) ha (rok_neg hb) hkl
  rw [← Rat.sub_eq_add_neg] at hm
  refine hm.dcall ?_
  simp only [Rv, E3, seval]
  refine Safe.rt rfl ?_
  simp only [E3, seval]
  first | exact ⟨rfl, _, rfl⟩ | exact ⟨_, rfl⟩ | exact ⟨trivial, _, rfl⟩
theorem rzero_pure (a : Rat) {k : Nat} (ha : Rok k a) (hk : k < 17592186044000) : PureC Pr F_ref06_zero [Rv a] (.bool (decide (a = 0))) := by
  have he : decide (a.num.sign = 0) = decide (a = 0) := decide_eq_decide.2 (by rw [Int.sign_eq_zero_iff_zero, Rat.num_eq_zero])
  refine PureC.intro ref06_zero_fn ref06_zero_ok (Nat.le_of_ble_eq_true rfl) (.bool _) fun H hH => ?_
  simp only [Rv]
  refine Safe.rg rfl ?_
  simp only [ref06_zero_r0, zero_lt_four, E3, seval]
  refine Safe.rg rfl ?_
  simp only [ref06_zero_r1, E3, seval]
  refine (r2sign_pure (canZ a.num) ((zok_can ha.num).mono (by omega))).acall ?_
  rw [canZ_z]
  simp only [he, E3, seval]
  refine Safe.rt rfl ?_
  simp only [E3, seval]
  first | exact ⟨rfl, _, rfl⟩ | exact ⟨_, rfl⟩ | exact ⟨trivial, _, rfl⟩
end Go.Abs
set_option linter.unusedVariables false
set_option linter.unusedSimpArgs false
namespace Go.Abs
theorem app_fr {G : Heap} (hG : HRefs G) {n0 : Nat} (hn : n0 ≤ lid G 0) {env : Env} {wd bytes k : Nat} {f : Nat → AV} {y : AV} (hf : ∀ x, Cl (f x)) (hy : y = f k) (hb : (k + 1) * bytes ≤ 140737488355328) (hbb : k + 1 ≤ 9223372036854775807) :
    appV n0 wd bytes false (.mu (lid G 0) 0 k none) (.sl wd [y]) env (hap G [some ⟨wd, fr k f⟩]) = some (.mu (lid G 0) 0 (k + 1) none, scrub (lid G 0) env, hap G [some ⟨wd, fr (k + 1) f⟩]) := by
  have := app_row (H := G) hG (L := [some ⟨wd, (List.range k).map f⟩]) 0 hn (env := env) (wd := wd) (bytes := bytes) hf (List.range k) k (List.range (k + 1)) (y := y) (len := k) (List.length_range).symm rfl (RC.row hf .nil) hy List.range_succ hb hbb
  exact this
theorem nref_ne {id j off len : Nat} {oc : Option Nat} (h : j ≠ id) : nref id (.mu j off len oc) = true := nref_iff.2 (.mu _ _ _ _ h)
theorem rats_calls (b : List (List ZI)) {c : Nat} (hc : ∀ i, (h : i < b.length) → b[i].length = c) (hnb : b.length ≤ 2097152) (hcb : c ≤ 2097152) (hz : Mok 17592186044416 b) (H : Heap) :
    ACalls Pr F_ref06_rats [matV b] H fun r' H' => r' = .mu (lid H 0) 0 b.length none ∧ H' = hap H (mrows (lid H 0) b.length 4 c none fun j k => Rv (zg (mg b j) k : Int)) := by
  refine ACalls.introH ref06_rats_fn ref06_rats_ok (Nat.le_of_ble_eq_true rfl) fun hH => ?_
  have hS : ∀ (j k : Nat), Cl ((fun (j k : Nat) => Rv ((zg (mg b j) k : Int) : Rat)) j k) := fun _ _ => Rv_cl _
  generalize hSd : (fun (j k : Nat) => Rv ((zg (mg b j) k : Int) : Rat)) = S at *
  refine Safe.rg rfl ?_
  simp only [ref06_rats_r0, E3, seval]
  refine Safe.rg rfl ?_
  simp only [ref06_rats_r1, E3, seval]
  refine Safe.nilrow 3 1 (by decide) (by simp only [E3, seval]) ?_
  refine Safe.rg rfl ?_
  simp only [ref06_rats_r2, E3, seval]
  refine Safe.lp rfl ?_
  refine Safe.keep [0, 3, 4] ?_
  try simp only [E3, seval]
  refine Safe.loopN (b.length) (fun i => [(0, matV b), (3, .mu (lid H 0) 0 i none), (4, .int .i64 i)]) (fun i => hap H (mrows (lid H 0) i 4 c none S)) rfl rfl (fun i hi ih => ?_) ?_
  · have hlt : ((i : Int) < (b.length : Int)) = True := eq_true (by omega)
    have hbc := hc i hi
    have hiw : IntKind.wrap .i64 ((i : Int) + 1) = ((i + 1 : Nat) : Int) := by rw [wrap_i64] <;> omega
    refine Safe.inLoop ?_
    refine Safe.rg rfl ?_
    simp only [ref06_rats_r3, hlt, E3, seval]
    refine Safe.cd rfl ?_
    simp only [E3, seval]
    have hGr : HRefs (hap H (mrows (lid H 0) i 4 c none S)) := mrows_refs (X := []) hH (by simp) fun j k _ _ => hS j k
    have hG0 : (hap H (mrows (lid H 0) i 4 c none S))[lid H 0]? = some (some ⟨1, orow (lid H 0) i c none fun i => i⟩) := by
      simp only [hap, lid]; rw [List.getElem?_append_right (by omega)]; simp [mrows, lid]
    have hGl : (hap H (mrows (lid H 0) i 4 c none S)).length = lid H 0 + 1 + i := by simp [hap, lid, mrows_len]; omega
    have hsucc := mrows_succ H i 4 c none S
    have hGf : Free (hap H (mrows (lid H 0) i 4 c none S)) (lid H 0) := mrows_free (X := []) hH (by simp) fun j k _ _ => hS j k
    rw [← hap_nil (hap H (mrows (lid H 0) i 4 c none S))]
    generalize hap H (mrows (lid H 0) i 4 c none S) = G at *
    have hn0 : H.length ≤ lid G 0 := by simp only [lid] at hGl ⊢; omega
    have hne : lid H 0 ≠ lid G 0 := by simp only [lid] at hGl ⊢; omega
    have hnr1 : nref (lid G 0) (.mu (lid H 0) 0 i none) = true := nref_ne hne
    refine Safe.rg rfl ?_
    simp only [ref06_rats_r4, E3, seval]
    refine Safe.nilrow 5 4 (by decide) (by simp only [E3, seval]) ?_
    refine Safe.rg rfl ?_
    simp only [ref06_rats_r5, E3, seval]
    refine Safe.lp rfl ?_
    refine Safe.keep [0, 3, 4, 5, 6] ?_
    try simp only [E3, seval]
    refine Safe.loopN c (fun k => [(0, matV b), (3, .mu (lid H 0) 0 i none), (4, .int .i64 i), (5, .mu (lid G 0) 0 k none), (6, .int .i64 k)]) (fun k => hap G [some ⟨4, fr k (S i)⟩]) rfl rfl (fun k hk ihk => ?_) ?_
    · have hlt : ((k : Int) < (b[i].length : Int)) = True := eq_true (by omega)
      have hkb : k < b[i].length := by omega
      have hkw : IntKind.wrap .i64 ((k : Int) + 1) = ((k + 1 : Nat) : Int) := by rw [wrap_i64] <;> omega
      refine Safe.inLoop ?_
      refine Safe.rg rfl ?_
      simp only [ref06_rats_r6, mat_idx _ b _ i hi, hlt, E3, seval]
      refine Safe.cd rfl ?_
      simp only [E3, seval]
      refine Safe.rg rfl ?_
      simp only [ref06_rats_r7, mat_idx _ b _ i hi, vec_idx _ b[i] _ k hkb, E3, seval]
      first | refine (r3of_pure b[i][k] ((hz.get hi).el _ (List.getElem_mem hkb))).acall ?_ | refine (r3of_pure b[i][k] ((hz.get hi).el _ (List.getElem_mem hkb))).dcall ?_
      try simp only [E3, seval]
      have hy : Rv ((b[i][k].z : Int) : Rat) = S i k := by rw [← hSd]; simp only [mg_lt hi, zg_lt hkb]
      simp only [Rv_fit, Rv_cells, zero_lt_four, E3, seval]
      rw [app_fr hGr hn0 (hS i) hy (by omega) (by omega)]
      simp only [hnr1, E3, seval]
      refine Safe.rg rfl ?_
      simp only [ref06_rats_r8, hkw, E3, seval]
      refine Safe.keep [0, 3, 4, 5, 6] ?_
      simp only [E3, seval]
      exact ihk
    · refine Safe.inLoop ?_
      refine Safe.rg rfl ?_
      simp only [ref06_rats_r6, mat_idx _ b _ i hi, hbc, Int.lt_irrefl, E3, seval]
      refine Safe.cd rfl ?_
      simp only [E3, seval]
      refine Safe.rg rfl ?_
      simp only [ref06_rats_r9, E3, seval]
      rw [app_old (ys := [.mu (lid G 0) 0 c none]) hG0 (lid_ge H 0) (by simp [orow, fr_len]) (by simp [srcEls, hrow_hap]) (by simp)
        (free_app hGf (by
          intro b hb a ha
          simp at hb
          rcases hb with rfl | rfl
          · exact (fr_flat_cl (fun k _ => hS i k) a ha).ref
          · simp [Blk.flat, AV.cells] at ha; subst ha; exact .mu _ _ _ _ (Ne.symm hne)))
        (by intro a ha; simp [AV.cells] at ha; subst ha; exact .mu _ _ _ _ (Ne.symm hne))
        (fun a ha => orow_refs (fun j hj => by show _ ≠ _; omega) a ha) (by simp; omega) (by simp; omega)]
      simp only [hnr1, E3, seval]
      refine Safe.rg rfl ?_
      simp only [ref06_rats_r10, hiw, E3, seval]
      refine Safe.keep [0, 3, 4] ?_
      simp only [E3, seval]
      have e2 : ∀ o, hap (G.set (lid H 0) (some ⟨1, orow (lid H 0) i c none (fun i => i) ++ [.mu (lid G 0) 0 c none]⟩)) [some ⟨4, fr c (S i)⟩, o] = hap (hap H (mrows (lid H 0) (i + 1) 4 c none S)) ([] ++ [o]) := by
        intro o
        rw [← hsucc]; simp [hap]
      rw [e2]
      have hGl2 : (hap H (mrows (lid H 0) (i + 1) 4 c none S)).length = lid H 0 + 1 + (i + 1) := by simp [hap, lid, mrows_len]; omega
      refine Safe.dropG (mrows_refs (X := []) hH (by simp) fun j k _ _ => hS j k) (by show H.length ≤ _; have := lid_ge H 0; rw [hGl2]; omega) ?_ (by simp) ?_
      · have hnr2 : nref (lid (hap H (mrows (lid H 0) (i + 1) 4 c none S)) 0) (.mu (lid H 0) 0 (i + 1) none) = true := nref_ne (by have : lid (hap H (mrows (lid H 0) (i + 1) 4 c none S)) 0 = lid H 0 + 1 + (i + 1) := hGl2; omega)
        simp only [List.all_cons, List.all_nil, List.length_nil, hnr2, E3, seval]
      · rw [hap_nil]
        exact ih
  · refine Safe.inLoop ?_
    refine Safe.rg rfl ?_
    simp only [ref06_rats_r3, Int.lt_irrefl, E3, seval]
    refine Safe.cd rfl ?_
    simp only [E3, seval]
    refine Safe.rg rfl ?_
    simp only [ref06_rats_r11, E3, seval]
    refine Safe.rt rfl ?_
    simp only [E3, seval]
end Go.Abs
set_option linter.unusedVariables false
set_option linter.unusedSimpArgs false
namespace Go.Abs
/-- Row j up to a place told anew. -/
def loseS (S : Nat → Nat → AV) (j : Nat) (f : Nat → AV) (t : Nat) : Nat → Nat → AV := fun a b => if a = j ∧ b < t then f b else S a b
theorem loseS_zero (S : Nat → Nat → AV) (j : Nat) (f : Nat → AV) : loseS S j f 0 = S := by funext a b; simp [loseS]
theorem loseS_at (S : Nat → Nat → AV) (j : Nat) (f : Nat → AV) (t : Nat) : loseS S j f t j t = S j t := by simp [loseS]
theorem loseS_ne {S : Nat → Nat → AV} {j a : Nat} {f : Nat → AV} {t b : Nat} (h : a ≠ j) : loseS S j f t a b = S a b := by simp [loseS, h]
theorem loseS_succ (S : Nat → Nat → AV) (j : Nat) (f : Nat → AV) (t : Nat) : upd2 (loseS S j f t) j t (f t) = loseS S j f (t + 1) := by
  funext a b
  unfold upd2 loseS
  by_cases h1 : a = j
  · subst h1
    by_cases h2 : b = t
    · subst h2; simp
    · by_cases h3 : b < t
      · rw [if_pos rfl, if_neg h2, if_pos ⟨rfl, h3⟩, if_pos ⟨rfl, by omega⟩]
      · rw [if_pos rfl, if_neg h2, if_neg (by omega), if_neg (by omega)]
  · rw [if_neg h1, if_neg (by omega), if_neg (by omega)]
theorem loseS_cl {S : Nat → Nat → AV} {j : Nat} {f : Nat → AV} {t : Nat} (hS : ∀ a b, Cl (S a b)) (hf : ∀ b, Cl (f b)) : ∀ a b, Cl (loseS S j f t a b) := by
  intro a b; unfold loseS; split
  · exact hf b
  · exact hS a b
theorem rok_mul {a b : Rat} {k l : Nat} (ha : Rok k a) (hb : Rok l b) : Rok (k + l) (a * b) := by
  constructor
  · rw [Rat.num_mul, Int.natAbs_ediv_of_dvd]
    · exact Nat.lt_of_le_of_lt (Nat.div_le_self _ _) (mul_abs ha.num hb.num)
    · exact Int.ofNat_dvd_left.2 (Nat.gcd_dvd_left _ _)
  · rw [Rat.den_mul, lb_add]
    exact Nat.lt_of_le_of_lt (Nat.div_le_self _ _) (Nat.mul_lt_mul'' ha.den hb.den)
section
variable {G : Heap} {β n c : Nat} {oc oc' : Option Nat} {π : Nat → Nat} {S : Nat → Nat → AV} (hG : β + n < G.length)
include hG
theorem lose_calls {M : Nat → Nat → Rat} {K i k : Nat} (q : Rat) (hi : i < n) (hk : k < n) (hik : π k ≠ π i) (hπ : ∀ a, a < n → π a < n) (hS : ∀ a b, a < n → b < c → S (π a) b = Rv (M a b)) (hcl : ∀ a b, Cl (S a b))
    (hMs : ∀ a b, a < n → b < c → Rok K (M a b)) (hq : Rok K q) (hK : K + (K + K) < 17592186043000) (hc : c ≤ 2097152) (hn : n ≤ 2097152) :
    ACalls Pr F_ref06_lose [.mu β 0 n oc', .int .i64 i, .int .i64 k, Rv q] (hM G β n 4 c oc π S) fun r' H' => r' = .tup [] ∧ H' = hM G β n 4 c oc π (loseS S (π i) (fun b => Rv (M i b - q * M k b)) c) := by
  refine ACalls.eff ref06_lose_fn ref06_lose_ok (Nat.le_of_ble_eq_true rfl) fun hH => ?_
  have hpi := hπ i hi
  have hpk := hπ k hk
  refine Safe.rg rfl ?_
  simp only [ref06_lose_r0, lid_hM, hrow_locM, set_locM, st_zeroM, Rv_fit, Rv_cells, zero_lt_four, E3, seval]
  refine Safe.rg rfl ?_
  simp only [ref06_lose_r1, E3, seval]
  refine Safe.lp rfl ?_
  refine Safe.keep [0, 1, 2, 7, 8] ?_
  try simp only [E3, seval]
  refine Safe.loopN c (fun t => [(0, .mu β 0 n oc'), (1, .int .i64 i), (2, .int .i64 k), (7, .loc (lid G 0) 0 0), (8, .int .i64 t)]) (fun t => hap (hM G β n 4 c oc π (loseS S (π i) (fun b => Rv (M i b - q * M k b)) t)) [some ⟨4, [Rv q]⟩]) rfl ?_ (fun t ht ih => ?_) ?_
  · rw [loseS_zero]
  · have hlt : ((t : Int) < (c : Int)) = True := eq_true (by omega)
    have htw : IntKind.wrap .i64 ((t : Int) + 1) = ((t + 1 : Nat) : Int) := by rw [wrap_i64] <;> omega
    have v1 : loseS S (π i) (fun b => Rv (M i b - q * M k b)) t (π i) t = Rv (M i t) := by rw [loseS_at, hS i t hi ht]
    have v2 : loseS S (π i) (fun b => Rv (M i b - q * M k b)) t (π k) t = Rv (M k t) := by rw [loseS_ne hik, hS k t hk ht]
    have hsucc := loseS_succ S (π i) (fun b => Rv (M i b - q * M k b)) t
    generalize loseS S (π i) (fun b => Rv (M i b - q * M k b)) t = St at *
    refine Safe.inLoop ?_
    refine Safe.rg rfl ?_
    simp only [ref06_lose_r2, M_idx hG hi, M_at hG hi, M_rlen hG hpi, hlt, E3, seval]
    refine Safe.cd rfl ?_
    simp only [E3, seval]
    refine Safe.rg rfl ?_
    simp only [ref06_lose_r3, lid_hM, hrow_locM, set_locM, st_zeroM, M_idx hG hi, M_at hG hi, M_idx hG hk, M_at hG hk, E_idx hG hpi ht, E_at hG hpi ht, E_idx hG hpk ht, E_at hG hpk ht, v1, v2, Rv_cells, E3, seval]
    refine (r3mul_pure q (M k t) hq (hMs k t hk ht) (by omega)).dcall ?_
    simp only [E3, seval]
    refine (r3sub_pure (M i t) (q * M k t) (hMs i t hi ht) (rok_mul hq (hMs k t hk ht)) (by omega)).dcall ?_
    simp only [E_idx hG hpi ht, E3, seval]
    simp only [E_st hG hpi ht (Rv_fit _) (show (Rv _).cells.length = 4 from rfl), hsucc, E3, seval]
    refine Safe.rg rfl ?_
    simp only [ref06_lose_r4, htw, E3, seval]
    refine Safe.keep [0, 1, 2, 7, 8] ?_
    simp only [E3, seval]
    exact ih
  · refine Safe.inLoop ?_
    refine Safe.rg rfl ?_
    simp only [ref06_lose_r2, M_idx hG hi, M_at hG hi, M_rlen hG hpi, Int.lt_irrefl, E3, seval]
    refine Safe.cd rfl ?_
    simp only [E3, seval]
    refine Safe.stl 40 _ ?_
    refine Safe.done rfl ?_
    exact ⟨_, _, rfl, by rw [hM_len, hM_len], hM_refs hG hH hπ (fun a b _ _ => loseS_cl hcl (fun b => Rv_cl _) a b), .tup _ (by simp), rfl, rfl⟩
theorem lose_callsL {M : Nat → Nat → Rat} {K i k : Nat} (q : Rat) (hi : i < n) (hk : k < n) (hik : π k ≠ π i) (hπ : ∀ a, a < n → π a < n) (hS : ∀ a b, a < n → b < c → S (π a) b = Rv (M a b)) (hcl : ∀ a b, Cl (S a b))
    (hMs : ∀ a b, a < n → b < c → Rok K (M a b)) (hq : Rok K q) (hK : K + (K + K) < 17592186043000) (hc : c ≤ 2097152) (hn : n ≤ 2097152) (L : Heap) :
    ACalls Pr F_ref06_lose [.mu β 0 n oc', .int .i64 i, .int .i64 k, Rv q] (hap (hM G β n 4 c oc π S) L) fun r' H' => r' = .tup [] ∧ H' = hap (hM G β n 4 c oc π (loseS S (π i) (fun b => Rv (M i b - q * M k b)) c)) L := by
  have h := lose_calls (G := hap G L) (β := β) (n := n) (c := c) (oc := oc) (oc' := oc') (π := π) (S := S) (by simp [hap]; omega) q hi hk hik hπ hS hcl hMs hq hK hc hn
  rw [hap_hM _ _ _ _ _ _ _ _ _ hG]
  refine h.mono ?_
  rintro r' H' ⟨rfl, rfl⟩
  exact ⟨rfl, (hap_hM _ _ _ _ _ _ _ _ _ hG).symm⟩
end
end Go.Abs
set_option linter.unusedVariables false
set_option linter.unusedSimpArgs false
namespace Go.Abs
def intV (x : Nat) : AV := .int .i64 (x : Int)
theorem intV_cl (x : Nat) : Cl (intV x) := .int _ _
/-- Places, as a value. -/
def hsV (cs : List Nat) : AV := .sl 1 (cs.map intV)
theorem hsV_cl (cs : List Nat) : Cl (hsV cs) := cl_sl 1 intV cs intV_cl
theorem app_rowM {G : Heap} {β n w c : Nat} {oc : Option Nat} {π : Nat → Nat} {S : Nat → Nat → AV} {α : Type} (hH : HRefs (hM G β n w c oc π S)) {L : Heap} (i : Nat) {n0 : Nat} (hn : n0 ≤ lid G i) {env : Env} {wd bytes : Nat} {f : α → AV} (hf : ∀ x, Cl (f x)) (l : List α) (x : α) {y : AV} {len : Nat}
    (hlen : len = l.length) (hl : L[i]? = some (some ⟨wd, l.map f⟩)) (hL : RC L) (hy : y = f x) (hb : (len + 1) * bytes ≤ 140737488355328) (hbb : len + 1 ≤ 9223372036854775807) :
    appV n0 wd bytes false (.mu (lid G i) 0 len none) (.sl wd [y]) env (hap (hM G β n w c oc π S) L) = some (.mu (lid G i) 0 (len + 1) none, scrub (lid G i) env, hap (hM G β n w c oc π S) (L.set i (some ⟨wd, (l ++ [x]).map f⟩))) := by
  have := app_row (H := hM G β n w c oc π S) hH i (by rw [lid_hM]; exact hn) (env := env) (bytes := bytes) hf l x (l ++ [x]) hlen hl hL hy rfl hb hbb
  rwa [lid_hM] at this
theorem swp_at (π : Nat → Nat) (p r : Nat) : (fun t => if t = r then π p else (fun t => if t = p then π r else π t) t) = swp π p r := by
  funext t; unfold swp
  by_cases h1 : t = r
  · by_cases h2 : t = p
    · rw [if_pos h1, if_pos h2]; rw [← h1, ← h2]
    · rw [if_pos h1, if_neg h2, if_pos h1]
  · rw [if_neg h1]
    show (if t = p then π r else π t) = _
    by_cases h2 : t = p
    · rw [if_pos h2, if_pos h2]
    · rw [if_neg h2, if_neg h2, if_neg h1]
/-- A matrix's logical entries. -/
structure Lk (n c : Nat) (π : Nat → Nat) (S : Nat → Nat → AV) (F : Nat → Nat → AV) : Prop where
  lt : ∀ a, a < n → π a < n
  inj : ∀ a b, a < n → b < n → π a = π b → a = b
  at_ : ∀ a b, a < n → b < c → S (π a) b = F a b
  cl : ∀ a b, Cl (S a b)
theorem Lk.swap {n c : Nat} {π : Nat → Nat} {S : Nat → Nat → AV} {α : Type} {M : Nat → Nat → α} {f : α → AV} (h : Lk n c π S fun a b => f (M a b)) {p r : Nat} (hp : p < n) (hr : r < n) : Lk n c (swp π p r) S fun a b => f (if a = p then M r b else if a = r then M p b else M a b) := by
  refine ⟨fun a ha => ?_, fun a b ha hb he => ?_, fun a b ha hb => ?_, h.cl⟩
  · unfold swp; split
    · exact h.lt r hr
    · split
      · exact h.lt p hp
      · exact h.lt a ha
  · unfold swp at he
    split at he
    · split at he
      · omega
      · split at he
        · have := h.inj _ _ hr hp he; omega
        · have := h.inj _ _ hr hb he; omega
    · split at he
      · split at he
        · have := h.inj _ _ hp hr he; omega
        · split at he
          · omega
          · have := h.inj _ _ hp hb he; omega
      · split at he
        · have := h.inj _ _ ha hr he; omega
        · split at he
          · have := h.inj _ _ ha hp he; omega
          · exact h.inj _ _ ha hb he
  · unfold swp
    split
    · exact h.at_ r b hr hb
    · split
      · exact h.at_ p b hp hb
      · exact h.at_ a b ha hb
section
variable {G : Heap} {β n c : Nat} {e : Nat} (hG : β + n < G.length) (B : Nat → Nat → Rat) (hB : Bd e B) (hn : n ≤ 64) (hc : c ≤ 2097152) (hK : KB e + 1 < 2199023255552)
include hG hB hn hc hK
omit hG hc hK in
theorem rok_M (t i k : Nat) : Rok (KB e + 1) ((jproc n B t).M i k) := by
  obtain ⟨h1, h2⟩ := M_size hB hn t i k
  have : LB ^ KB e < LB ^ (KB e + 1) := Nat.pow_lt_pow_right (by decide) (by omega)
  exact ⟨by omega, by omega⟩
omit hG hc hK in
theorem rok_dv (t : Nat) : Rok (KB e + 1) (dv n B t) := by
  obtain ⟨z, hz, hz1⟩ := dv_kb hB hn t
  have : LB ^ KB e < LB ^ (KB e + 1) := Nat.pow_lt_pow_right (by decide) (by omega)
  have h1 : 1 ≤ LB ^ KB e := Nat.one_le_iff_ne_zero.2 (by have := lb_pos (KB e); omega)
  rw [hz]
  refine ⟨?_, ?_⟩
  · show z.natAbs < _; omega
  · show 1 < _; omega
theorem reduced_calls {S : Nat → Nat → AV} (hS : Lk n c (fun i => i) S fun a b => Rv (B a b)) :
    ACalls Pr F_ref06_reduced [.mu β 0 n none, .int .i64 c] (hM G β n 4 c none (fun i => i) S) fun r' H' => ∃ π S', Lk n c π S' (fun a b => Rv ((jproc n B c).M a b)) ∧ H' = hM G β n 4 c none π S' ∧
      r' = .tup [.mu β 0 (gproc n B c).cs.length none, hsV (gproc n B c).cs, Rv (dv n B c)] := by
  refine ACalls.eff ref06_reduced_fn ref06_reduced_ok (Nat.le_of_ble_eq_true rfl) fun hH => ?_
  have hBi : ∀ i k, ∃ z : Int, B i k = z := fun i k => by obtain ⟨z, h, _⟩ := hB i k; exact ⟨z, h⟩
  have hrok := rok_M B hB hn
  have hrdv := rok_dv B hB hn
  have hrw : lid (hM G β n 4 c none (fun i => i) S) 0 = lid G 0 := lid_hM _ _ _ _ _ _ _ _ _
  refine Safe.rg rfl ?_
  simp only [ref06_reduced_r0, lid_hM, hrow_locM, set_locM, st_zeroM, zero_lt_four, E3, seval]
  refine Safe.rg rfl ?_
  simp only [ref06_reduced_r1, lid_hM, hrow_locM, set_locM, st_zeroM, Rv_fit, Rv_cells, zero_lt_four, E3, seval]
  first | refine (r2of_pure 1 (by decide) (by decide)).acall ?_ | refine (r2of_pure 1 (by decide) (by decide)).dcall ?_
  try simp only [E3, seval]
  refine (r3of_pure (canZ 1) ((zok_can (k := 1) (by decide)).mono (by decide))).acall ?_
  rw [canZ_z]
  simp only [lid_hM, hrow_locM, set_locM, st_zeroM, Rv_fit, Rv_cells, zero_lt_four, E3, seval]
  refine Safe.rg rfl ?_
  simp only [ref06_reduced_r2, E3, seval]
  refine Safe.nilrow 8 1 (by decide) (by simp only [E3, seval]) ?_
  refine Safe.rg rfl ?_
  simp only [ref06_reduced_r3, E3, seval]
  refine Safe.rg rfl ?_
  simp only [ref06_reduced_r4, E3, seval]
  refine Safe.lp rfl ?_
  refine Safe.keep [0, 1, 6, 7, 8, 9, 10] ?_
  simp only [lid_hM, hrow_locM, set_locM, st_zeroM, E3, seval]
  refine Safe.loopW (α := Nat × (Nat → Nat) × (Nat → Nat → AV)) (fun s => c - s.1)
    (fun s => [(0, .mu β 0 n none), (1, .int .i64 c), (6, .loc (lid G 0) 0 0), (7, .loc (lid G 1) 0 0), (8, .mu (lid G 2) 0 (gproc n B s.1).cs.length none), (9, .int .i64 (gproc n B s.1).cs.length), (10, .int .i64 s.1)])
    (fun s => hap (hM G β n 4 c none s.2.1 s.2.2) [some ⟨4, [.agg [.bool false, .nil, .bool false, .nil]]⟩, some ⟨4, [Rv (dv n B s.1)]⟩, some ⟨1, (gproc n B s.1).cs.map intV⟩])
    (fun s => s.1 ≤ c ∧ Lk n c s.2.1 s.2.2 fun a b => Rv ((jproc n B s.1).M a b)) (0, fun i => i, S) rfl ?_ ⟨Nat.zero_le _, hS⟩ ?_
  · simp only [dv_zero]; rfl
  rintro ⟨t, π, S1⟩ ⟨ht, hL⟩ ih
  simp only at ht hL ih ⊢
  have hok := jok_proc (n := n) hBi t
  have hrn := hok.g.len
  have hlow := hok.low
  rw [jproc_s] at hrn hlow
  have hHr : ∀ {π' : Nat → Nat} {S' : Nat → Nat → AV} {F : Nat → Nat → AV}, Lk n c π' S' F → HRefs (hM G β n 4 c none π' S') := fun h => hM_refs hG hH h.lt fun a b _ _ => h.cl a b
  have hlen : (gproc n B t).cs.length ≤ 64 := by omega
  have htlt : t < 9223372036854775807 := by omega
  have htw : IntKind.wrap .i64 ((t : Int) + 1) = ((t + 1 : Nat) : Int) := by rw [wrap_i64] <;> omega
  refine Safe.inLoop ?_
  by_cases htc : t < c
  · have hlt : ((t : Int) < (c : Int)) = True := eq_true (by omega)
    refine Safe.rg rfl ?_
    simp only [ref06_reduced_r5, hlt, E3, seval]
    refine Safe.cd rfl ?_
    simp only [E3, seval]
    refine Safe.rg rfl ?_
    simp only [ref06_reduced_r6, E3, seval]
    have entry : ∀ q, q < n → S1 (π q) t = Rv ((jproc n B t).M q t) := fun q hq => hL.at_ q t hq htc
    rcases firstNZ_cases (fun p => (gproc n B t).g p t) (gproc n B t).cs.length n with ⟨p, hf, h1, h2, h3, h4⟩ | ⟨hf, h4⟩
    · have hj := jstep_some (j := jproc n B t) (c := t) (n := n) (p := p) (by rw [jproc_s]; exact hf)
      have hdv := dv_some hBi hf h1
      have hcs : (gproc n B (t + 1)).cs = (gproc n B t).cs ++ [t] := by
        show (gstep n (gproc n B t) t).cs = _
        rw [gstep_some hf]
      have hM' : (jproc n B (t + 1)).M = jel (gproc n B t).cs.length t (swapR p (gproc n B t).cs.length (jproc n B t).M) := by
        show (jstep n (jproc n B t) t).M = _
        rw [hj, jproc_s]
      have hMp : ∀ q, (gproc n B t).cs.length ≤ q → (jproc n B t).M q t = (gproc n B t).g q t := fun q hq => hlow q t hq
      have hrokM : ∀ a b, Rok (KB e + 1) (swapR p (gproc n B t).cs.length (jproc n B t).M a b) := by
        intro a b; unfold swapR
        split
        · exact hrok _ _ _
        · split <;> exact hrok _ _ _
      have hM0r : swapR p (gproc n B t).cs.length (jproc n B t).M (gproc n B t).cs.length t = (gproc n B t).g p t := by
        unfold swapR
        by_cases e : (gproc n B t).cs.length = p
        · rw [if_pos e, ← e, hMp _ (Nat.le_refl _)]
        · rw [if_neg e, if_pos rfl, hMp _ h1]
      generalize hcsl : (gproc n B t).cs.length = r at *
      have hr : r < n := by omega
      have hgp : (gproc n B t).g p t ≠ 0 := h3
      generalize hM0 : swapR p r (jproc n B t).M = M0 at *
      have main : ∀ π', Lk n c π' S1 (fun a b => Rv (M0 a b)) → Safe ⟨Pr, fun _ _ => false, F_ref06_reduced, 136, [.tmp 4, .tmp 5, .cell 6 (some 4)], (hM G β n 4 c none (fun i => i) S).length⟩
          [.code ((ACode.region ref06_reduced_r14 false).seq ((ACode.region ref06_reduced_r15 false).seq (((ACode.region ref06_reduced_r16 false).seq (.block 4 (.loop ref06_reduced_l2))).seq (((ACode.region ref06_reduced_r20 false).seq (.block 6 (.loop ref06_reduced_l3))).seq ((ACode.region ref06_reduced_r25 false).seq (.region ref06_reduced_r26 false)))))),
            .inBlock 1, .code (.region ref06_reduced_r27 false), .inLoop ref06_reduced_l0, .inBlock 0, .code ((ACode.region ref06_reduced_r28 true).seq .ret)]
          [(0, .mu β 0 n none), (1, .int .i64 c), (6, .loc (lid G 0) 0 0), (7, .loc (lid G 1) 0 0), (8, .mu (lid G 2) 0 r none), (9, .int .i64 r), (10, .int .i64 t)]
          (hap (hM G β n 4 c none π' S1) [some ⟨4, [.agg [.bool false, .nil, .bool false, .nil]]⟩, some ⟨4, [Rv (if p = r then dv n B t else -dv n B t)]⟩, some ⟨1, (gproc n B t).cs.map intV⟩])
          fun r' H' => ∃ H1 L, H' = hap H1 L ∧ H1.length = (hM G β n 4 c none (fun i => i) S).length ∧ HRefs H1 ∧ Ref (fun x => x < (hM G β n 4 c none (fun i => i) S).length) r' ∧
            ∃ π S', Lk n c π S' (fun a b => Rv ((jproc n B c).M a b)) ∧ H1 = hM G β n 4 c none π S' ∧ r' = .tup [.mu β 0 (gproc n B c).cs.length none, hsV (gproc n B c).cs, Rv (dv n B c)] := by
        intro π' hL'
        have hpr := hL'.lt r hr
        have hdr : Rok (KB e + 1) (if p = r then dv n B t else -dv n B t) := by
          split
          · exact hrdv t
          · exact rok_neg (hrdv t)
        have v0 : S1 (π' r) t = Rv (M0 r t) := hL'.at_ r t hr htc
        refine Safe.rg rfl ?_
        simp only [ref06_reduced_r14, lid_hM, hrow_locM, set_locM, st_zeroM, M_idx hG hr, M_at hG hr, E_idx hG hpr htc, E_at hG hpr htc, v0, Rv_cells, Rv_fit, zero_lt_four, E3, seval]
        refine Safe.rg rfl ?_
        simp only [ref06_reduced_r15, lid_hM, hrow_locM, set_locM, st_zeroM, Rv_cells, Rv_fit, E3, seval]
        refine (r3mul_pure _ (M0 r t) hdr (hrokM r t) (by omega)).acall ?_
        rw [hM0r, ← hdv]
        simp only [lid_hM, hrow_locM, set_locM, st_zeroM, Rv_cells, Rv_fit, E3, seval]
        have hrokh := hrokM r t
        rw [hM0r] at hrokh
        have hM0rr := hM0r
        generalize (gproc n B t).g p t = h at *
        refine Safe.rg rfl ?_
        simp only [ref06_reduced_r16, E3, seval]
        refine Safe.lp rfl ?_
        refine Safe.keep [0, 1, 6, 7, 8, 9, 10, 12, 13] ?_
        try simp only [E3, seval]
        refine Safe.loopN c (fun k => [(0, .mu β 0 n none), (1, .int .i64 c), (6, .loc (lid G 0) 0 0), (7, .loc (lid G 1) 0 0), (8, .mu (lid G 2) 0 r none), (9, .int .i64 r), (10, .int .i64 t), (12, .loc (lid G 3) 0 0), (13, .int .i64 k)])
          (fun k => hap (hM G β n 4 c none π' (loseS S1 (π' r) (fun b => Rv (M0 r b / h)) k)) [some ⟨4, [.agg [.bool false, .nil, .bool false, .nil]]⟩, some ⟨4, [Rv (dv n B (t + 1))]⟩, some ⟨1, (gproc n B t).cs.map intV⟩, some ⟨4, [Rv h]⟩]) rfl ?_ (fun k hk ihk => ?_) ?_
        · rw [loseS_zero]; rfl
        · have hlt : ((k : Int) < (c : Int)) = True := eq_true (by omega)
          have hkw : IntKind.wrap .i64 ((k : Int) + 1) = ((k + 1 : Nat) : Int) := by rw [wrap_i64] <;> omega
          have v1 : loseS S1 (π' r) (fun b => Rv (M0 r b / h)) k (π' r) k = Rv (M0 r k) := by rw [loseS_at, hL'.at_ r k hr hk]
          have hsucc := loseS_succ S1 (π' r) (fun b => Rv (M0 r b / h)) k
          generalize loseS S1 (π' r) (fun b => Rv (M0 r b / h)) k = St at *
          refine Safe.inLoop ?_
          refine Safe.rg rfl ?_
          simp only [ref06_reduced_r17, hlt, E3, seval]
          refine Safe.cd rfl ?_
          simp only [E3, seval]
          refine Safe.rg rfl ?_
          simp only [ref06_reduced_r18, lid_hM, hrow_locM, set_locM, st_zeroM, M_idx hG hr, M_at hG hr, E_idx hG hpr hk, E_at hG hpr hk, v1, Rv_cells, E3, seval]
          refine (r3div_pure (M0 r k) h (hrokM r k) hrokh (by omega) hgp).dcall ?_
          simp only [E_idx hG hpr hk, E3, seval]
          simp only [E_st hG hpr hk (Rv_fit _) (show (Rv _).cells.length = 4 from rfl), hsucc, E3, seval]
          refine Safe.rg rfl ?_
          simp only [ref06_reduced_r19, hkw, E3, seval]
          refine Safe.keep [0, 1, 6, 7, 8, 9, 10, 12, 13] ?_
          simp only [E3, seval]
          exact ihk
        · refine Safe.inLoop ?_
          refine Safe.rg rfl ?_
          simp only [ref06_reduced_r17, Int.lt_irrefl, E3, seval]
          refine Safe.cd rfl ?_
          simp only [E3, seval]
          have hL2 : Lk n c π' (loseS S1 (π' r) (fun b => Rv (M0 r b / h)) c) (fun a b => Rv (if a = r then M0 r b / h else M0 a b)) := by
            refine ⟨hL'.lt, hL'.inj, fun a b ha hb => ?_, loseS_cl hL'.cl fun _ => Rv_cl _⟩
            by_cases e : a = r
            · subst e; rw [if_pos rfl]; unfold loseS; rw [if_pos ⟨rfl, hb⟩]
            · rw [if_neg e, loseS_ne (fun h => e (hL'.inj _ _ ha hr h)), hL'.at_ a b ha hb]
          generalize loseS S1 (π' r) (fun b => Rv (M0 r b / h)) c = S2 at *
          refine Safe.rg rfl ?_
          simp only [ref06_reduced_r20, E3, seval]
          refine Safe.lp rfl ?_
          refine Safe.keep [0, 1, 6, 7, 8, 9, 10, 14] ?_
          try simp only [E3, seval]
          refine Safe.loopW (α := Nat × (Nat → Nat → AV)) (fun s => n - s.1)
            (fun s => [(0, .mu β 0 n none), (1, .int .i64 c), (6, .loc (lid G 0) 0 0), (7, .loc (lid G 1) 0 0), (8, .mu (lid G 2) 0 r none), (9, .int .i64 r), (10, .int .i64 t), (14, .int .i64 s.1)])
            (fun s => hap (hM G β n 4 c none π' s.2) [some ⟨4, [.agg [.bool false, .nil, .bool false, .nil]]⟩, some ⟨4, [Rv (dv n B (t + 1))]⟩, some ⟨1, (gproc n B t).cs.map intV⟩, some ⟨4, [Rv h]⟩])
            (fun s => s.1 ≤ n ∧ Lk n c π' s.2 (fun a b => Rv (if a = r then M0 r b / h else if a < s.1 then M0 a b - M0 a t * (M0 r b / h) else M0 a b))) (0, S2) rfl rfl
            ⟨Nat.zero_le _, by
              refine ⟨hL2.lt, hL2.inj, fun a b ha hb => ?_, hL2.cl⟩
              refine (hL2.at_ a b ha hb).trans ?_; dsimp only; simp⟩ ?_
          rintro ⟨i, S3⟩ ⟨hi, hL3⟩ ih3
          simp only at hi hL3 ih3 ⊢
          refine Safe.inLoop ?_
          by_cases hin : i < n
          · have hlt : ((i : Int) < (n : Int)) = True := eq_true (by omega)
            have hiw : IntKind.wrap .i64 ((i : Int) + 1) = ((i + 1 : Nat) : Int) := by rw [wrap_i64] <;> omega
            have hpi := hL3.lt i hin
            refine Safe.rg rfl ?_
            simp only [ref06_reduced_r21, M_len hG, hlt, E3, seval]
            refine Safe.cd rfl ?_
            simp only [E3, seval]
            by_cases hir : i = r
            · subst hir
              refine Safe.rg rfl ?_
              simp only [ref06_reduced_r22, E3, seval]
              refine Safe.cd rfl ?_
              simp only [E3, seval]
              refine Safe.rg rfl ?_
              simp only [ref06_reduced_r24, hiw, E3, seval]
              refine Safe.keep [0, 1, 6, 7, 8, 9, 10, 14] ?_
              simp only [E3, seval]
              refine ih3 (i + 1, S3) ⟨by omega, hL3.lt, hL3.inj, fun a b ha hb => ?_, hL3.cl⟩ (by show n - (i + 1) < n - i; omega)
              refine (hL3.at_ a b ha hb).trans ?_
              dsimp only
              by_cases e : a = i
              · rw [if_pos e, if_pos e]
              · rw [if_neg e, if_neg e]
                by_cases e2 : a < i
                · rw [if_pos e2, if_pos (show a < i + 1 by omega)]
                · rw [if_neg e2, if_neg (show ¬ a < i + 1 by omega)]
            · have hne : ((i : Int) = (r : Int)) = False := eq_false (by omega)
              have v3 : S3 (π' i) t = Rv (M0 i t) := by rw [hL3.at_ i t hin htc, if_neg hir, if_neg (Nat.lt_irrefl _)]
              refine Safe.rg rfl ?_
              simp only [ref06_reduced_r22, hne, M_idx hG hin, M_at hG hin, E_idx hG hpi htc, E_at hG hpi htc, v3, Rv_cells, E3, seval]
              refine (rzero_pure (M0 i t) (hrokM i t) (by omega)).acall ?_
              by_cases hz : M0 i t = 0
              · simp only [hz, E3, seval]
                refine Safe.cd rfl ?_
                simp only [E3, seval]
                refine Safe.rg rfl ?_
                simp only [ref06_reduced_r24, hiw, E3, seval]
                refine Safe.keep [0, 1, 6, 7, 8, 9, 10, 14] ?_
                simp only [E3, seval]
                refine ih3 (i + 1, S3) ⟨by omega, hL3.lt, hL3.inj, fun a b ha hb => ?_, hL3.cl⟩ (by show n - (i + 1) < n - i; omega)
                refine (hL3.at_ a b ha hb).trans ?_
                dsimp only
                by_cases e : a = r
                · rw [if_pos e, if_pos e]
                · rw [if_neg e, if_neg e]
                  by_cases e2 : a < i
                  · rw [if_pos e2, if_pos (show a < i + 1 by omega)]
                  · rw [if_neg e2]
                    by_cases e3 : a = i
                    · subst e3
                      rw [if_pos (show a < a + 1 by omega), hz]
                      congr 1
                      generalize M0 r b / h = y
                      grind
                    · rw [if_neg (show ¬ a < i + 1 by omega)]
              · simp only [hz, E3, seval]
                refine Safe.cd rfl ?_
                simp only [E3, seval]
                have hMs : ∀ a b, a < n → b < c → Rok (KB e + 1) (if a = r then M0 r b / h else if a < i then M0 a b - M0 a t * (M0 r b / h) else M0 a b) := by
                  intro a b _ _
                  have h0 := hrok (t + 1) a b
                  rw [hM'] at h0
                  unfold jel at h0
                  rw [hM0rr] at h0
                  by_cases e : a = r
                  · rw [if_pos e] at h0 ⊢; exact h0
                  · rw [if_neg e] at h0 ⊢
                    split
                    · exact h0
                    · exact hrokM a b
                have hcall := lose_callsL (G := G) (β := β) (n := n) (c := c) (oc := none) (oc' := none) (π := π') (S := S3) hG (M := fun a b => if a = r then M0 r b / h else if a < i then M0 a b - M0 a t * (M0 r b / h) else M0 a b) (M0 i t) hin hr
                  (fun h => hir (hL3.inj _ _ hr hin h).symm) hL3.lt hL3.at_ hL3.cl hMs (hrokM i t) (by omega) hc (by omega)
                  [some ⟨4, [.agg [.bool false, .nil, .bool false, .nil]]⟩, some ⟨4, [Rv (dv n B (t + 1))]⟩, some ⟨1, (gproc n B t).cs.map intV⟩, some ⟨4, [Rv h]⟩]
                obtain ⟨S4, hS4⟩ : ∃ S4, S4 = loseS S3 (π' i) (fun b => Rv ((fun a b => if a = r then M0 r b / h else if a < i then M0 a b - M0 a t * (M0 r b / h) else M0 a b) i b - M0 i t * (fun a b => if a = r then M0 r b / h else if a < i then M0 a b - M0 a t * (M0 r b / h) else M0 a b) r b)) c := ⟨_, rfl⟩
                rw [← hS4] at hcall
                refine Safe.rg rfl ?_
                simp only [ref06_reduced_r23, M_idx hG hin, M_at hG hin, E_idx hG hpi htc, E_at hG hpi htc, v3, Rv_cells, E3, seval]
                refine hcall.mono ?_
                rintro r' H' ⟨rfl, rfl⟩
                simp only [E3, seval]
                refine Safe.rg rfl ?_
                simp only [ref06_reduced_r24, hiw, E3, seval]
                refine Safe.keep [0, 1, 6, 7, 8, 9, 10, 14] ?_
                simp only [E3, seval]
                refine ih3 (i + 1, S4) ⟨by omega, hL3.lt, hL3.inj, fun a b ha hb => ?_, by rw [hS4]; exact loseS_cl hL3.cl fun _ => Rv_cl _⟩ (by show n - (i + 1) < n - i; omega)
                show S4 (π' a) b = Rv (if a = r then M0 r b / h else if a < i + 1 then M0 a b - M0 a t * (M0 r b / h) else M0 a b)
                rw [hS4]
                by_cases e3 : a = i
                · subst e3
                  unfold loseS
                  rw [if_pos ⟨rfl, hb⟩]
                  simp only [if_neg hir, Nat.lt_irrefl, if_false, if_true, Nat.lt_succ_self]
                · rw [loseS_ne (fun h => e3 (hL3.inj _ _ ha hin h)), hL3.at_ a b ha hb]
                  by_cases e : a = r
                  · rw [if_pos e, if_pos e]
                  · rw [if_neg e, if_neg e]
                    by_cases e2 : a < i
                    · rw [if_pos e2, if_pos (show a < i + 1 by omega)]
                    · rw [if_neg e2, if_neg (show ¬ a < i + 1 by omega)]
          · have hin' : i = n := by omega
            subst hin'
            refine Safe.rg rfl ?_
            simp only [ref06_reduced_r21, M_len hG, Int.lt_irrefl, E3, seval]
            refine Safe.cd rfl ?_
            simp only [E3, seval]
            have hL4 : Lk i c π' S3 fun a b => Rv ((jproc i B (t + 1)).M a b) := by
              refine ⟨hL3.lt, hL3.inj, fun a b ha hb => ?_, hL3.cl⟩
              rw [hL3.at_ a b ha hb, hM']
              unfold jel
              rw [hM0rr]
              by_cases e : a = r
              · rw [if_pos e, if_pos e]
              · rw [if_neg e, if_neg e, if_pos ha]
            have hrw2 : IntKind.wrap .i64 ((r : Int) + 1) = ((r + 1 : Nat) : Int) := by rw [wrap_i64] <;> omega
            have hRC : RC [some ⟨4, [.agg [.bool false, .nil, .bool false, .nil]]⟩, some ⟨4, [Rv (dv i B (t + 1))]⟩, some ⟨1, (gproc i B t).cs.map intV⟩, some ⟨4, [Rv h]⟩] :=
              RC.one zero4_cl (RC.one (Rv_cl _) (RC.row intV_cl (RC.one (Rv_cl _) RC.nil)))
            have hnb2 : nref (lid G 2) (.mu β 0 i none) = true := nref_ne (by unfold lid; omega)
            have hnb3 : nref (lid G 3) (.mu β 0 i none) = true := nref_ne (by unfold lid; omega)
            refine Safe.rg rfl ?_
            simp only [ref06_reduced_r25, E3, seval]
            rw [app_rowM (n0 := (hM G β i 4 c none (fun i => i) S).length) (bytes := 8) (y := .int .i64 (t : Int)) (hHr hL3) 2 (by rw [hM_len]; exact lid_ge G 2) (f := intV) intV_cl (gproc i B t).cs t hcsl.symm rfl hRC rfl (by omega) (by omega)]
            simp only [hnb2, List.set_cons_succ, List.set_cons_zero, E3, seval]
            refine Safe.rg rfl ?_
            simp only [ref06_reduced_r26, hrw2, E3, seval]
            refine Safe.rg rfl ?_
            simp only [ref06_reduced_r27, htw, E3, seval]
            refine Safe.keep [0, 1, 6, 7, 8, 9, 10] ?_
            simp only [E3, seval]
            refine Safe.dropM [some ⟨4, [.agg [.bool false, .nil, .bool false, .nil]]⟩, some ⟨4, [Rv (dv i B (t + 1))]⟩, some ⟨1, ((gproc i B t).cs ++ [t]).map intV⟩] (hHr hL4) (by rw [hM_len]; exact Nat.le_refl _) (by simp only [List.all_cons, List.all_nil, hnb3, E3, seval]) (RC.one zero4_cl (RC.one (Rv_cl _) (RC.row intV_cl RC.nil))) ?_
            have hfin := ih (t + 1, π', S3) ⟨htc, hL4⟩ (by show c - (t + 1) < c - t; omega)
            simp only [hcs, len_snoc, hcsl] at hfin
            exact hfin
      -- the head's row
      refine Safe.lp rfl ?_
      refine Safe.keep [0, 1, 6, 7, 8, 9, 10, 11] ?_
      try simp only [E3, seval]
      refine Safe.loopN (p - r) (fun j => [(0, .mu β 0 n none), (1, .int .i64 c), (6, .loc (lid G 0) 0 0), (7, .loc (lid G 1) 0 0), (8, .mu (lid G 2) 0 r none), (9, .int .i64 r), (10, .int .i64 t), (11, .int .i64 ((r + j : Nat) : Int))])
        (fun _ => hap (hM G β n 4 c none π S1) [some ⟨4, [.agg [.bool false, .nil, .bool false, .nil]]⟩, some ⟨4, [Rv (dv n B t)]⟩, some ⟨1, (gproc n B t).cs.map intV⟩]) rfl rfl (fun j hj2 ihj => ?_) ?_
      · have hq : r + j < n := by omega
        have hlt2 : (((r + j : Nat) : Int) < (n : Int)) = True := eq_true (by omega)
        have hpq := hL.lt (r + j) hq
        have hqw : IntKind.wrap .i64 (((r + j : Nat) : Int) + 1) = ((r + (j + 1) : Nat) : Int) := by rw [wrap_i64] <;> omega
        have hz : (jproc n B t).M (r + j) t = 0 := by rw [hMp _ (by omega)]; exact h4 _ (by omega) (by omega)
        have v4 := entry (r + j) hq
        refine Safe.inLoop ?_
        refine Safe.rg rfl ?_
        simp only [ref06_reduced_r7, M_len hG, hlt2, M_idx hG hq, M_at hG hq, E_idx hG hpq htc, E_at hG hpq htc, v4, Rv_cells, E3, seval]
        refine (rzero_pure _ (hrok t (r + j) t) (by omega)).acall ?_
        simp only [hz, E3, seval]
        refine Safe.cd rfl ?_
        simp only [E3, seval]
        refine Safe.rg rfl ?_
        simp only [ref06_reduced_r8, hqw, E3, seval]
        refine Safe.keep [0, 1, 6, 7, 8, 9, 10, 11] ?_
        simp only [E3, seval]
        refine Safe.inBlock ?_
        exact ihj
      · have hrp : r + (p - r) = p := by omega
        rw [hrp]
        have hlt2 : ((p : Int) < (n : Int)) = True := eq_true (by omega)
        have hpq := hL.lt p h2
        have hz : ((jproc n B t).M p t = 0) = False := eq_false (by rw [hMp _ h1]; exact hgp)
        have v4 := entry p h2
        have hpn : ((p : Int) = (n : Int)) = False := eq_false (by omega)
        refine Safe.inLoop ?_
        refine Safe.rg rfl ?_
        simp only [ref06_reduced_r7, M_len hG, hlt2, M_idx hG h2, M_at hG h2, E_idx hG hpq htc, E_at hG hpq htc, v4, Rv_cells, E3, seval]
        refine (rzero_pure _ (hrok t p t) (by omega)).acall ?_
        simp only [hz, E3, seval]
        refine Safe.cd rfl ?_
        simp only [E3, seval]
        refine Safe.rg rfl ?_
        simp only [ref06_reduced_r9, M_len hG, hpn, E3, seval]
        refine Safe.cd rfl ?_
        simp only [E3, seval]
        by_cases hpr : p = r
        · have hpr1 : ((p : Int) = (r : Int)) = True := eq_true (by omega)
          refine Safe.rg rfl ?_
          simp only [ref06_reduced_r11, hpr1, E3, seval]
          refine Safe.cd rfl ?_
          simp only [E3, seval]
          refine Safe.keep [0, 1, 6, 7, 8, 9, 10] ?_
          simp only [E3, seval]
          have hm := main π (by rw [← hM0, hpr, swapR_self]; exact hL)
          rw [if_pos hpr] at hm
          refine Safe.skip ?_
          exact hm
        · have hpr1 : ((p : Int) = (r : Int)) = False := eq_false (by omega)
          refine Safe.rg rfl ?_
          simp only [ref06_reduced_r11, hpr1, E3, seval]
          refine Safe.cd rfl ?_
          simp only [E3, seval]
          refine Safe.rg rfl ?_
          simp only [ref06_reduced_r12, M_idx hG h2, M_at hG h2, M_idx hG hr, M_at hG hr, E3, seval]
          simp only [M_st hG h2, M_idx hG hr, M_st hG hr, swp_at, E3, seval]
          refine Safe.rg rfl ?_
          simp only [ref06_reduced_r13, lid_hM, hrow_locM, set_locM, st_zeroM, Rv_cells, Rv_fit, E3, seval]
          refine (r3neg_pure (dv n B t) (hrdv t) (by omega)).acall ?_
          simp only [lid_hM, hrow_locM, set_locM, st_zeroM, Rv_cells, Rv_fit, E3, seval]
          refine Safe.keep [0, 1, 6, 7, 8, 9, 10] ?_
          simp only [E3, seval]
          have hm := main (swp π p r) (by
            have hsw := Lk.swap (f := Rv) hL h2 hr
            refine ⟨hsw.lt, hsw.inj, fun a b ha hb => ?_, hsw.cl⟩
            rw [hsw.at_ a b ha hb, ← hM0]
            unfold swapR
            split
            · rfl
            · split <;> rfl)
          rw [if_neg hpr] at hm
          exact hm
    · -- no head in this column
      have hcs : gproc n B (t + 1) = gproc n B t := gstep_none hf
      have hj : jproc n B (t + 1) = jproc n B t := jstep_none (by rw [jproc_s]; exact hf)
      have hdv := dv_none hf
      generalize hcsl : (gproc n B t).cs.length = r at *
      refine Safe.lp rfl ?_
      refine Safe.keep [0, 1, 6, 7, 8, 9, 10, 11] ?_
      try simp only [E3, seval]
      refine Safe.loopN (n - r) (fun j => [(0, .mu β 0 n none), (1, .int .i64 c), (6, .loc (lid G 0) 0 0), (7, .loc (lid G 1) 0 0), (8, .mu (lid G 2) 0 r none), (9, .int .i64 r), (10, .int .i64 t), (11, .int .i64 ((r + j : Nat) : Int))])
        (fun _ => hap (hM G β n 4 c none π S1) [some ⟨4, [.agg [.bool false, .nil, .bool false, .nil]]⟩, some ⟨4, [Rv (dv n B t)]⟩, some ⟨1, (gproc n B t).cs.map intV⟩]) rfl rfl (fun j hj2 ihj => ?_) ?_
      · have hq : r + j < n := by omega
        have hlt2 : (((r + j : Nat) : Int) < (n : Int)) = True := eq_true (by omega)
        have hpq := hL.lt (r + j) hq
        have hqw : IntKind.wrap .i64 (((r + j : Nat) : Int) + 1) = ((r + (j + 1) : Nat) : Int) := by rw [wrap_i64] <;> omega
        have hz : (jproc n B t).M (r + j) t = 0 := by rw [hlow _ _ (by omega)]; exact h4 _ (by omega) (by omega)
        have v4 := entry (r + j) hq
        refine Safe.inLoop ?_
        refine Safe.rg rfl ?_
        simp only [ref06_reduced_r7, M_len hG, hlt2, M_idx hG hq, M_at hG hq, E_idx hG hpq htc, E_at hG hpq htc, v4, Rv_cells, E3, seval]
        refine (rzero_pure _ (hrok t (r + j) t) (by omega)).acall ?_
        simp only [hz, E3, seval]
        refine Safe.cd rfl ?_
        simp only [E3, seval]
        refine Safe.rg rfl ?_
        simp only [ref06_reduced_r8, hqw, E3, seval]
        refine Safe.keep [0, 1, 6, 7, 8, 9, 10, 11] ?_
        simp only [E3, seval]
        refine Safe.inBlock ?_
        exact ihj
      · have hrp : r + (n - r) = n := by omega
        rw [hrp]
        refine Safe.inLoop ?_
        refine Safe.rg rfl ?_
        simp only [ref06_reduced_r7, M_len hG, Int.lt_irrefl, E3, seval]
        refine Safe.cd rfl ?_
        simp only [E3, seval]
        refine Safe.rg rfl ?_
        simp only [ref06_reduced_r9, M_len hG, E3, seval]
        refine Safe.cd rfl ?_
        simp only [E3, seval]
        refine Safe.rg rfl ?_
        simp only [ref06_reduced_r10, E3, seval]
        first | refine (r2of_pure 0 (by decide) (by decide)).acall ?_ | refine (r2of_pure 0 (by decide) (by decide)).dcall ?_
        try simp only [E3, seval]
        refine (r3of_pure (canZ 0) ((zok_can (k := 1) (by decide)).mono (by decide))).acall ?_
        rw [canZ_z]
        simp only [lid_hM, hrow_locM, set_locM, st_zeroM, Rv_fit, Rv_cells, zero_lt_four, E3, seval]
        refine Safe.rg rfl ?_
        simp only [ref06_reduced_r27, htw, E3, seval]
        refine Safe.keep [0, 1, 6, 7, 8, 9, 10] ?_
        simp only [E3, seval]
        have hfin := ih (t + 1, π, S1) ⟨htc, by rw [hj]; exact hL⟩ (by show c - (t + 1) < c - t; omega)
        simp only [hcs, hcsl, hdv] at hfin
        exact hfin
  · have htc' : t = c := by omega
    subst htc'
    refine Safe.rg rfl ?_
    simp only [ref06_reduced_r5, Int.lt_irrefl, E3, seval]
    refine Safe.cd rfl ?_
    simp only [E3, seval]
    have hnb2 : frz (lid G 2) ⟨1, (gproc n B t).cs.map intV⟩ (.mu β 0 n none) = .mu β 0 n none := frz_ref (.mu _ _ _ _ (by show β ≠ _; unfold lid; omega))
    refine Safe.freezeM 2 (hHr hL) (by rw [hM_len]; exact Nat.le_refl _) rfl (blk_map 1 intV _ intV_cl) ?_
    refine Safe.keep [0, 6, 7, 8, 9] ?_
    simp only [hnb2, frz_mu_same, List.length_map, frz_loc_other, Rv_frz, E3, seval]
    have hcl : frz (lid G 2) ⟨1, (gproc n B t).cs.map intV⟩ (.mu (lid G 2) 0 (gproc n B t).cs.length none) = hsV (gproc n B t).cs := frz_mu_map (H := G) 2 1 intV _ none
    refine Safe.rg rfl ?_
    simp only [ref06_reduced_r28, lid_hM, hrow_locM, set_locM, st_zeroM, M_slc hG hrn, hcl, Rv_cells, Rv_fit, E3, seval]
    refine Safe.rt rfl ?_
    simp only [lid_hM, hrow_locM, set_locM, st_zeroM, Rv_cells, Rv_fit, E3, seval]
    refine ⟨_, _, rfl, by rw [hM_len, hM_len], hHr hL, .tup _ ?_, π, S1, hL, rfl, rfl⟩
    intro a ha
    simp only [List.mem_cons, List.not_mem_nil, or_false] at ha
    rcases ha with rfl | rfl | rfl
    · exact .mu _ _ _ _ (by show β < _; rw [hM_len]; omega)
    · exact (hsV_cl _).ref
    · exact (Rv_cl _).ref
end
end Go.Abs
set_option linter.unusedVariables false
set_option linter.unusedSimpArgs false
namespace Go.Abs
section
variable {G L : Heap} {id w : Nat} {X : List AV}
theorem lst (h : G[id]? = some (some ⟨w, X⟩)) {j : Nat} (hj : j < X.length) {v : AV} (hf : v.fit = true) (hn : v.cells.length = w) (env : Env) : storeV w (.loc id j 0) v env (hap G L) = some (.top, env, hap (G.set id (some ⟨w, X.set j v⟩)) L) := by
  have hid := lt_of_live h
  have hr : hrow (hap G L) id = some ⟨w, X⟩ := by rw [hrow_old _ _ _ hid]; simp [hrow, h]
  simp only [storeV, hr, Option.bind_some]
  rw [if_pos ⟨hj, hf, hn, by omega⟩, upd_whole, set_app _ _ _ _ hid]
theorem lcpy (h : G[id]? = some (some ⟨w, X⟩)) {len : Nat} (hlen : X.length = len) {oc : Option Nat} {y : AV} {ys : List AV} (hy : srcEls (hap G L) w false y = some ys) (hyl : ys.length = len) (env : Env) :
    cpyV w (.mu id 0 len oc) y env (hap G L) = some (.int .i64 len, env, hap (G.set id (some ⟨w, ys⟩)) L) := by
  have hid := lt_of_live h
  have hr : hrow (hap G L) id = some ⟨w, X⟩ := by rw [hrow_old _ _ _ hid]; simp [hrow, h]
  simp only [cpyV, hy, hr, Option.bind_some]
  rw [if_pos ⟨trivial, by omega⟩, set_app _ _ _ _ hid]
  simp [hyl, hlen]
  rw [List.take_of_length_le (by omega), List.drop_eq_nil_of_le (by omega), List.append_nil]
end
/-- The copy as it grows. -/
def mpart (β n i w c : Nat) (oc : Option Nat) (S : Nat → Nat → AV) : Heap := some ⟨1, fr n fun a => if a < i then .mu (β + 1 + a) 0 c oc else .nil⟩ :: (List.range i).map fun j => some ⟨w, fr c (S j)⟩
theorem mpart_len (β n i w c : Nat) (oc : Option Nat) (S : Nat → Nat → AV) : (mpart β n i w c oc S).length = i + 1 := by simp [mpart]
theorem mpart_full (β n w c : Nat) (oc : Option Nat) (S : Nat → Nat → AV) : mpart β n n w c oc S = mrows β n w c oc S := by
  unfold mpart mrows orow
  rw [fr_congr fun a ha => by rw [if_pos ha]]
theorem mpart_succ (H : Heap) {n i : Nat} (w c : Nat) (oc : Option Nat) (S : Nat → Nat → AV) :
    hap ((hap H (mpart (lid H 0) n i w c oc S)).set (lid H 0) (some ⟨1, (fr n fun a => if a < i then .mu (lid H 0 + 1 + a) 0 c oc else .nil).set i (.mu (lid H 0 + 1 + i) 0 c oc)⟩)) [some ⟨w, fr c (S i)⟩] = hap H (mpart (lid H 0) n (i + 1) w c oc S) := by
  have e2 : (fr n fun a => if a < i then AV.mu (lid H 0 + 1 + a) 0 c oc else .nil).set i (.mu (lid H 0 + 1 + i) 0 c oc) = fr n fun a => if a < i + 1 then .mu (lid H 0 + 1 + a) 0 c oc else .nil := by
    rw [fr_set]
    refine fr_congr fun a _ => ?_
    by_cases h : a = i
    · subst h; rw [if_pos rfl, if_pos (by omega)]
    · rw [if_neg h]
      by_cases h2 : a < i
      · rw [if_pos h2, if_pos (by omega)]
      · rw [if_neg h2, if_neg (by omega)]
  rw [e2]
  simp only [hap, lid, Nat.add_zero]
  rw [List.set_append_right _ _ (Nat.le_refl _), Nat.sub_self]
  simp only [mpart, List.set_cons_zero, List.append_assoc, List.cons_append]
  congr 2
  rw [List.range_succ, List.map_append]; rfl
def zav (b : List (List ZI)) (j k : Nat) : AV := ((mg b j).getD k ⟨false, []⟩).av
theorem zav_row (b : List (List ZI)) {i c : Nat} (hi : i < b.length) (hc : b[i].length = c) : b[i].map ZI.av = fr c (zav b i) := by
  apply List.ext_getElem?
  intro k
  simp only [fr, zav, mg_lt hi, List.getElem?_map]
  rcases Nat.lt_or_ge k c with h | h
  · rw [List.getElem?_range h, List.getElem?_eq_getElem (by omega)]
    simp only [Option.map_some, zav, mg_lt hi]
    simp [List.getD_eq_getElem?_getD, List.getElem?_eq_getElem (show k < b[i].length by omega)]
  · rw [List.getElem?_eq_none (by omega), List.getElem?_eq_none (by simp; omega)]; rfl
theorem copied_calls (b : List (List ZI)) {c : Nat} (hc : ∀ i, (h : i < b.length) → b[i].length = c) (hnb : b.length ≤ 2097152) (hcb : c ≤ 2097152) (H : Heap) :
    ACalls Pr F_elim_copied [matV b] H fun r' H' => r' = .mu (lid H 0) 0 b.length (some b.length) ∧ H' = hap H (mrows (lid H 0) b.length 2 c (some c) (zav b)) := by
  refine ACalls.introH elim_copied_fn elim_copied_ok (Nat.le_of_ble_eq_true rfl) fun hH => ?_
  refine Safe.rg rfl ?_
  simp only [elim_copied_r0, E3, seval]
  refine Safe.rg rfl ?_
  simp only [elim_copied_r1, E3, seval]
  have hmk : ∀ env : Env, mkslV 1 24 .nil (.int .i64 b.length) (.int .i64 b.length) env (hap H []) = some (.mu (lid H 0) 0 b.length (some b.length), env, hap H (mpart (lid H 0) b.length 0 2 c (some c) (zav b))) := by
    intro env
    simp only [mkslV]
    rw [if_pos ⟨by decide, by omega, by omega, by omega, by omega⟩]
    simp only [Int.toNat_natCast, len_hap, List.length_nil, app_hap, List.nil_append]
    have : List.replicate b.length AV.nil = fr b.length fun a => if a < 0 then .mu (lid H 0 + 1 + a) 0 c (some c) else .nil := by
      apply List.ext_getElem?
      intro j
      simp only [fr, List.getElem?_map, List.getElem?_replicate]
      rcases Nat.lt_or_ge j b.length with h | h
      · rw [List.getElem?_range h]; simp [h]
      · rw [List.getElem?_eq_none (by simpa using h), if_neg (by omega)]; rfl
    rw [this]; rfl
  simp only [hmk, E3, seval]
  refine Safe.rg rfl ?_
  simp only [elim_copied_r2, E3, seval]
  refine Safe.lp rfl ?_
  refine Safe.keep [0, 3, 9, 10, 11] ?_
  try simp only [E3, seval]
  refine Safe.loopN (b.length) (fun i => [(0, matV b), (3, .mu (lid H 0) 0 b.length (some b.length)), (9, matV b), (10, .int .i64 b.length), (11, .int .i64 i)]) (fun i => hap H (mpart (lid H 0) b.length i 2 c (some c) (zav b))) rfl rfl (fun i hi ih => ?_) ?_
  · have hlt : ((i : Int) < (b.length : Int)) = True := eq_true (by omega)
    have hbc := hc i hi
    have hiw : IntKind.wrap .i64 ((i : Int) + 1) = ((i + 1 : Nat) : Int) := by rw [wrap_i64] <;> omega
    refine Safe.inLoop ?_
    refine Safe.rg rfl ?_
    simp only [elim_copied_r3, hlt, E3, seval]
    refine Safe.cd rfl ?_
    simp only [E3, seval]
    refine Safe.rg rfl ?_
    simp only [elim_copied_r4, mat_idx _ b _ i hi, E3, seval]
    have hG0 : (hap H (mpart (lid H 0) b.length i 2 c (some c) (zav b)))[lid H 0]? = some (some ⟨1, fr b.length fun a => if a < i then .mu (lid H 0 + 1 + a) 0 c (some c) else .nil⟩) := by
      simp only [hap, lid]; rw [List.getElem?_append_right (by omega)]; simp [mpart, lid]
    have hGl : (hap H (mpart (lid H 0) b.length i 2 c (some c) (zav b))).length = lid H 0 + 1 + i := by simp [hap, lid, mpart_len]; omega
    have hsucc := mpart_succ H (n := b.length) (i := i) 2 c (some c) (zav b)
    rw [← hap_nil (hap H (mpart (lid H 0) b.length i 2 c (some c) (zav b)))]
    generalize hap H (mpart (lid H 0) b.length i 2 c (some c) (zav b)) = G at *
    have hlG : lid G 0 = lid H 0 + 1 + i := hGl
    have hmk2 : ∀ env : Env, mkslV 2 32 (.agg [.bool false, .nil]) (.int .i64 c) (.int .i64 c) env (hap G []) = some (.mu (lid G 0) 0 c (some c), env, hap G [some ⟨2, List.replicate c (.agg [.bool false, .nil])⟩]) := by
      intro env
      simp only [mkslV]
      rw [if_pos ⟨by decide, by omega, by omega, by omega, by omega⟩]
      simp only [Int.toNat_natCast, len_hap, List.length_nil, app_hap, List.nil_append]
    have e1 : lid H 0 + 1 + i = lid G 0 := hlG.symm
    rw [e1] at hsucc
    have hXl : (fr b.length fun a => if a < i then AV.mu (lid H 0 + 1 + a) 0 c (some c) else .nil).length = b.length := fr_len _ _
    generalize (fr b.length fun a => if a < i then AV.mu (lid H 0 + 1 + a) 0 c (some c) else .nil) = X at *
    refine Safe.rg rfl ?_
    simp only [elim_copied_r5, hbc, hmk2, lidx hG0 rfl (some b.length) .i64 hi, E3, seval]
    rw [lst hG0 (by omega) rfl rfl]
    simp only [E3, seval]
    rw [← hap_nil (hap (G.set _ _) _)]
    have h2a : (hap (G.set (lid H 0) (some ⟨1, X.set i (.mu (lid G 0) 0 c (some c))⟩)) [some ⟨2, List.replicate c (.agg [.bool false, .nil])⟩])[lid H 0]? = some (some ⟨1, X.set i (.mu (lid G 0) 0 c (some c))⟩) := by
      simp only [hap]
      rw [List.getElem?_append_left (by rw [List.length_set]; omega), List.getElem?_set]
      simp; omega
    have h2b : (hap (G.set (lid H 0) (some ⟨1, X.set i (.mu (lid G 0) 0 c (some c))⟩)) [some ⟨2, List.replicate c (.agg [.bool false, .nil])⟩])[lid G 0]? = some (some ⟨2, List.replicate c (.agg [.bool false, .nil])⟩) := by
      simp only [hap, lid, Nat.add_zero]
      rw [List.getElem?_append_right (by simp)]; simp
    have h2c : (hap (G.set (lid H 0) (some ⟨1, X.set i (.mu (lid G 0) 0 c (some c))⟩)) [some ⟨2, List.replicate c (.agg [.bool false, .nil])⟩]).set (lid G 0) (some ⟨2, b[i].map ZI.av⟩) = hap H (mpart (lid H 0) b.length (i + 1) 2 c (some c) (zav b)) := by
      rw [← hsucc, zav_row b hi hbc]
      simp only [hap, lid, Nat.add_zero]
      rw [List.set_append_right _ _ (by simp)]
      simp
    generalize hap (G.set (lid H 0) (some ⟨1, X.set i (.mu (lid G 0) 0 c (some c))⟩)) [some ⟨2, List.replicate c (.agg [.bool false, .nil])⟩] = G2 at *
    have hxi : (X.set i (AV.mu (lid G 0) 0 c (some c))).getD i .top = .mu (lid G 0) 0 c (some c) := by
      simp [List.getD_eq_getElem?_getD, hXl, hi]
    refine Safe.rg rfl ?_
    simp only [elim_copied_r6, lidx h2a rfl (some b.length) .i64 hi, lat h2a (show i < (X.set i (AV.mu (lid G 0) 0 c (some c))).length by rw [List.length_set]; omega), hxi, E3, seval]
    rw [lcpy h2b (by simp) (show srcEls (hap G2 []) 2 false (vecV b[i]) = some (b[i].map ZI.av) by simp [srcEls, vecV]) (by simpa using hbc), h2c, hap_nil]
    simp only [E3, seval]
    refine Safe.rg rfl ?_
    simp only [elim_copied_r7, hiw, E3, seval]
    refine Safe.keep [0, 3, 9, 10, 11] ?_
    simp only [E3, seval]
    exact ih
  · refine Safe.inLoop ?_
    refine Safe.rg rfl ?_
    simp only [elim_copied_r3, Int.lt_irrefl, E3, seval]
    refine Safe.cd rfl ?_
    simp only [E3, seval]
    refine Safe.rg rfl ?_
    simp only [elim_copied_r8, E3, seval]
    refine Safe.rt rfl ?_
    simp only [E3, seval]
    rw [mpart_full]
end Go.Abs
set_option linter.unusedVariables false
set_option linter.unusedSimpArgs false
namespace Go.Abs
/-- A matrix's logical entries: whole numbers. -/
structure Lz (n c K : Nat) (π : Nat → Nat) (S : Nat → Nat → AV) (f : Nat → Nat → Int) : Prop where
  lt : ∀ a, a < n → π a < n
  inj : ∀ a b, a < n → b < n → π a = π b → a = b
  at_ : ∀ a b, a < n → b < c → ∃ x : ZI, S (π a) b = x.av ∧ x.z = f a b ∧ Zok K x
  cl : ∀ a b, Cl (S a b)
theorem Lz.swap {n c K : Nat} {π : Nat → Nat} {S : Nat → Nat → AV} {f : Nat → Nat → Int} (h : Lz n c K π S f) {p r : Nat} (hp : p < n) (hr : r < n) : Lz n c K (swp π p r) S fun a b => if a = p then f r b else if a = r then f p b else f a b := by
  have h0 : Lk n c π S fun a b => S (π a) b := ⟨h.lt, h.inj, fun _ _ _ _ => rfl, h.cl⟩
  have hs := Lk.swap (f := fun x : AV => x) h0 hp hr
  refine ⟨hs.lt, hs.inj, fun a b ha hb => ?_, h.cl⟩
  unfold swp
  split
  · exact h.at_ r b hr hb
  · split
    · exact h.at_ p b hp hb
    · exact h.at_ a b ha hb
/-- Row j from a place on told anew. -/
def tailS (S : Nat → Nat → AV) (j : Nat) (f : Nat → AV) (t : Nat) : Nat → Nat → AV := fun a b => if a = j ∧ t ≤ b then f b else S a b
theorem tailS_at {S : Nat → Nat → AV} {j : Nat} {f : Nat → AV} {t b : Nat} (h : b < t) : tailS S j f t j b = S j b := by simp [tailS]; omega
theorem tailS_ne {S : Nat → Nat → AV} {j a : Nat} {f : Nat → AV} {t b : Nat} (h : a ≠ j) : tailS S j f t a b = S a b := by simp [tailS, h]
theorem tailS_step (S : Nat → Nat → AV) (j : Nat) (f : Nat → AV) (t : Nat) : upd2 (tailS S j f (t + 1)) j t (f t) = tailS S j f t := by
  funext a b
  unfold upd2 tailS
  by_cases h1 : a = j
  · subst h1
    by_cases h2 : b = t
    · subst h2; simp
    · by_cases h3 : t + 1 ≤ b
      · rw [if_pos rfl, if_neg h2, if_pos ⟨rfl, h3⟩, if_pos ⟨rfl, by omega⟩]
      · rw [if_pos rfl, if_neg h2, if_neg (by omega), if_neg (by omega)]
  · rw [if_neg h1, if_neg (by omega), if_neg (by omega)]
theorem tailS_cl {S : Nat → Nat → AV} {j : Nat} {f : Nat → AV} {t : Nat} (hS : ∀ a b, Cl (S a b)) (hf : ∀ b, Cl (f b)) : ∀ a b, Cl (tailS S j f t a b) := by
  intro a b; unfold tailS; split
  · exact hf b
  · exact hS a b
theorem rat_num_int {q : Rat} {z : Int} (h : q = z) : q.num = z ∧ (q.num : Rat) = q := by subst h; exact ⟨rfl, rfl⟩
section
variable {n c e K : Nat} (b : List (List ZI)) (B : Nat → Nat → Rat)
/-- The last head as a whole number. -/
def lastI (n : Nat) (B : Nat → Nat → Rat) (t : Nat) : Int := (gproc n B t).last.num
def ZgI (n : Nat) (B : Nat → Nat → Rat) (t a k : Nat) : Int := (Zg (gproc n B t) a k).num
section
variable (hB : Bd e B) (hn : n ≤ 64)
include hB hn
theorem lastI_eq (t : Nat) : (lastI n B t : Rat) = (gproc n B t).last ∧ (lastI n B t).natAbs ≤ LB ^ KB e := by
  obtain ⟨z, hz, hz1⟩ := lastD_gproc_kb hB hn t
  obtain ⟨h1, h2⟩ := rat_num_int hz
  exact ⟨h2, by unfold lastI; rw [h1]; exact hz1⟩
theorem ZgI_eq (t : Nat) {a : Nat} (k : Nat) (ha : a < n) : (ZgI n B t a k : Rat) = Zg (gproc n B t) a k ∧ (ZgI n B t a k).natAbs ≤ LB ^ KB e := by
  obtain ⟨z, hz, hz1⟩ := Zg_bound hB hn t k ha
  obtain ⟨h1, h2⟩ := rat_num_int hz
  exact ⟨h2, by unfold ZgI; rw [h1]; exact hz1⟩
omit hB hn in
theorem ZgI_unique (t : Nat) {a : Nat} (k : Nat) {z : Int} (h : (z : Rat) = Zg (gproc n B t) a k) : z = ZgI n B t a k := by
  unfold ZgI; rw [← h]; rfl
end
def bScp : ACode := .seq (.region elim_bareiss_r1 false) (.seq (.region elim_bareiss_r2 false) (.seq (.region elim_bareiss_r3 false) (.seq (.skip) (.seq (.seq (.region elim_bareiss_r4 false) (.block 0 (.loop elim_bareiss_l0))) (.seq (.region elim_bareiss_r26 true) (.ret))))))
theorem hrefs_hap {H X : Heap} (hH : HRefs H) (hX : ∀ b, some b ∈ X → ∀ a ∈ b.flat, Cl a) : HRefs (hap H X) := by
  intro id b hb a ha
  have hlen : (hap H X).length = H.length + X.length := by simp [hap]
  simp only [hap] at hb
  rcases Nat.lt_or_ge id H.length with h1 | h1
  · rw [List.getElem?_append_left h1] at hb
    exact (hH id b hb a ha).mono fun i hi => by have : i < H.length := hi; show i < _; omega
  · rw [List.getElem?_append_right h1] at hb
    exact (hX b (List.mem_of_getElem? hb) a ha).ref
/-- What bareiss hands out. -/
def bareissR (H : Heap) (n c e : Nat) (B : Nat → Nat → Rat) (r' : AV) (H' : Heap) : Prop := ∃ β π S L lx, Lz n c (KB e + 1) π S (ZgI n B c) ∧ H.length ≤ β ∧ β + n < (hap H L).length ∧ H' = hM (hap H L) β n 2 c (some c) π S ∧ HRefs H' ∧
      ZI.z lx = lastI n B c ∧ Zok (KB e + 1) lx ∧ r' = .tup [.mu β 0 n (some n), hsV (gproc n B c).cs, lx.av, .bool (gproc n B c).odd]
theorem bareiss_calls (hb : ∀ i, (h : i < b.length) → b[i].length = c) (hBb : ∀ a k, B a k = (zg (mg b a) k : Int)) (hm : Mok e b) (hB : Bd e B) (hn : b.length = n) (hn64 : n ≤ 64) (hc : c ≤ 2097152) (hK : KB e + 1 < 1099511627776) (H : Heap) :
    ACalls Pr F_elim_bareiss [matV b, .int .i64 c] H (bareissR H n c e B) := by
  refine ACalls.introH elim_bareiss_fn elim_bareiss_ok (Nat.le_of_ble_eq_true rfl) fun hH => ?_
  have hBi : ∀ i k, ∃ z : Int, B i k = z := fun i k => by obtain ⟨z, h, _⟩ := hB i k; exact ⟨z, h⟩
  refine Safe.rg rfl ?_
  simp only [elim_bareiss_r0, E3, seval]
  refine Safe.rg rfl ?_
  simp only [elim_bareiss_r1, E3, seval]
  refine (copied_calls b hb (by omega) hc (hap H [some ⟨2, [.agg [.bool false, .nil]]⟩])).mono ?_
  rintro r' H' ⟨rfl, rfl⟩
  simp only [E3, seval]
  have e0 : lid (hap H [some ⟨2, [.agg [.bool false, .nil]]⟩]) 0 = lid H 1 := by simp [hap, lid]
  rw [e0, hap_hap', hn]
  have hX : ∀ x, some x ∈ [some (Blk.mk 2 [.agg [.bool false, .nil]])] → ∀ a ∈ x.flat, Cl a := RC.zero RC.nil
  have hS0 : ∀ j k, Cl (zav b j k) := fun _ _ => ZI.cl _
  have hGr : HRefs (hap H ([some ⟨2, [.agg [.bool false, .nil]]⟩] ++ mrows (lid H 1) n 2 c (some c) (zav b))) := mrows_refs hH hX fun j k _ _ => hS0 j k
  have hGm : hM (hap H ([some ⟨2, [.agg [.bool false, .nil]]⟩] ++ mrows (lid H 1) n 2 c (some c) (zav b))) (lid H 1) n 2 c (some c) (fun i => i) (zav b) = hap H ([some ⟨2, [.agg [.bool false, .nil]]⟩] ++ mrows (lid H 1) n 2 c (some c) (zav b)) := hM_rows H [some ⟨2, [.agg [.bool false, .nil]]⟩] n 2 c (some c) (zav b)
  have hG : lid H 1 + n < (hap H ([some ⟨2, [.agg [.bool false, .nil]]⟩] ++ mrows (lid H 1) n 2 c (some c) (zav b))).length := mrows_lt H [some ⟨2, [.agg [.bool false, .nil]]⟩] n 2 c (some c) (zav b)
  have hbox : (hap H ([some ⟨2, [.agg [.bool false, .nil]]⟩] ++ mrows (lid H 1) n 2 c (some c) (zav b)))[lid H 0]? = some (some ⟨2, [.agg [.bool false, .nil]]⟩) := by
    simp only [hap, lid, Nat.add_zero]
    rw [List.getElem?_append_right (Nat.le_refl _)]; simp
  have hGH : ∃ L0, hap H ([some ⟨2, [.agg [.bool false, .nil]]⟩] ++ mrows (lid H 1) n 2 c (some c) (zav b)) = hap H L0 := ⟨_, rfl⟩
  rw [← hGm] at hGr
  rw [← hGm, ← hap_nil (hM _ _ _ _ _ _ _ _)]
  clear hGm
  generalize hap H ([some ⟨2, [.agg [.bool false, .nil]]⟩] ++ mrows (lid H 1) n 2 c (some c) (zav b)) = G at *
  have hb01 : lid H 0 < lid H 1 := by simp [lid]
  have hb0 : H.length ≤ lid H 1 := lid_ge H 1
  have hb00 : H.length ≤ lid H 0 := lid_ge H 0
  have hbl : lid H 0 = H.length := by simp [lid]
  generalize lid H 1 = β at *
  generalize lid H 0 = b0 at *
  have hHn : H.length ≤ G.length := by omega
  refine Safe.rg rfl ?_
  simp only [elim_bareiss_r2, E3, seval]
  refine Safe.nilrow 9 1 (by decide) (by simp only [E3, seval]) ?_
  refine Safe.rg rfl ?_
  simp only [elim_bareiss_r3, lid_hM, hrow_locM, set_locM, st_zeroM, E3, seval]
  first | refine (zof_pure 1 (by decide) (by decide)).acall ?_ | refine (zof_pure 1 (by decide) (by decide)).dcall ?_
  try simp only [E3, seval]
  simp only [lid_hM, hrow_locM, set_locM, st_zeroM, E3, seval]
  refine Safe.rg rfl ?_
  simp only [elim_bareiss_r4, lid_hM, hrow_locM, set_locM, st_zeroM, E3, seval]
  refine Safe.lp rfl ?_
  refine Safe.keep [6, 8, 9, 10, 11, 21, 22] ?_
  simp only [lid_hM, hrow_locM, set_locM, st_zeroM, E3, seval]
  have hlast0 : lastI n B 0 = 1 := by unfold lastI; rfl
  refine Safe.loopW (α := Nat × (Nat → Nat) × (Nat → Nat → AV) × ZI) (fun s => c - s.1)
    (fun s => [(6, .loc b0 0 0), (8, .mu β 0 n (some n)), (9, .mu (lid G 0) 0 (gproc n B s.1).cs.length none), (10, .loc (lid G 1) 0 0), (11, .bool (gproc n B s.1).odd), (21, .int .i64 c), (22, .int .i64 s.1)])
    (fun s => hap (hM G β n 2 c (some c) s.2.1 s.2.2.1) [some ⟨1, (gproc n B s.1).cs.map intV⟩, some ⟨2, [s.2.2.2.av]⟩])
    (fun s => s.1 ≤ c ∧ Lz n c (KB e + 1) s.2.1 s.2.2.1 (ZgI n B s.1) ∧ s.2.2.2.z = lastI n B s.1 ∧ Zok (KB e + 1) s.2.2.2) (0, fun i => i, zav b, canZ 1) rfl rfl
    ⟨Nat.zero_le _, ⟨fun a h => h, fun _ _ _ _ h => h, fun a k ha hk => ?_, hS0⟩, by rw [hlast0]; exact canZ_z 1, zok_can (lb_one _)⟩ ?_
  · refine ⟨(mg b a).getD k ⟨false, []⟩, rfl, ?_, ?_⟩
    · refine ZgI_unique B 0 k (a := a) ?_
      show ((zg (mg b a) k : Int) : Rat) = Zg (gproc n B 0) a k
      rw [Zg_low k (Nat.zero_le _)]
      show ((zg (mg b a) k : Int) : Rat) = lastD B [] * gauss B [] a k
      rw [lastD_nil, gauss_nil, hBb]; grind
    · have hr := hm.row a
      have hl : (mg b a).length = c := by rw [mg_lt (by omega)]; exact hb a (by omega)
      rw [List.getD_eq_getElem?_getD, List.getElem?_eq_getElem (by omega)]
      exact (hr.get (by omega)).mono (by unfold KB; omega)
  rintro ⟨t, π, S1, lx⟩ ⟨ht, hL, hlz, hlk⟩ ih
  simp only at ht hL hlz hlk ih ⊢
  have hok := gok_proc (n := n) hBi t
  have hrn := hok.len
  have hHr : ∀ {K : Nat} {π' : Nat → Nat} {S' : Nat → Nat → AV} {F : Nat → Nat → Int}, Lz n c K π' S' F → HRefs (hM G β n 2 c (some c) π' S') := fun h => hM_refs hG hGr h.lt fun a b _ _ => h.cl a b
  have htlt : t < 9223372036854775807 := by omega
  have htw : IntKind.wrap .i64 ((t : Int) + 1) = ((t + 1 : Nat) : Int) := by rw [wrap_i64] <;> omega
  refine Safe.inLoop ?_
  by_cases htc : t < c
  · have hlt : ((t : Int) < (c : Int)) = True := eq_true (by omega)
    refine Safe.rg rfl ?_
    simp only [elim_bareiss_r5, hlt, E3, seval]
    refine Safe.cd rfl ?_
    simp only [E3, seval]
    refine Safe.rg rfl ?_
    simp only [elim_bareiss_r6, E3, seval]
    refine Safe.rg rfl ?_
    simp only [elim_bareiss_r7, lid_hM, hrow_locM, set_locM, st_zeroM, E3, seval]
    refine Safe.rg rfl ?_
    simp only [elim_bareiss_r8, E3, seval]
    have entry : ∀ q, q < n → ∃ x : ZI, S1 (π q) t = x.av ∧ x.z = ZgI n B t q t ∧ Zok (KB e + 1) x := fun q hq => hL.at_ q t hq htc
    have hzg : ∀ q k, (gproc n B t).cs.length ≤ q → q < n → (ZgI n B t q k : Rat) = (gproc n B t).last * (gproc n B t).g q k := fun q k h1 h2 => by
      rw [(ZgI_eq B hB hn64 t k h2).1, Zg_low k h1]
    have hlne : (gproc n B t).last ≠ 0 := lastD_ne hok.piv
    have hz0 : ∀ q, (gproc n B t).cs.length ≤ q → q < n → (ZgI n B t q t = 0 ↔ (gproc n B t).g q t = 0) := fun q h1 h2 => by
      have h := hzg q t h1 h2
      constructor
      · intro h0; rw [h0] at h
        have : (gproc n B t).last * (gproc n B t).g q t = 0 := by rw [← h]; rfl
        rcases Rat.mul_eq_zero.1 this with h | h
        · exact absurd h hlne
        · exact h
      · intro h0; rw [h0, Rat.mul_zero] at h
        exact Rat.intCast_inj.1 (by rw [h]; rfl)
    rcases firstNZ_cases (fun p => (gproc n B t).g p t) (gproc n B t).cs.length n with ⟨p, hf, h1, h2, h3, h4⟩ | ⟨hf, h4⟩
    · have hcs : (gproc n B (t + 1)).cs = (gproc n B t).cs ++ [t] := by
        show (gstep n (gproc n B t) t).cs = _
        rw [gstep_some hf]
      have hodd : (gproc n B (t + 1)).odd = if p = (gproc n B t).cs.length then (gproc n B t).odd else !(gproc n B t).odd := by
        show (gstep n (gproc n B t) t).odd = _
        rw [gstep_some hf]
      have hr : (gproc n B t).cs.length < n := by omega
      obtain ⟨hlq, hlb⟩ := lastI_eq B hB hn64 t
      obtain ⟨hlq1, hlb1⟩ := lastI_eq B hB hn64 (t + 1)
      have hls := last_succ hf h1 hok
      have hgz := g_zero (n := n) hBi t
      have hgz1 := g_zero (n := n) hBi (t + 1)
      have hZab : ∀ a k, a < (gproc n B t).cs.length → ZgI n B (t + 1) a k = ZgI n B t a k := fun a k ha => by unfold ZgI; rw [Zg_above hf h1 k ha]
      have hZhd : ∀ k, ZgI n B (t + 1) (gproc n B t).cs.length k = ZgI n B t p k := fun k => by
        refine (ZgI_unique B (t + 1) k ?_).symm
        rw [hzg p k h1 h2, Zg_head hf h1 k]
      have hZpt : (ZgI n B t p t : Rat) = (gproc n B t).last * (gproc n B t).g p t := hzg p t h1 h2
      have hlast1 : ZgI n B t p t = lastI n B (t + 1) := Rat.intCast_inj.1 (by rw [hZpt, hlq1, hls])
      have hl0 : lastI n B t ≠ 0 := fun h => hlne (by rw [← hlq, h]; rfl)
      -- the new rows below
      have hrows : ∀ i k, (gproc n B t).cs.length < i → i < n → ZgI n B t p t * ZgI n B t (if i = p then (gproc n B t).cs.length else i) k - ZgI n B t (if i = p then (gproc n B t).cs.length else i) t * ZgI n B t p k = lastI n B t * ZgI n B (t + 1) i k := by
        intro i k hi hin
        have hσ1 : (gproc n B t).cs.length ≤ (if i = p then (gproc n B t).cs.length else i) := by split <;> omega
        have hσ2 : (if i = p then (gproc n B t).cs.length else i) < n := by split <;> omega
        obtain ⟨z, hz1, hz2⟩ := bareiss_exact hok (p := p) (c := t) (i := i) (k := k) h1 h3 hi hlq (hzg p t h1 h2) (hzg _ k hσ1 hσ2) (hzg _ t hσ1 hσ2) (hzg p k h1 h2)
        have : z = ZgI n B (t + 1) i k := by
          refine ZgI_unique B (t + 1) k ?_
          rw [hz2, Zg_below hf k hi, hls]
          have e : gproc n B (t + 1) = _ := gstep_some hf
          rw [e]; rfl
        rw [← this]; exact hz1
      have hzero : ∀ i k, (gproc n B t).cs.length < i → i < n → k < t → ZgI n B t (if i = p then (gproc n B t).cs.length else i) k = ZgI n B (t + 1) i k := by
        intro i k hi hin hk
        have hσ1 : (gproc n B t).cs.length ≤ (if i = p then (gproc n B t).cs.length else i) := by split <;> omega
        have hσ2 : (if i = p then (gproc n B t).cs.length else i) < n := by split <;> omega
        refine ZgI_unique B (t + 1) k ?_
        rw [hzg _ k hσ1 hσ2, hgz _ k hσ1 hσ2 hk, Zg_below hf k hi, hgz1 i k (by rw [hcs, len_snoc]; omega) hin (by omega)]
        grind
      have hZb : ∀ a k, a < n → (ZgI n B (t + 1) a k).natAbs < LB ^ (KB e + 1) := fun a k ha => by
        have h1 := (ZgI_eq B hB hn64 (t + 1) k ha).2
        have : LB ^ KB e < LB ^ (KB e + 1) := Nat.pow_lt_pow_right (by decide) (by omega)
        omega
      clear hlq hlq1 hls hgz hgz1 hzg
      generalize hcsl : (gproc n B t).cs.length = r at *
      let f0 : Nat → Nat → Int := fun a k => if a = p then ZgI n B t r k else if a = r then ZgI n B t p k else ZgI n B t a k
      have hf0r : ∀ k, f0 r k = ZgI n B t p k := fun k => by
        show (if r = p then ZgI n B t r k else if r = r then ZgI n B t p k else ZgI n B t r k) = _
        split
        · rename_i h; rw [h]
        · rw [if_pos rfl]
      have hf0i : ∀ i k, r < i → f0 i k = ZgI n B t (if i = p then r else i) k := fun i k hi => by
        show (if i = p then ZgI n B t r k else if i = r then ZgI n B t p k else ZgI n B t i k) = _
        split
        · rfl
        · rw [if_neg (by omega)]
      have hf0a : ∀ a k, a < r → f0 a k = ZgI n B t a k := fun a k ha => by
        show (if a = p then ZgI n B t r k else if a = r then ZgI n B t p k else ZgI n B t a k) = _
        rw [if_neg (by omega), if_neg (by omega)]
      have main : ∀ π', Lz n c (KB e + 1) π' S1 f0 → Safe ⟨Pr, fun _ _ => false, F_elim_bareiss, 147, [.tmp 4, .tmp 5, .cell 6 (some 2), .tmp 7], H.length⟩
          [.code (((ACode.region elim_bareiss_r15 false).seq (.block 4 (.loop elim_bareiss_l2))).seq ((ACode.region elim_bareiss_r23 false).seq (.region elim_bareiss_r24 false))),
            .inBlock 1, .code (.region elim_bareiss_r25 false), .inLoop elim_bareiss_l0, .inBlock 0, .code ((ACode.region elim_bareiss_r26 true).seq .ret), .inScope bScp]
          [(6, .loc b0 0 0), (8, .mu β 0 n (some n)), (9, .mu (lid G 0) 0 r none), (10, .loc (lid G 1) 0 0), (11, .bool (gproc n B (t + 1)).odd), (12, .int .i64 t), (13, .int .i64 r), (21, .int .i64 c), (22, .int .i64 t)]
          (hap (hM G β n 2 c (some c) π' S1) [some ⟨1, (gproc n B t).cs.map intV⟩, some ⟨2, [lx.av]⟩]) (bareissR H n c e B) := by
        intro π' hL'
        have hpr := hL'.lt r hr
        have hrw2 : IntKind.wrap .i64 ((r : Int) + 1) = ((r + 1 : Nat) : Int) := by rw [wrap_i64] <;> omega
        refine Safe.rg rfl ?_
        simp only [elim_bareiss_r15, hrw2, E3, seval]
        refine Safe.lp rfl ?_
        refine Safe.keep [6, 8, 9, 10, 11, 12, 13, 15, 21, 22] ?_
        try simp only [E3, seval]
        refine Safe.loopW (α := Nat × (Nat → Nat → AV)) (fun s => n - s.1)
          (fun s => [(6, .loc b0 0 0), (8, .mu β 0 n (some n)), (9, .mu (lid G 0) 0 r none), (10, .loc (lid G 1) 0 0), (11, .bool (gproc n B (t + 1)).odd), (12, .int .i64 t), (13, .int .i64 r), (15, .int .i64 s.1), (21, .int .i64 c), (22, .int .i64 t)])
          (fun s => hap (hM G β n 2 c (some c) π' s.2) [some ⟨1, (gproc n B t).cs.map intV⟩, some ⟨2, [lx.av]⟩])
          (fun s => r < s.1 ∧ s.1 ≤ n ∧ Lz n c (KB e + 1) π' s.2 (fun a k => if r < a ∧ a < s.1 then ZgI n B (t + 1) a k else f0 a k)) (r + 1, S1) rfl rfl
          ⟨Nat.lt_succ_self r, hr, hL'.lt, hL'.inj, fun a k ha hk => ?_, hL'.cl⟩ ?_
        · have := hL'.at_ a k ha hk
          show ∃ x : ZI, S1 (π' a) k = x.av ∧ x.z = (if r < a ∧ a < r + 1 then ZgI n B (t + 1) a k else f0 a k) ∧ Zok (KB e + 1) x
          rw [if_neg (by omega)]; exact this
        rintro ⟨i, S2⟩ ⟨hri, hin, hL2⟩ ih2
        simp only at hri hin hL2 ih2 ⊢
        refine Safe.inLoop ?_
        by_cases hi : i < n
        · have hlt2 : ((i : Int) < (n : Int)) = True := eq_true (by omega)
          have hiw : IntKind.wrap .i64 ((i : Int) + 1) = ((i + 1 : Nat) : Int) := by rw [wrap_i64] <;> omega
          have hcw : IntKind.wrap .i64 ((c : Int) - 1) = (c : Int) - 1 := wrap_i64 (by omega) (by omega)
          have hpi := hL2.lt i hi
          have hne : π' r ≠ π' i := fun h => by have := hL2.inj _ _ hr hi h; omega
          refine Safe.rg rfl ?_
          simp only [elim_bareiss_r16, M_len hG, hlt2, E3, seval]
          refine Safe.cd rfl ?_
          simp only [E3, seval]
          refine Safe.rg rfl ?_
          simp only [elim_bareiss_r17, M_idx hG hi, M_at hG hi, M_rlen hG hpi, hcw, E3, seval]
          refine Safe.lp rfl ?_
          refine Safe.keep [6, 8, 9, 10, 11, 12, 13, 15, 16, 21, 22] ?_
          try simp only [E3, seval]
          refine Safe.loopD (c - t) (fun m => [(6, .loc b0 0 0), (8, .mu β 0 n (some n)), (9, .mu (lid G 0) 0 r none), (10, .loc (lid G 1) 0 0), (11, .bool (gproc n B (t + 1)).odd), (12, .int .i64 t), (13, .int .i64 r), (15, .int .i64 i), (16, .int .i64 (((t + m : Nat) : Int) - 1)), (21, .int .i64 c), (22, .int .i64 t)])
            (fun m => hap (hM G β n 2 c (some c) π' (tailS S2 (π' i) (fun k => Z (ZgI n B (t + 1) i k)) (t + m))) [some ⟨1, (gproc n B t).cs.map intV⟩, some ⟨2, [lx.av]⟩]) ?_ ?_ (fun m hm ihm => ?_) ?_
          · rw [show t + (c - t) = c by omega]
          · rw [show t + (c - t) = c by omega]
            refine congrArg (fun x => hap x _) (hM_congr fun j k hj hk => ?_)
            unfold tailS; rw [if_neg (by omega)]
          · have hkc : t + m < c := by omega
            have e1 : (((t + (m + 1) : Nat) : Int) - 1) = ((t + m : Nat) : Int) := by omega
            rw [e1]
            have hge : (((t + m : Nat) : Int) ≥ (t : Int)) = True := eq_true (by omega)
            have hkw : IntKind.wrap .i64 (((t + m : Nat) : Int) - 1) = ((t + m : Nat) : Int) - 1 := wrap_i64 (by omega) (by omega)
            obtain ⟨x1, hx1, hz1, hk1⟩ := hL2.at_ r t hr htc
            obtain ⟨x2, hx2, hz2, hk2⟩ := hL2.at_ i (t + m) hi hkc
            obtain ⟨x3, hx3, hz3, hk3⟩ := hL2.at_ i t hi htc
            obtain ⟨x4, hx4, hz4, hk4⟩ := hL2.at_ r (t + m) hr hkc
            rw [if_neg (by omega), hf0r] at hz1 hz4
            rw [if_neg (by omega), hf0i i _ hri] at hz2 hz3
            have hex := hrows i (t + m) hri hi
            rw [← hz1, ← hz2, ← hz3, ← hz4, ← hlz] at hex
            have v1 : tailS S2 (π' i) (fun k => Z (ZgI n B (t + 1) i k)) (t + (m + 1)) (π' r) t = x1.av := by rw [tailS_ne hne]; exact hx1
            have v2 : tailS S2 (π' i) (fun k => Z (ZgI n B (t + 1) i k)) (t + (m + 1)) (π' i) (t + m) = x2.av := by rw [tailS_at (by omega)]; exact hx2
            have v3 : tailS S2 (π' i) (fun k => Z (ZgI n B (t + 1) i k)) (t + (m + 1)) (π' i) t = x3.av := by rw [tailS_at (by omega)]; exact hx3
            have v4 : tailS S2 (π' i) (fun k => Z (ZgI n B (t + 1) i k)) (t + (m + 1)) (π' r) (t + m) = x4.av := by rw [tailS_ne hne]; exact hx4
            have hstep := tailS_step S2 (π' i) (fun k => Z (ZgI n B (t + 1) i k)) (t + m)
            have hclS : ∀ a b, Cl (tailS S2 (π' i) (fun k => Z (ZgI n B (t + 1) i k)) (t + m) a b) := tailS_cl hL2.cl fun _ => Z_cl _
            have hm1 := mul_abs hk1.abs hk2.abs
            have hm2 := mul_abs hk3.abs hk4.abs
            have hs1 := sub_abs hm1 hm2
            rw [show t + (m + 1) = t + m + 1 by omega] at v1 v2 v3 v4 ⊢
            generalize tailS S2 (π' i) (fun k => Z (ZgI n B (t + 1) i k)) (t + m + 1) = St at *
            refine Safe.inLoop ?_
            refine Safe.rg rfl ?_
            simp only [elim_bareiss_r18, hge, E3, seval]
            refine Safe.cd rfl ?_
            simp only [E3, seval]
            refine Safe.rg rfl ?_
            simp only [elim_bareiss_r19, lid_hM, hrow_locM, set_locM, st_zeroM, M_idx hG hr, M_at hG hr, M_idx hG hi, M_at hG hi, E_idx hG hpr htc, E_at hG hpr htc, E_idx hG hpi hkc, E_at hG hpi hkc, E_idx hG hpi htc, E_at hG hpi htc, E_idx hG hpr hkc, E_at hG hpr hkc, v1, v2, v3, v4, E3, seval]
            refine (zmul_pure x1 x2 _ _ hk1 hk2 (by omega)).dcall ?_
            simp only [lid_hM, hrow_locM, set_locM, st_zeroM, M_idx hG hr, M_at hG hr, M_idx hG hi, M_at hG hi, E_idx hG hpi htc, E_at hG hpi htc, E_idx hG hpr hkc, E_at hG hpr hkc, v3, v4, E3, seval]
            refine (zmul_pure x3 x4 _ _ hk3 hk4 (by omega)).dcall ?_
            simp only [E3, seval]
            refine (zsub_can hm1 hm2 (by omega)).dcall ?_
            simp only [lid_hM, hrow_locM, set_locM, st_zeroM, E3, seval]
            have hfl := zfloor_exact (canZ (x1.z * x2.z - x3.z * x4.z)) lx (KB e + 1 + (KB e + 1) + 1) (zok_can hs1) (hlk.mono (by omega)) (by omega) (ZgI n B (t + 1) i (t + m)) (by rw [hlz]; exact hl0) (by rw [canZ_z]; exact hex)
            rw [canZ_av] at hfl
            refine Safe.rg rfl ?_
            simp only [elim_bareiss_r20, lid_hM, hrow_locM, set_locM, st_zeroM, M_idx hG hi, M_at hG hi, E_idx hG hpi hkc, E3, seval]
            refine hfl.dcall ?_
            simp only [lid_hM, hrow_locM, set_locM, st_zeroM, E_idx hG hpi hkc, E3, seval]
            simp only [E_st hG hpi hkc (Z_fit _) (show (Z _).cells.length = 2 from rfl), hstep, E3, seval]
            refine Safe.rg rfl ?_
            simp only [elim_bareiss_r21, hkw, E3, seval]
            refine Safe.keep [6, 8, 9, 10, 11, 12, 13, 15, 16, 21, 22] ?_
            simp only [E3, seval]
            have hnb2 : nref (lid G 2) (.mu β 0 n (some n)) = true := nref_ne (by unfold lid; omega)
            have hnb3 : nref (lid G 2) (.loc b0 0 0) = true := nref_iff.2 (.loc _ _ _ (by show b0 ≠ _; unfold lid; omega))
            refine Safe.dropM [some ⟨1, (gproc n B t).cs.map intV⟩, some ⟨2, [lx.av]⟩] (hM_refs hG hGr hL'.lt fun a b _ _ => hclS a b) (by show H.length ≤ _; exact hHn) (by simp only [List.all_cons, List.all_nil, hnb2, hnb3, E3, seval]) (RC.row intV_cl (RC.one (ZI.cl _) RC.nil)) ?_
            exact ihm
          · have hge : ((t : Int) - 1 ≥ (t : Int)) = False := eq_false (by omega)
            refine Safe.inLoop ?_
            refine Safe.rg rfl ?_
            simp only [elim_bareiss_r18, hge, E3, seval]
            refine Safe.cd rfl ?_
            simp only [E3, seval]
            refine Safe.rg rfl ?_
            simp only [elim_bareiss_r22, hiw, E3, seval]
            refine Safe.keep [6, 8, 9, 10, 11, 12, 13, 15, 21, 22] ?_
            simp only [E3, seval]
            refine ih2 (i + 1, _) ⟨Nat.lt_succ_of_lt hri, hi, hL2.lt, hL2.inj, fun a k ha hk => ?_, tailS_cl hL2.cl fun _ => Z_cl _⟩ (by show n - (i + 1) < n - i; omega)
            show ∃ x : ZI, tailS S2 (π' i) (fun k => Z (ZgI n B (t + 1) i k)) t (π' a) k = x.av ∧ x.z = (if r < a ∧ a < i + 1 then ZgI n B (t + 1) a k else f0 a k) ∧ Zok (KB e + 1) x
            by_cases hai : a = i
            · subst hai
              rw [if_pos ⟨hri, Nat.lt_succ_self a⟩]
              by_cases hkt : t ≤ k
              · refine ⟨canZ (ZgI n B (t + 1) a k), ?_, canZ_z _, zok_can (hZb a k ha)⟩
                unfold tailS; rw [if_pos ⟨rfl, hkt⟩, canZ_av]
              · obtain ⟨x, hx, hz, hk'⟩ := hL2.at_ a k ha hk
                rw [if_neg (by omega), hf0i a k hri, hzero a k hri ha (by omega)] at hz
                exact ⟨x, by rw [tailS_at (by omega)]; exact hx, hz, hk'⟩
            · obtain ⟨x, hx, hz, hk'⟩ := hL2.at_ a k ha hk
              refine ⟨x, by rw [tailS_ne (fun h => hai (hL2.inj _ _ ha hi h))]; exact hx, ?_, hk'⟩
              rw [hz]
              by_cases h5 : r < a ∧ a < i
              · rw [if_pos h5, if_pos ⟨h5.1, by omega⟩]
              · rw [if_neg h5, if_neg (by omega)]
        · have hin' : i = n := by omega
          subst hin'
          refine Safe.rg rfl ?_
          simp only [elim_bareiss_r16, M_len hG, Int.lt_irrefl, E3, seval]
          refine Safe.cd rfl ?_
          simp only [E3, seval]
          have hL3 : Lz i c (KB e + 1) π' S2 (ZgI i B (t + 1)) := by
            refine ⟨hL2.lt, hL2.inj, fun a k ha hk => ?_, hL2.cl⟩
            obtain ⟨x, hx, hz, hk'⟩ := hL2.at_ a k ha hk
            refine ⟨x, hx, ?_, hk'⟩
            rw [hz]
            rcases Nat.lt_trichotomy a r with h | h | h
            · rw [if_neg (by omega), hf0a a k h, hZab a k h]
            · subst h; rw [if_neg (by omega), hf0r, hZhd]
            · rw [if_pos ⟨h, ha⟩]
          obtain ⟨x1, hx1, hz1, hk1⟩ := hL3.at_ r t hr htc
          rw [hZhd, hlast1] at hz1
          have hnb2 : nref (lid G 0) (.mu β 0 i (some i)) = true := nref_ne (by unfold lid; omega)
          have hnb3 : nref (lid G 0) (.loc b0 0 0) = true := nref_iff.2 (.loc _ _ _ (by show b0 ≠ _; unfold lid; omega))
          refine Safe.rg rfl ?_
          simp only [elim_bareiss_r23, lid_hM, hrow_locM, set_locM, st_zeroM, M_idx hG hr, M_at hG hr, E_idx hG hpr htc, E_at hG hpr htc, hx1, E3, seval]
          have hRC : RC [some ⟨1, (gproc i B t).cs.map intV⟩, some ⟨2, [x1.av]⟩] := RC.row intV_cl (RC.one (ZI.cl _) RC.nil)
          refine Safe.rg rfl ?_
          simp only [elim_bareiss_r24, E3, seval]
          have happ := fun env : Env => app_rowM (hHr hL3) (L := [some ⟨1, (gproc i B t).cs.map intV⟩, some ⟨2, [x1.av]⟩]) 0 (n0 := H.length) (Nat.le_trans hHn (lid_ge G 0)) (env := env) (wd := 1) (bytes := 8) (f := intV) (y := .int .i64 (t : Int)) intV_cl (gproc i B t).cs t hcsl.symm rfl hRC rfl (by omega) (by omega)
          simp only [ZI.av] at happ
          rw [happ]
          simp only [hnb2, hnb3, List.set_cons_succ, List.set_cons_zero, E3, seval]
          refine Safe.rg rfl ?_
          simp only [elim_bareiss_r25, htw, E3, seval]
          refine Safe.keep [6, 8, 9, 10, 11, 21, 22] ?_
          simp only [E3, seval]
          have hfin := ih (t + 1, π', S2, x1) ⟨htc, hL3, hz1, hk1⟩ (by show c - (t + 1) < c - t; omega)
          simp only [hcs, len_snoc, hcsl] at hfin
          exact hfin
      -- the head's row
      refine Safe.lp rfl ?_
      refine Safe.keep [6, 8, 9, 10, 11, 12, 13, 14, 21, 22] ?_
      try simp only [E3, seval]
      refine Safe.loopN (p - r) (fun j => [(6, .loc b0 0 0), (8, .mu β 0 n (some n)), (9, .mu (lid G 0) 0 r none), (10, .loc (lid G 1) 0 0), (11, .bool (gproc n B t).odd), (12, .int .i64 t), (13, .int .i64 r), (14, .int .i64 ((r + j : Nat) : Int)), (21, .int .i64 c), (22, .int .i64 t)])
        (fun _ => hap (hM G β n 2 c (some c) π S1) [some ⟨1, (gproc n B t).cs.map intV⟩, some ⟨2, [lx.av]⟩]) rfl rfl (fun j hj2 ihj => ?_) ?_
      · have hq : r + j < n := by omega
        have hlt2 : (((r + j : Nat) : Int) < (n : Int)) = True := eq_true (by omega)
        have hpq := hL.lt (r + j) hq
        have hqw : IntKind.wrap .i64 (((r + j : Nat) : Int) + 1) = ((r + (j + 1) : Nat) : Int) := by rw [wrap_i64] <;> omega
        obtain ⟨x, v4, hxz, hxk⟩ := entry (r + j) hq
        have hz : ZgI n B t (r + j) t = 0 := (hz0 _ (by omega) hq).2 (h4 _ (by omega) (by omega))
        rw [hz] at hxz
        refine Safe.inLoop ?_
        refine Safe.rg rfl ?_
        simp only [elim_bareiss_r9, M_len hG, hlt2, M_idx hG hq, M_at hG hq, E_idx hG hpq htc, E_at hG hpq htc, v4, E3, seval]
        refine (zsign_pure x (hxk.mono (by omega))).acall ?_
        simp only [hxz, Int.sign_zero, E3, seval]
        refine Safe.cd rfl ?_
        simp only [E3, seval]
        refine Safe.rg rfl ?_
        simp only [elim_bareiss_r10, hqw, E3, seval]
        refine Safe.keep [6, 8, 9, 10, 11, 12, 13, 14, 21, 22] ?_
        simp only [E3, seval]
        refine Safe.inBlock ?_
        exact ihj
      · have hrp : r + (p - r) = p := by omega
        rw [hrp]
        have hlt2 : ((p : Int) < (n : Int)) = True := eq_true (by omega)
        have hpq := hL.lt p h2
        obtain ⟨x, v4, hxz, hxk⟩ := entry p h2
        have hz : (x.z.sign = 0) = False := eq_false (by rw [hxz, Int.sign_eq_zero_iff_zero, hz0 p h1 h2]; exact h3)
        have hpn : ((p : Int) = (n : Int)) = False := eq_false (by omega)
        refine Safe.inLoop ?_
        refine Safe.rg rfl ?_
        simp only [elim_bareiss_r9, M_len hG, hlt2, M_idx hG h2, M_at hG h2, E_idx hG hpq htc, E_at hG hpq htc, v4, E3, seval]
        refine (zsign_pure x (hxk.mono (by omega))).acall ?_
        simp only [hz, E3, seval]
        refine Safe.cd rfl ?_
        simp only [E3, seval]
        refine Safe.rg rfl ?_
        simp only [elim_bareiss_r11, M_len hG, hpn, E3, seval]
        refine Safe.cd rfl ?_
        simp only [E3, seval]
        by_cases hpr : p = r
        · have hpr1 : ((p : Int) = (r : Int)) = True := eq_true (by omega)
          refine Safe.rg rfl ?_
          simp only [elim_bareiss_r12, hpr1, E3, seval]
          refine Safe.cd rfl ?_
          simp only [E3, seval]
          refine Safe.keep [6, 8, 9, 10, 11, 12, 13, 21, 22] ?_
          simp only [E3, seval]
          have hm := main π (by
            refine ⟨hL.lt, hL.inj, fun a k ha hk => ?_, hL.cl⟩
            obtain ⟨x, hx, hz, hk'⟩ := hL.at_ a k ha hk
            refine ⟨x, hx, ?_, hk'⟩
            rw [hz]
            show _ = if a = p then ZgI n B t r k else if a = r then ZgI n B t p k else ZgI n B t a k
            split
            · rename_i h; rw [h, hpr]
            · split
              · rename_i h; omega
              · rfl)
          rw [hodd, if_pos hpr] at hm
          refine Safe.skip ?_
          exact hm
        · have hpr1 : ((p : Int) = (r : Int)) = False := eq_false (by omega)
          refine Safe.rg rfl ?_
          simp only [elim_bareiss_r12, hpr1, E3, seval]
          refine Safe.cd rfl ?_
          simp only [E3, seval]
          refine Safe.rg rfl ?_
          simp only [elim_bareiss_r13, M_idx hG h2, M_at hG h2, M_idx hG hr, M_at hG hr, E3, seval]
          simp only [M_st hG h2, M_idx hG hr, M_st hG hr, swp_at, E3, seval]
          refine Safe.rg rfl ?_
          simp only [elim_bareiss_r14, E3, seval]
          refine Safe.keep [6, 8, 9, 10, 11, 12, 13, 21, 22] ?_
          simp only [E3, seval]
          have hm := main (swp π p r) (Lz.swap hL h2 hr)
          rw [hodd, if_neg hpr] at hm
          exact hm
    · -- no head in this column
      have hcs : gproc n B (t + 1) = gproc n B t := gstep_none hf
      generalize hcsl : (gproc n B t).cs.length = r at *
      refine Safe.lp rfl ?_
      refine Safe.keep [6, 8, 9, 10, 11, 12, 13, 14, 21, 22] ?_
      try simp only [E3, seval]
      refine Safe.loopN (n - r) (fun j => [(6, .loc b0 0 0), (8, .mu β 0 n (some n)), (9, .mu (lid G 0) 0 r none), (10, .loc (lid G 1) 0 0), (11, .bool (gproc n B t).odd), (12, .int .i64 t), (13, .int .i64 r), (14, .int .i64 ((r + j : Nat) : Int)), (21, .int .i64 c), (22, .int .i64 t)])
        (fun _ => hap (hM G β n 2 c (some c) π S1) [some ⟨1, (gproc n B t).cs.map intV⟩, some ⟨2, [lx.av]⟩]) rfl rfl (fun j hj2 ihj => ?_) ?_
      · have hq : r + j < n := by omega
        have hlt2 : (((r + j : Nat) : Int) < (n : Int)) = True := eq_true (by omega)
        have hpq := hL.lt (r + j) hq
        have hqw : IntKind.wrap .i64 (((r + j : Nat) : Int) + 1) = ((r + (j + 1) : Nat) : Int) := by rw [wrap_i64] <;> omega
        obtain ⟨x, v4, hxz, hxk⟩ := entry (r + j) hq
        have hz : ZgI n B t (r + j) t = 0 := (hz0 _ (by omega) hq).2 (h4 _ (by omega) (by omega))
        rw [hz] at hxz
        refine Safe.inLoop ?_
        refine Safe.rg rfl ?_
        simp only [elim_bareiss_r9, M_len hG, hlt2, M_idx hG hq, M_at hG hq, E_idx hG hpq htc, E_at hG hpq htc, v4, E3, seval]
        refine (zsign_pure x (hxk.mono (by omega))).acall ?_
        simp only [hxz, Int.sign_zero, E3, seval]
        refine Safe.cd rfl ?_
        simp only [E3, seval]
        refine Safe.rg rfl ?_
        simp only [elim_bareiss_r10, hqw, E3, seval]
        refine Safe.keep [6, 8, 9, 10, 11, 12, 13, 14, 21, 22] ?_
        simp only [E3, seval]
        refine Safe.inBlock ?_
        exact ihj
      · have hrp : r + (n - r) = n := by omega
        rw [hrp]
        refine Safe.inLoop ?_
        refine Safe.rg rfl ?_
        simp only [elim_bareiss_r9, M_len hG, Int.lt_irrefl, E3, seval]
        refine Safe.cd rfl ?_
        simp only [E3, seval]
        refine Safe.rg rfl ?_
        simp only [elim_bareiss_r11, M_len hG, E3, seval]
        refine Safe.cd rfl ?_
        simp only [E3, seval]
        refine Safe.rg rfl ?_
        simp only [elim_bareiss_r25, htw, E3, seval]
        refine Safe.keep [6, 8, 9, 10, 11, 21, 22] ?_
        simp only [E3, seval]
        have hz1 : ZgI n B (t + 1) = ZgI n B t := by funext a k; unfold ZgI; rw [hcs]
        have hl1 : lastI n B (t + 1) = lastI n B t := by unfold lastI; rw [hcs]
        have hfin := ih (t + 1, π, S1, lx) ⟨htc, by rw [hz1]; exact hL, by rw [hl1]; exact hlz, hlk⟩ (by show c - (t + 1) < c - t; omega)
        simp only [hcs, hcsl] at hfin
        exact hfin
  · have htc' : t = c := by omega
    subst htc'
    refine Safe.rg rfl ?_
    simp only [elim_bareiss_r5, Int.lt_irrefl, E3, seval]
    refine Safe.cd rfl ?_
    simp only [E3, seval]
    have hnb2 : frz (lid G 0) ⟨1, (gproc n B t).cs.map intV⟩ (.mu β 0 n (some n)) = .mu β 0 n (some n) := frz_ref (.mu _ _ _ _ (by show β ≠ _; unfold lid; omega))
    have hnb3 : frz (lid G 0) ⟨1, (gproc n B t).cs.map intV⟩ (.loc b0 0 0) = .loc b0 0 0 := frz_ref (.loc _ _ _ (by show b0 ≠ _; unfold lid; omega))
    have hcl : frz (lid G 0) ⟨1, (gproc n B t).cs.map intV⟩ (.mu (lid G 0) 0 (gproc n B t).cs.length none) = hsV (gproc n B t).cs := frz_mu_map (H := G) 0 1 intV _ none
    refine Safe.freezeM 0 (hHr hL) (by show H.length ≤ _; exact hHn) rfl (blk_map 1 intV _ intV_cl) ?_
    refine Safe.keep [6, 8, 9, 10, 11] ?_
    simp only [hnb2, hnb3, hcl, frz_loc_other, ZI.av_frz, E3, seval]
    refine Safe.rg rfl ?_
    simp only [elim_bareiss_r26, lid_hM, hrow_locM, set_locM, st_zeroM, E3, seval]
    have hbox' : (G.set b0 (some ⟨2, [.agg [.bool lx.neg, natV lx.mag]]⟩))[b0]? = some (some ⟨2, [.agg [.bool lx.neg, natV lx.mag]]⟩) := by
      rw [List.getElem?_set]; simp; omega
    have hG' : β + n < (G.set b0 (some ⟨2, [.agg [.bool lx.neg, natV lx.mag]]⟩)).length := by rw [List.length_set]; exact hG
    simp only [st_low hG hb01 hbox (show (AV.agg [.bool lx.neg, natV lx.mag]).fit = true from rfl) (show (AV.agg [.bool lx.neg, natV lx.mag]).cells.length = 2 from rfl), E3, seval]
    refine Safe.rt rfl ?_
    simp only [at_low hG' hb01 hbox', E3, seval]
    obtain ⟨L0, hL0⟩ := hGH
    have hH1 : HRefs (hM (G.set b0 (some ⟨2, [.agg [.bool lx.neg, natV lx.mag]]⟩)) β n 2 t (some t) π S1) := by
      have e := set_low (L := []) (O := orow β n t (some t) π) (R := fun j => some ⟨2, fr t (S1 j)⟩) hG hb01 (some ⟨2, [.agg [.bool lx.neg, natV lx.mag]]⟩)
      rw [hap_nil, hap_nil] at e
      unfold hM
      rw [← e]
      refine HRefs.set (hHr hL) b0 fun a ha => ?_
      have := RC.one (wd := 2) (ZI.cl lx) RC.nil ⟨2, [lx.av]⟩ (by simp) a ha
      exact this.ref
    have hGs : G.set b0 (some ⟨2, [.agg [.bool lx.neg, natV lx.mag]]⟩) = hap H (L0.set 0 (some ⟨2, [.agg [.bool lx.neg, natV lx.mag]]⟩)) := by
      rw [hL0, hbl]
      simp only [hap]
      rw [List.set_append_right _ _ (Nat.le_refl _), Nat.sub_self]
    refine ⟨β, π, S1, L0.set 0 (some ⟨2, [.agg [.bool lx.neg, natV lx.mag]]⟩) ++ [none, some ⟨2, [lx.av]⟩], lx, hL, hb0, ?_, ?_, ?_, hlz, hlk, rfl⟩
    · have : G.length = H.length + L0.length := by rw [hL0]; simp [hap]
      simp [hap]; omega
    · rw [hap_hM _ _ _ _ _ _ _ _ _ hG', hGs, hap_hap']
    · exact hrefs_hap hH1 (RC.none (RC.one (ZI.cl _) RC.nil))
end
end Go.Abs
set_option linter.unusedVariables false
set_option linter.unusedSimpArgs false
namespace Go.Abs
/-- A matrix's entries as fractions. -/
def Bm (b : List (List ZI)) : Nat → Nat → Rat := fun a k => (zg (mg b a) k : Int)
theorem Bm_bd {b : List (List ZI)} {e : Nat} (h : Mok e b) : Bd e (Bm b) := fun a k => ⟨zg (mg b a) k, rfl, Nat.le_of_lt ((h.row a).abs k)⟩
theorem hs_len (H : Heap) (cs : List Nat) : lenV H (hsV cs) = some (.int .i64 cs.length) := sl_len H 1 intV cs
/-- The error of a matrix. -/
noncomputable def elE (b : List (List ZI)) : Int := @ite _ (Rect b) (Classical.propDecidable _) (if b.length > 64 ∨ wid b > 64 then 60 else 0) 8
theorem elE_cases (b : List (List ZI)) : (¬ Rect b ∧ elE b = 8) ∨ (Rect b ∧ (b.length > 64 ∨ wid b > 64) ∧ elE b = 60) ∨ (Rect b ∧ b.length ≤ 64 ∧ wid b ≤ 64 ∧ elE b = 0) := by
  unfold elE
  by_cases h : Rect b
  · by_cases h2 : b.length > 64 ∨ wid b > 64
    · exact .inr (.inl ⟨h, h2, by rw [if_pos h, if_pos h2]⟩)
    · exact .inr (.inr ⟨h, by omega, by omega, by rw [if_pos h, if_neg h2]⟩)
  · exact .inl ⟨h, by rw [if_neg h]⟩
noncomputable def askT (b : List (List ZI)) : AV := if elE b = 0 then .tup [.int .i64 b.length, .int .i64 (wid b), .int .i64 0] else .tup [.int .i64 0, .int .i64 0, .int .i64 (elE b)]
section
variable (b : List (List ZI)) {e : Nat} (hm : Mok e b)
include hm
theorem asked_pure : PureC Pr F_elim_asked [matV b] (askT b) := by
  have hw : wid b ≤ 2097152 := (hm.row 0).len
  rcases elE_cases b with ⟨hr, he⟩ | ⟨hr, h2, he⟩ | ⟨hr, h2, h3, he⟩
  · unfold askT
    rw [he, if_neg (by decide)]
    refine PureC.intro elim_asked_fn elim_asked_ok (Nat.le_of_ble_eq_true rfl) (cl3i _ _ _) fun H hH => ?_
    refine Safe.rg rfl ?_
    simp only [elim_asked_r0, E3, seval]
    refine Safe.rg rfl ?_
    simp only [elim_asked_r1, E3, seval]
    first | refine (mshape_bad b e hm hr).acall ?_ | refine (mshape_bad b e hm hr).dcall ?_
    try simp only [E3, seval]
    refine Safe.rg rfl ?_
    simp only [elim_asked_r2, E3, seval]
    refine Safe.cd rfl ?_
    simp only [E3, seval]
    refine Safe.rg rfl ?_
    simp only [elim_asked_r3, E3, seval]
    refine Safe.rt rfl ?_
    simp only [one3, E3, seval]
    first | exact ⟨rfl, _, rfl⟩ | exact ⟨_, rfl⟩ | exact ⟨trivial, _, rfl⟩
  · unfold askT
    rw [he, if_neg (by decide)]
    refine PureC.intro elim_asked_fn elim_asked_ok (Nat.le_of_ble_eq_true rfl) (cl3i _ _ _) fun H hH => ?_
    refine Safe.rg rfl ?_
    simp only [elim_asked_r0, E3, seval]
    refine Safe.rg rfl ?_
    simp only [elim_asked_r1, E3, seval]
    first | refine (mshape_ok b e hm hr).acall ?_ | refine (mshape_ok b e hm hr).dcall ?_
    try simp only [E3, seval]
    refine Safe.rg rfl ?_
    simp only [elim_asked_r2, E3, seval]
    refine Safe.cd rfl ?_
    simp only [E3, seval]
    by_cases h : b.length > 64
    · have hc : ((b.length : Int) > 64) = True := eq_true (by omega)
      refine Safe.rg rfl ?_
      simp only [elim_asked_r4, hc, E3, seval]
      refine Safe.cd rfl ?_
      simp only [E3, seval]
      refine Safe.rg rfl ?_
      simp only [elim_asked_r5, E3, seval]
      refine Safe.rt rfl ?_
      simp only [one3, E3, seval]
      first | exact ⟨rfl, _, rfl⟩ | exact ⟨_, rfl⟩ | exact ⟨trivial, _, rfl⟩
    · have hc : ((b.length : Int) > 64) = False := eq_false (by omega)
      have hc2 : ((wid b : Int) > 64) = True := eq_true (by omega)
      refine Safe.rg rfl ?_
      simp only [elim_asked_r4, hc, hc2, E3, seval]
      refine Safe.cd rfl ?_
      simp only [E3, seval]
      refine Safe.rg rfl ?_
      simp only [elim_asked_r5, E3, seval]
      refine Safe.rt rfl ?_
      simp only [one3, E3, seval]
      first | exact ⟨rfl, _, rfl⟩ | exact ⟨_, rfl⟩ | exact ⟨trivial, _, rfl⟩
  · unfold askT
    rw [he, if_pos rfl]
    have hc : ((b.length : Int) > 64) = False := eq_false (by omega)
    have hc2 : ((wid b : Int) > 64) = False := eq_false (by omega)
    refine PureC.intro elim_asked_fn elim_asked_ok (Nat.le_of_ble_eq_true rfl) (cl3i _ _ _) fun H hH => ?_
    refine Safe.rg rfl ?_
    simp only [elim_asked_r0, E3, seval]
    refine Safe.rg rfl ?_
    simp only [elim_asked_r1, E3, seval]
    first | refine (mshape_ok b e hm hr).acall ?_ | refine (mshape_ok b e hm hr).dcall ?_
    try simp only [E3, seval]
    refine Safe.rg rfl ?_
    simp only [elim_asked_r2, E3, seval]
    refine Safe.cd rfl ?_
    simp only [E3, seval]
    refine Safe.rg rfl ?_
    simp only [elim_asked_r4, hc, hc2, E3, seval]
    refine Safe.cd rfl ?_
    simp only [E3, seval]
    refine Safe.rg rfl ?_
    simp only [elim_asked_r6, E3, seval]
    refine Safe.rt rfl ?_
    simp only [one3, E3, seval]
    first | exact ⟨rfl, _, rfl⟩ | exact ⟨_, rfl⟩ | exact ⟨trivial, _, rfl⟩
theorem check_pure : PureC Pr F_ref06_Check [matV b] (.int .i64 (elE b)) := by
  rcases elE_cases b with ⟨hr, he⟩ | ⟨hr, h2, he⟩ | ⟨hr, h2, h3, he⟩
  · rw [he]
    refine PureC.intro ref06_Check_fn ref06_Check_ok (Nat.le_of_ble_eq_true rfl) (.int _ _) fun H hH => ?_
    refine Safe.rg rfl ?_
    simp only [ref06_Check_r0, E3, seval]
    refine Safe.rg rfl ?_
    simp only [ref06_Check_r1, E3, seval]
    first | refine (rshape_bad b e hm hr).acall ?_ | refine (rshape_bad b e hm hr).dcall ?_
    try simp only [E3, seval]
    refine Safe.rg rfl ?_
    simp only [ref06_Check_r2, E3, seval]
    refine Safe.cd rfl ?_
    simp only [E3, seval]
    refine Safe.rg rfl ?_
    simp only [ref06_Check_r3, E3, seval]
    refine Safe.rt rfl ?_
    simp only [E3, seval]
    first | exact ⟨rfl, _, rfl⟩ | exact ⟨_, rfl⟩ | exact ⟨trivial, _, rfl⟩
  · rw [he]
    refine PureC.intro ref06_Check_fn ref06_Check_ok (Nat.le_of_ble_eq_true rfl) (.int _ _) fun H hH => ?_
    refine Safe.rg rfl ?_
    simp only [ref06_Check_r0, E3, seval]
    refine Safe.rg rfl ?_
    simp only [ref06_Check_r1, E3, seval]
    first | refine (rshape_ok b e hm hr).acall ?_ | refine (rshape_ok b e hm hr).dcall ?_
    try simp only [E3, seval]
    refine Safe.rg rfl ?_
    simp only [ref06_Check_r2, E3, seval]
    refine Safe.cd rfl ?_
    simp only [E3, seval]
    by_cases h : b.length > 64
    · have hc : ((b.length : Int) > 64) = True := eq_true (by omega)
      refine Safe.rg rfl ?_
      simp only [ref06_Check_r4, hc, E3, seval]
      refine Safe.cd rfl ?_
      simp only [E3, seval]
      refine Safe.rg rfl ?_
      simp only [ref06_Check_r5, E3, seval]
      refine Safe.rt rfl ?_
      simp only [E3, seval]
      first | exact ⟨rfl, _, rfl⟩ | exact ⟨_, rfl⟩ | exact ⟨trivial, _, rfl⟩
    · have hc : ((b.length : Int) > 64) = False := eq_false (by omega)
      have hc2 : ((wid b : Int) > 64) = True := eq_true (by omega)
      refine Safe.rg rfl ?_
      simp only [ref06_Check_r4, hc, hc2, E3, seval]
      refine Safe.cd rfl ?_
      simp only [E3, seval]
      refine Safe.rg rfl ?_
      simp only [ref06_Check_r5, E3, seval]
      refine Safe.rt rfl ?_
      simp only [E3, seval]
      first | exact ⟨rfl, _, rfl⟩ | exact ⟨_, rfl⟩ | exact ⟨trivial, _, rfl⟩
  · rw [he]
    have hc : ((b.length : Int) > 64) = False := eq_false (by omega)
    have hc2 : ((wid b : Int) > 64) = False := eq_false (by omega)
    refine PureC.intro ref06_Check_fn ref06_Check_ok (Nat.le_of_ble_eq_true rfl) (.int _ _) fun H hH => ?_
    refine Safe.rg rfl ?_
    simp only [ref06_Check_r0, E3, seval]
    refine Safe.rg rfl ?_
    simp only [ref06_Check_r1, E3, seval]
    first | refine (rshape_ok b e hm hr).acall ?_ | refine (rshape_ok b e hm hr).dcall ?_
    try simp only [E3, seval]
    refine Safe.rg rfl ?_
    simp only [ref06_Check_r2, E3, seval]
    refine Safe.cd rfl ?_
    simp only [E3, seval]
    refine Safe.rg rfl ?_
    simp only [ref06_Check_r4, hc, hc2, E3, seval]
    refine Safe.cd rfl ?_
    simp only [E3, seval]
    refine Safe.rg rfl ?_
    simp only [ref06_Check_r6, E3, seval]
    refine Safe.rt rfl ?_
    simp only [E3, seval]
    first | exact ⟨rfl, _, rfl⟩ | exact ⟨_, rfl⟩ | exact ⟨trivial, _, rfl⟩
theorem cols_pure (hr : Rect b) : PureC Pr F_ref06_cols [matV b] (.int .i64 (wid b)) := by
  refine PureC.intro ref06_cols_fn ref06_cols_ok (Nat.le_of_ble_eq_true rfl) (.int _ _) fun H hH => ?_
  refine Safe.rg rfl ?_
  simp only [ref06_cols_r0, E3, seval]
  refine Safe.rg rfl ?_
  simp only [ref06_cols_r1, E3, seval]
  first | refine (rshape_ok b e hm hr).acall ?_ | refine (rshape_ok b e hm hr).dcall ?_
  try simp only [E3, seval]
  refine Safe.rg rfl ?_
  simp only [ref06_cols_r2, E3, seval]
  refine Safe.rt rfl ?_
  simp only [E3, seval]
  first | exact ⟨rfl, _, rfl⟩ | exact ⟨_, rfl⟩ | exact ⟨trivial, _, rfl⟩
end
theorem rect_rows {b : List (List ZI)} (h : elE b = 0) : b.length ≤ 64 ∧ wid b ≤ 64 ∧ Rect b ∧ ∀ i, (h : i < b.length) → b[i].length = wid b := by
  rcases elE_cases b with ⟨_, h⟩ | ⟨_, _, h⟩ | ⟨hr, h2, h3, _⟩
  · omega
  · omega
  · refine ⟨h2, h3, hr, fun i hi => ?_⟩
    have := hr i hi
    rw [mg_lt hi] at this
    exact this
end Go.Abs
set_option linter.unusedVariables false
set_option linter.unusedSimpArgs false
namespace Go.Abs
theorem reduced_rows {B : Nat → Nat → Rat} {e n c : Nat} (hB : Bd e B) (hn : n ≤ 64) (hc : c ≤ 2097152) (hK : KB e + 1 < 1099511627776) (A : Heap) :
    ACalls Pr F_ref06_reduced [.mu (lid A 0) 0 n none, .int .i64 c] (hap A (mrows (lid A 0) n 4 c none fun j k => Rv (B j k))) fun r' H' => ∃ π S', Lk n c π S' (fun a b => Rv ((jproc n B c).M a b)) ∧
      H' = hM (hap A (mrows (lid A 0) n 4 c none fun j k => Rv (B j k))) (lid A 0) n 4 c none π S' ∧ r' = .tup [.mu (lid A 0) 0 (gproc n B c).cs.length none, hsV (gproc n B c).cs, Rv (dv n B c)] := by
  have h := reduced_calls (G := hap A ([] ++ mrows (lid A 0) n 4 c none fun j k => Rv (B j k))) (β := lid A 0) (mrows_lt A [] n 4 c none _) B hB hn hc (by omega) (S := fun j k => Rv (B j k)) ⟨fun a h => h, fun _ _ _ _ h => h, fun a k _ _ => rfl, fun _ _ => Rv_cl _⟩
  have e1 := hM_rows A [] n 4 c none fun j k => Rv (B j k)
  simp only [List.length_nil, List.nil_append] at e1 h
  rw [e1] at h
  exact h
section
variable (b : List (List ZI)) {e : Nat} (hm : Mok e b) (hK : KB e + 1 < 1099511627776)
include hm hK
theorem mok_big : Mok 17592186044416 b := hm.mono (by unfold KB at hK; omega)
end
end Go.Abs
set_option linter.unusedVariables false
set_option linter.unusedSimpArgs false
namespace Go.Abs
theorem kb_fits : KB 1048576 + 1 < 1099511627776 := by decide
end Go.Abs
set_option linter.unusedVariables false
set_option linter.unusedSimpArgs false
namespace Go.Abs
theorem Vok.take {k : Nat} {v : List ZI} (h : Vok k v) (n : Nat) : Vok k (v.take n) := ⟨by rw [List.length_take]; have := h.len; omega, fun x hx => h.el x (List.mem_of_mem_take hx)⟩
/-- The first square of a size. -/
def sub (b : List (List ZI)) (k : Nat) : List (List ZI) := mat k fun i => (mg b i).take k
end Go.Abs
set_option linter.unusedVariables false
set_option linter.unusedSimpArgs false
namespace Go.Abs
/-- Rows of whole numbers with such values. -/
structure Rz (n c K : Nat) (rows : List (List ZI)) (f : Nat → Nat → Int) : Prop where
  len : rows.length = n
  wid : ∀ i, i < n → (mg rows i).length = c
  at_ : ∀ i k, i < n → k < c → zg (mg rows i) k = f i k
  ok : ∀ i, i < n → Vok K (mg rows i)
def bareissV (H : Heap) (n c e : Nat) (B : Nat → Nat → Rat) (r' : AV) (H' : Heap) : Prop := ∃ β rows lx, Rz n c (KB e + 1) rows (ZgI n B c) ∧ H.length ≤ β ∧ H'[β]? = some (some ⟨1, rows.map vecV⟩) ∧ (∃ L', H' = hap H L') ∧ HRefs H' ∧
      ZI.z lx = lastI n B c ∧ Zok (KB e + 1) lx ∧ r' = .tup [.mu β 0 n (some n), hsV (gproc n B c).cs, lx.av, .bool (gproc n B c).odd]
/-- With the first m rows told. -/
def bareissM (m : Nat) (H : Heap) (n c e : Nat) (B : Nat → Nat → Rat) (r' : AV) (H' : Heap) : Prop := ∃ β π S L lx, Lz n c (KB e + 1) π S (ZgI n B c) ∧ H.length ≤ β ∧ β + n < (hap H L).length ∧
      H' = hm (hap H L) β n (fr n fun i => if π i < m then .sl 2 (fr c (S (π i))) else .mu (β + 1 + π i) 0 c (some c)) (fun j => if j < m then none else some ⟨2, fr c (S j)⟩) ∧ HRefs H' ∧
      ZI.z lx = lastI n B c ∧ Zok (KB e + 1) lx ∧ r' = .tup [.mu β 0 n (some n), hsV (gproc n B c).cs, lx.av, .bool (gproc n B c).odd]
theorem bareiss_told {P : Program} {f : FuncId} {args : List AV} {H : Heap} {n c e : Nat} {B : Nat → Nat → Rat} (h : ACalls P f args H (bareissR H n c e B)) : ∀ m, m ≤ n → ACalls P f args H (bareissM m H n c e B)
  | 0, _ => h.mono fun r' H' ⟨β, π, S, L, lx, h1, h2, h3, h4, h5, h6, h7, h8⟩ => ⟨β, π, S, L, lx, h1, h2, h3, by
      rw [h4]
      refine hm_congr (fr_congr fun i hi => ?_) fun j hj => ?_
      · rw [if_neg (by omega)]
      · rw [if_neg (by omega)], h5, h6, h7, h8⟩
  | m + 1, hmn => by
    refine (bareiss_told h m (by omega)).frz ?_
    rintro hH r' H' ⟨β, π, S, L, lx, h1, h2, h3, rfl, h5, h6, h7, rfl⟩
    have hc : ∀ a ∈ (Blk.mk 2 (fr c (S m))).flat, Cl a := fr_flat_cl fun k _ => h1.cl m k
    have hget : (hm (hap H L) β n (fr n fun i => if π i < m then .sl 2 (fr c (S (π i))) else .mu (β + 1 + π i) 0 c (some c)) (fun j => if j < m then none else some ⟨2, fr c (S j)⟩))[β + 1 + m]? = some (some ⟨2, fr c (S m)⟩) := by
      rw [hm_get _ _ _ _ _ _ (by omega), if_neg (by omega), if_pos (by omega), show β + 1 + m - (β + 1) = m by omega, if_neg (Nat.lt_irrefl m)]
    refine ⟨β + 1 + m, ⟨2, fr c (S m)⟩, hget, hc, ?_⟩
    have hfH : frzH (β + 1 + m) ⟨2, fr c (S m)⟩ (hap H L) = hap H ((frzL (β + 1 + m) ⟨2, fr c (S m)⟩ L).set (β + 1 + m - H.length) none) := by
      have := frzH_hap hH (β + 1 + m - H.length) ⟨2, fr c (S m)⟩ L
      rwa [show lid H (β + 1 + m - H.length) = β + 1 + m by unfold lid; omega] at this
    refine ⟨β, π, S, (frzL (β + 1 + m) ⟨2, fr c (S m)⟩ L).set (β + 1 + m - H.length) none, lx, h1, h2, ?_, ?_, hrefs_frz h5 _ _, h6, h7, ?_⟩
    · rw [← hfH]; simp only [frzH, List.length_set, List.length_map]; exact h3
    · rw [frzH_hm h3 (by omega), hfH]
      refine hm_congr ?_ fun j hj => ?_
      · unfold fr
        rw [List.map_map]
        refine List.map_congr_left fun i hi => ?_
        simp only [Function.comp]
        by_cases h : π i < m
        · rw [if_pos h, if_pos (by omega)]; simp only [frz]
        · rw [if_neg h]
          by_cases h2 : π i = m
          · rw [if_pos (by omega), h2]
            simp only [frz, if_true]
            rw [if_pos (show 0 + c ≤ (List.map (S m) (List.range c)).length by simp)]
            simp only [List.drop_zero]
            rw [List.take_of_length_le (by simp)]
          · rw [if_neg (by omega)]
            simp only [frz]
            rw [if_neg (by omega)]
      · by_cases hjm : j = m
        · rw [if_pos hjm, if_pos (by omega)]
        · rw [if_neg hjm]
          by_cases hlt : j < m
          · rw [if_pos hlt, if_pos (by omega)]; rfl
          · rw [if_neg hlt, if_neg (by omega)]
            simp only [Option.map_some, frzB]
            congr 2
            refine (List.map_congr_left (g := fun x => x) fun a ha => ?_).trans (List.map_id' _)
            obtain ⟨k, hk, rfl⟩ := fr_mem ha
            exact frz_cl (h1.cl j k)
    · simp only [frz, List.map_cons, List.map_nil]
      rw [if_neg (by omega)]
      have e1 := frz_cl (id := β + 1 + m) (b := ⟨2, fr c (S m)⟩) (hsV_cl (gproc n B c).cs)
      have e2 := frz_cl (id := β + 1 + m) (b := ⟨2, fr c (S m)⟩) (ZI.cl lx)
      rw [e1, e2]
theorem bareiss_vals {P : Program} {f : FuncId} {args : List AV} {H : Heap} {n c e : Nat} {B : Nat → Nat → Rat} (hc : c ≤ 2097152) (h : ACalls P f args H (bareissR H n c e B)) : ACalls P f args H (bareissV H n c e B) := by
  refine (bareiss_told h n (Nat.le_refl n)).mono ?_
  rintro r' H' ⟨β, π, S, L, lx, h1, h2, h3, rfl, h5, h6, h7, rfl⟩
  have hch : ∀ i k, ∃ x : ZI, i < n → k < c → S (π i) k = x.av ∧ x.z = ZgI n B c i k ∧ Zok (KB e + 1) x := fun i k => by
    by_cases hik : i < n ∧ k < c
    · obtain ⟨x, hx⟩ := h1.at_ i k hik.1 hik.2; exact ⟨x, fun _ _ => hx⟩
    · exact ⟨⟨false, []⟩, fun a b => absurd ⟨a, b⟩ hik⟩
  let X : Nat → Nat → ZI := fun i k => Classical.choose (hch i k)
  have hX : ∀ i k, i < n → k < c → S (π i) k = (X i k).av ∧ (X i k).z = ZgI n B c i k ∧ Zok (KB e + 1) (X i k) := fun i k => Classical.choose_spec (hch i k)
  have hrow : ∀ i, i < n → mg (mat n fun i => (List.range c).map (X i)) i = (List.range c).map (X i) := fun i hi => mg_mat hi
  refine ⟨β, mat n fun i => (List.range c).map (X i), lx, ⟨mat_length _ _, fun i hi => ?_, fun i k hi hk => ?_, fun i hi => ?_⟩, h2, ?_, ?_, h5, h6, h7, rfl⟩
  · rw [hrow i hi]; simp
  · rw [hrow i hi, zg_lt (by simpa using hk)]
    simp; exact (hX i k hi hk).2.1
  · rw [hrow i hi]
    refine ⟨by simp; exact hc, fun x hx => ?_⟩
    obtain ⟨k, hk, rfl⟩ := List.mem_map.1 hx
    exact (hX i k hi (List.mem_range.1 hk)).2.2
  · rw [hm_get _ _ _ _ _ _ (by omega), if_pos rfl]
    congr 2
    unfold fr mat
    rw [List.map_map]
    congr 1
    refine List.map_congr_left fun i hi => ?_
    have hin := List.mem_range.1 hi
    simp only [Function.comp, vecV]
    rw [if_pos (h1.lt i hin), List.map_map]
    congr 1
    refine List.map_congr_left fun k hk => ?_
    exact (hX i k hin (List.mem_range.1 hk)).1
  · refine ⟨(hm (hap H L) β n (fr n fun i => if π i < n then .sl 2 (fr c (S (π i))) else .mu (β + 1 + π i) 0 c (some c)) (fun j => if j < n then none else some ⟨2, fr c (S j)⟩)).drop H.length, ?_⟩
    have ht : (hm (hap H L) β n (fr n fun i => if π i < n then .sl 2 (fr c (S (π i))) else .mu (β + 1 + π i) 0 c (some c)) (fun j => if j < n then none else some ⟨2, fr c (S j)⟩)).take H.length = H := by
      apply List.ext_getElem?
      intro j
      rw [List.getElem?_take]
      have hl : (hap H L).length = H.length + L.length := by simp [hap]
      split
      · rename_i hj
        rw [hm_get _ _ _ _ _ _ (by omega), if_neg (by omega), if_neg (by omega)]
        simp only [hap]
        rw [List.getElem?_append_left hj]
      · rename_i hj
        rw [List.getElem?_eq_none (by omega)]
    exact (List.take_append_drop H.length _).symm.trans (by rw [ht]; rfl)
end Go.Abs
set_option linter.unusedVariables false
set_option linter.unusedSimpArgs false
namespace Go.Abs
theorem sgF_up (v : List ZI) : sgF (zg v) v.length = upS v := by
  rcases lead_cases v with ⟨i, hi, h0, h, _, hu⟩ | ⟨h, _, hu⟩
  · rw [hu, sgF_first hi h0 h]
  · rw [hu]
    have : ∀ m, m ≤ v.length → sgF (zg v) m = 1 := by
      intro m
      induction m with
      | zero => intro _; rfl
      | succ m ih => intro hm; unfold sgF; rw [if_neg (by intro q; have := q.2; rw [h m (by omega)] at this; omega)]; exact ih (by omega)
    exact this _ (Nat.le_refl _)
theorem lowest_pure (v : List ZI) {K : Nat} (hv : Vok K v) (hnz : Nz (zg v) v.length) (hK : K < 17592186043000) : PureC Pr F_elim_lowest [vecV v] (vecV (vec v.length (primI (zg v) v.length))) := by
  have hvl := hv.len
  have hgl : ∀ i, i ≤ v.length → gcdTo (zg v) i < LB ^ K := fun i hi => gcdTo_lt (lb_pos K) fun j _ => hv.abs j
  have hg0 := gcdTo_ne hnz
  have hsg := sg_ne hnz
  refine PureC.intro elim_lowest_fn elim_lowest_ok (Nat.le_of_ble_eq_true rfl) (vecV_cl _) fun H hH => ?_
  refine Safe.rg rfl ?_
  simp only [elim_lowest_r0, E3, seval]
  refine Safe.rg rfl ?_
  simp only [elim_lowest_r1, E3, seval]
  refine Safe.told0 0 rfl ?_
  simp only [E3, seval]
  refine Safe.rg rfl ?_
  simp only [elim_lowest_r2, E3, seval]
  refine Safe.lp rfl ?_
  refine Safe.keep [0, 3, 13, 14, 15] ?_
  try simp only [E3, seval]
  refine Safe.loopN (v.length) (fun i => [(0, vecV v), (3, .loc (lid H 0) 0 0), (13, vecV v), (14, .int .i64 v.length), (15, .int .i64 i)]) (fun i => hap H [some ⟨2, [Z (gcdTo (zg v) i : Nat)]⟩]) rfl rfl (fun i hi ih => ?_) ?_
  · have hlt : ((i : Int) < (v.length : Int)) = True := eq_true (by omega)
    have hiw : IntKind.wrap .i64 ((i : Int) + 1) = ((i + 1 : Nat) : Int) := by rw [wrap_i64] <;> omega
    refine Safe.inLoop ?_
    refine Safe.rg rfl ?_
    simp only [elim_lowest_r3, hlt, E3, seval]
    refine Safe.cd rfl ?_
    simp only [E3, seval]
    refine Safe.rg rfl ?_
    simp only [elim_lowest_r4, vec_idx _ v _ i hi, E3, seval]
    refine Safe.rg rfl ?_
    simp only [elim_lowest_r5, E3, seval]
    have hg := zgcd_pure (canZ (gcdTo (zg v) i : Nat)) v[i] K (zok_can (by exact hgl i (by omega))) (hv.get hi) (by omega)
    rw [canZ_z, ← zg_lt hi] at hg
    refine hg.acall ?_
    simp only [E3, seval]
    refine Safe.rg rfl ?_
    simp only [elim_lowest_r6, hiw, E3, seval]
    refine Safe.keep [0, 3, 13, 14, 15] ?_
    simp only [E3, seval]
    refine Safe.drop1 hH rfl (by simp only [List.all_cons, List.all_nil, E3, seval]) (by repeat (first | exact RC.nil | refine RC.none ?_ | refine RC.row ZI.cl ?_ | refine RC.cons (blk_u32 _) ?_ | refine RC.row vecV_cl ?_ | refine RC.emp ?_ | refine RC.zero ?_ | refine RC.one (Z_cl _) ?_ | refine RC.one (ZI.cl _) ?_ | refine RC.one (vecV_cl _) ?_)) ?_
    exact ih
  · refine Safe.inLoop ?_
    refine Safe.rg rfl ?_
    simp only [elim_lowest_r3, Int.lt_irrefl, E3, seval]
    refine Safe.cd rfl ?_
    simp only [E3, seval]
    refine Safe.rg rfl ?_
    simp only [elim_lowest_r7, E3, seval]
    first | refine (mlead_pure v (hv.mono (by omega))).acall ?_ | refine (mlead_pure v (hv.mono (by omega))).dcall ?_
    try simp only [E3, seval]
    obtain ⟨i, hi, h0, h, hl, hu⟩ : ∃ i, i < v.length ∧ zg v i ≠ 0 ∧ (∀ j, j < i → zg v j = 0) ∧ leadI v = i ∧ upS v = if zg v i < 0 then -1 else 1 := by
      rcases lead_cases v with h | ⟨h, _, _⟩
      · exact h
      · obtain ⟨j, hj, hw⟩ := hnz
        exact absurd (h j hj) hw
    have hs := sgF_first hi h0 h
    have hge : ((i : Int) ≥ 0) = True := eq_true (by omega)
    refine Safe.rg rfl ?_
    simp only [elim_lowest_r8, hl, hge, vec_idx _ v _ i hi, E3, seval]
    refine (zsign_pure v[i] ((hv.get hi).mono (by omega))).acall ?_
    rw [← zg_lt hi]
    have main : ∀ Q : Int, Q = sgF (zg v) v.length * (gcdTo (zg v) v.length : Int) → Safe ⟨Pr, fun _ _ => false, F_elim_lowest, 56, [.tmp 2], H.length⟩
        [.code ((ACode.region elim_lowest_r10 false).seq (((ACode.region elim_lowest_r11 false).seq (.block 2 (.loop elim_lowest_l1))).seq ((ACode.region elim_lowest_r17 false).seq .ret)))]
        [(0, vecV v), (3, .loc (lid H 0) 0 0)] (hap H [some ⟨2, [Z Q]⟩]) fun r' H' => r' = vecV (vec v.length (primI (zg v) v.length)) ∧ ∃ L, H' = hap H L := by
      intro Q hQ
      have hQ0 : Q ≠ 0 := by rw [hQ]; exact hsg
      have hQk : Q.natAbs < LB ^ K := by
        have : Q.natAbs = gcdTo (zg v) v.length := by
          rw [hQ, Int.natAbs_mul]
          rcases sgF_sq (zg v) v.length with h | h <;> rw [h] <;> simp
        rw [this]; exact hgl _ (Nat.le_refl _)
      refine Safe.rg rfl ?_
      simp only [elim_lowest_r10, E3, seval]
      refine Safe.nilrow 7 2 (by decide) (by simp only [E3, seval]) ?_
      refine Safe.rg rfl ?_
      simp only [elim_lowest_r11, E3, seval]
      refine Safe.lp rfl ?_
      refine Safe.keep [3, 7, 37, 38, 39] ?_
      try simp only [E3, seval]
      refine Safe.loopN (v.length) (fun i => [(3, .loc (lid H 0) 0 0), (7, .mu (lid H 1) 0 i none), (37, vecV v), (38, .int .i64 v.length), (39, .int .i64 i)]) (fun i => hap H [some ⟨2, [Z Q]⟩, some ⟨2, (vec i (primI (zg v) v.length)).map ZI.av⟩]) rfl rfl (fun i hi ih => ?_) ?_
      · have hlt : ((i : Int) < (v.length : Int)) = True := eq_true (by omega)
        have hiw : IntKind.wrap .i64 ((i : Int) + 1) = ((i + 1 : Nat) : Int) := by rw [wrap_i64] <;> omega
        refine Safe.inLoop ?_
        refine Safe.rg rfl ?_
        simp only [elim_lowest_r12, hlt, E3, seval]
        refine Safe.cd rfl ?_
        simp only [E3, seval]
        refine Safe.rg rfl ?_
        simp only [elim_lowest_r13, vec_idx _ v _ i (by omega), E3, seval]
        refine Safe.rg rfl ?_
        simp only [elim_lowest_r14, E3, seval]
        have hfl := zfloor_exact v[i] (canZ Q) K (hv.get (by omega)) (zok_can hQk) (by omega) (primI (zg v) v.length i) (by rw [canZ_z]; exact hQ0) (by rw [canZ_z, hQ, ← zg_lt (by omega)]; exact prim_mul (by omega))
        refine hfl.acall ?_
        simp only [E3, seval]
        refine Safe.rg rfl ?_
        simp only [elim_lowest_r15, E3, seval]
        rw [app_row hH 1 (lid_ge H 1) ZI.cl (vec i (primI (zg v) v.length)) (canZ (primI (zg v) v.length i)) (vec (i + 1) (primI (zg v) v.length)) ?hlen ?hl ?hL ?hy ?hl2 ?hb ?hbb]
        case hlen => first | rfl | (simp only [vec_length, mat_length, List.length_map, List.length_take]; done) | (simp only [vec_length, mat_length, List.length_map, List.length_take]; omega)
        case hl => rfl
        case hL => repeat (first | exact RC.nil | refine RC.none ?_ | refine RC.row ZI.cl ?_ | refine RC.cons (blk_u32 _) ?_ | refine RC.row vecV_cl ?_ | refine RC.emp ?_ | refine RC.zero ?_ | refine RC.one (Z_cl _) ?_ | refine RC.one (ZI.cl _) ?_ | refine RC.one (vecV_cl _) ?_)
        case hy => rfl
        case hl2 => first | exact vec_succ _ _ | exact mat_succ _ _ | exact take_succ _ (by omega) | exact take_map_succ _ _ (by omega)
        case hb => omega
        case hbb => omega
        simp only [E3, seval]
        refine Safe.rg rfl ?_
        simp only [elim_lowest_r16, hiw, E3, seval]
        refine Safe.keep [3, 7, 37, 38, 39] ?_
        simp only [E3, seval]
        refine Safe.drop4 hH rfl (by simp only [List.all_cons, List.all_nil, E3, seval]) (by repeat (first | exact RC.nil | refine RC.none ?_ | refine RC.row ZI.cl ?_ | refine RC.cons (blk_u32 _) ?_ | refine RC.row vecV_cl ?_ | refine RC.emp ?_ | refine RC.zero ?_ | refine RC.one (Z_cl _) ?_ | refine RC.one (ZI.cl _) ?_ | refine RC.one (vecV_cl _) ?_)) ?_
        refine Safe.drop3 hH rfl (by simp only [List.all_cons, List.all_nil, E3, seval]) (by repeat (first | exact RC.nil | refine RC.none ?_ | refine RC.row ZI.cl ?_ | refine RC.cons (blk_u32 _) ?_ | refine RC.row vecV_cl ?_ | refine RC.emp ?_ | refine RC.zero ?_ | refine RC.one (Z_cl _) ?_ | refine RC.one (ZI.cl _) ?_ | refine RC.one (vecV_cl _) ?_)) ?_
        refine Safe.drop2 hH rfl (by simp only [List.all_cons, List.all_nil, E3, seval]) (by repeat (first | exact RC.nil | refine RC.none ?_ | refine RC.row ZI.cl ?_ | refine RC.cons (blk_u32 _) ?_ | refine RC.row vecV_cl ?_ | refine RC.emp ?_ | refine RC.zero ?_ | refine RC.one (Z_cl _) ?_ | refine RC.one (ZI.cl _) ?_ | refine RC.one (vecV_cl _) ?_)) ?_
        exact ih
      · refine Safe.inLoop ?_
        refine Safe.rg rfl ?_
        simp only [elim_lowest_r12, Int.lt_irrefl, E3, seval]
        refine Safe.cd rfl ?_
        simp only [E3, seval]
        refine Safe.freeze 1 hH rfl rfl (blk_map 2 ZI.av _ ZI.cl) ?_
        refine Safe.keep [7] ?_
        simp only [frz_vec H 1 (vec v.length (primI (zg v) v.length)) (v.length) (none) (by simp only [vec_length, mat_length]), frz_mu_other, frz_loc_other, map_frz_vec, map_frz_mat, E3, seval]
        refine Safe.rg rfl ?_
        simp only [elim_lowest_r17, E3, seval]
        refine Safe.rt rfl ?_
        simp only [E3, seval]
        first | exact ⟨rfl, _, rfl⟩ | exact ⟨_, rfl⟩ | exact ⟨trivial, _, rfl⟩
    by_cases hn : zg v i < 0
    · have hc : ((zg v i).sign < 0) = True := eq_true (Int.sign_neg_iff.2 hn)
      rw [if_pos hn] at hs
      simp only [hc, E3, seval]
      refine Safe.cd rfl ?_
      simp only [E3, seval]
      refine Safe.rg rfl ?_
      simp only [elim_lowest_r9, E3, seval]
      have hng := zneg_pure (canZ (gcdTo (zg v) v.length : Nat)) ((zok_can (by exact hgl _ (Nat.le_refl _))).mono (by omega))
      rw [canZ_z] at hng
      refine hng.acall ?_
      simp only [E3, seval]
      refine Safe.keep [0, 3] ?_
      simp only [E3, seval]
      exact main _ (by rw [hs, Int.neg_mul, Int.one_mul])
    · have hc : ((zg v i).sign < 0) = False := eq_false fun h => hn (Int.sign_neg_iff.1 h)
      rw [if_neg hn] at hs
      simp only [hc, E3, seval]
      refine Safe.cd rfl ?_
      simp only [E3, seval]
      refine Safe.keep [0, 3] ?_
      simp only [E3, seval]
      refine Safe.skip ?_
      exact main _ (by rw [hs, Int.one_mul])
end Go.Abs
set_option linter.unusedVariables false
set_option linter.unusedSimpArgs false
namespace Go.Abs
def rvV (x : Nat → Rat) (c : Nat) : AV := .sl 4 (fr c fun k => Rv (x k))
def lcmTo (x : Nat → Rat) : Nat → Nat
  | 0 => 1
  | n + 1 => lcmTo x n * ((x n).den / Nat.gcd (lcmTo x n) (x n).den)
def outI (x : Nat → Rat) (c i : Nat) : Int := (x i).num * ((lcmTo x c / (x i).den : Nat) : Int)
theorem lcmTo_succ (x : Nat → Rat) (n : Nat) : lcmTo x (n + 1) = Nat.lcm (lcmTo x n) (x n).den := by
  rw [lcmTo, Nat.lcm, Nat.mul_div_assoc _ (Nat.gcd_dvd_right _ _)]
theorem lcmTo_pos (x : Nat → Rat) : ∀ n, 0 < lcmTo x n
  | 0 => Nat.one_pos
  | n + 1 => by rw [lcmTo_succ]; exact Nat.lcm_pos (lcmTo_pos x n) (x n).den_pos
theorem lcmTo_dvd {x : Nat → Rat} {M : Nat} : ∀ {n : Nat}, (∀ i, i < n → (x i).den ∣ M) → lcmTo x n ∣ M
  | 0, _ => Nat.one_dvd _
  | n + 1, h => by rw [lcmTo_succ]; exact Nat.lcm_dvd (lcmTo_dvd fun i hi => h i (by omega)) (h n (by omega))
theorem den_dvd_lcm (x : Nat → Rat) : ∀ {n i : Nat}, i < n → (x i).den ∣ lcmTo x n
  | 0, _, h => absurd h (by omega)
  | n + 1, i, h => by
    rw [lcmTo_succ]
    by_cases e : i = n
    · subst e; exact Nat.dvd_lcm_right _ _
    · exact Nat.dvd_trans (den_dvd_lcm x (by omega)) (Nat.dvd_lcm_left _ _)
/-- All of them times one number are whole, of such a size. -/
structure Sz (x : Nat → Rat) (c K : Nat) : Prop where
  ex : ∃ D : Int, D ≠ 0 ∧ D.natAbs < LB ^ K ∧ ∀ i, i < c → ∃ z : Int, (D : Rat) * x i = z ∧ z.natAbs < LB ^ K
theorem den_of {D z : Int} {q : Rat} (hD : D ≠ 0) (h : (D : Rat) * q = z) : q.den ∣ D.natAbs := by
  have hl : (D : Rat) ≠ 0 := fun e => hD (Rat.intCast_inj.1 (by rw [e]; rfl))
  have e : q = Rat.divInt z D := by
    rw [Rat.divInt_eq_div, ← h]
    generalize (D : Rat) = x at *
    grind
  rw [e, Rat.den_divInt, if_neg hD]
  exact Nat.div_dvd_of_dvd (by rw [Int.gcd]; exact Nat.gcd_dvd_left _ _)
theorem outI_eq (x : Nat → Rat) {c i : Nat} (hi : i < c) : ((lcmTo x c : Nat) : Rat) * x i = ((outI x c i : Int) : Rat) := by
  obtain ⟨m, hm⟩ := den_dvd_lcm x hi
  unfold outI
  have hd := (x i).den_pos
  rw [hm, Nat.mul_div_cancel_left _ hd]
  have h1 : x i = ((x i).num : Rat) / ((x i).den : Rat) := by rw [← Rat.mkRat_eq_div, Rat.mkRat_self]
  have h2 : ((x i).den : Rat) ≠ 0 := by
    intro h
    have : ((x i).den : Nat) = 0 := by exact_mod_cast h
    omega
  rw [Rat.intCast_mul, Rat.natCast_mul]
  have h3 : (((m : Nat) : Int) : Rat) = ((m : Nat) : Rat) := rfl
  rw [h3]
  have h4 := Rat.div_mul_cancel (a := ((x i).num : Rat)) h2
  rw [← h1] at h4
  clear h1 hm
  generalize ((x i).den : Rat) = d at *
  generalize ((x i).num : Rat) = a at *
  generalize ((m : Nat) : Rat) = k
  generalize x i = y at *
  grind
section
variable {x : Nat → Rat} {c K : Nat} (h : Sz x c K)
include h
theorem lcm_lt {n : Nat} (hn : n ≤ c) : lcmTo x n < LB ^ K := by
  obtain ⟨D, hD, hD1, hz⟩ := h.ex
  have hd : lcmTo x n ∣ D.natAbs := lcmTo_dvd fun i hi => by obtain ⟨z, hz, _⟩ := hz i (by omega); exact den_of hD hz
  exact Nat.lt_of_le_of_lt (Nat.le_of_dvd (by omega) hd) hD1
theorem den_lt {i : Nat} (hi : i < c) : (x i).den < LB ^ K := by
  obtain ⟨D, hD, hD1, hz⟩ := h.ex
  obtain ⟨z, hz, _⟩ := hz i hi
  exact Nat.lt_of_le_of_lt (Nat.le_of_dvd (by omega) (den_of hD hz)) hD1
theorem out_lt {i : Nat} (hi : i < c) : (outI x c i).natAbs < LB ^ K := by
  obtain ⟨D, hD, hD1, hz⟩ := h.ex
  have hd : lcmTo x c ∣ D.natAbs := lcmTo_dvd fun i hi => by obtain ⟨z, hz, _⟩ := hz i hi; exact den_of hD hz
  obtain ⟨z, hz, hz1⟩ := hz i hi
  obtain ⟨m, hm⟩ := Int.ofNat_dvd_left.2 hd
  have hm0 : m ≠ 0 := fun e => hD (by rw [hm, e, Int.mul_zero])
  have ho := outI_eq x hi
  have : z = m * outI x c i := by
    refine Rat.intCast_inj.1 ?_
    rw [← hz, Rat.intCast_mul, ← ho, hm, Rat.intCast_mul]
    have h3 : (((lcmTo x c : Nat) : Int) : Rat) = ((lcmTo x c : Nat) : Rat) := rfl
    rw [h3]
    generalize ((lcmTo x c : Nat) : Rat) = l
    generalize (m : Rat) = k
    generalize x i = y
    grind
  rw [this, Int.natAbs_mul] at hz1
  exact Nat.lt_of_le_of_lt (Nat.le_mul_of_pos_left _ (by omega)) hz1
theorem num_lt {i : Nat} (hi : i < c) : (x i).num.natAbs < LB ^ K := by
  obtain ⟨D, hD, hD1, hz⟩ := h.ex
  obtain ⟨z, hz, hz1⟩ := hz i hi
  have hl : (D : Rat) ≠ 0 := fun e => hD (Rat.intCast_inj.1 (by rw [e]; rfl))
  exact Nat.lt_of_le_of_lt (quot_size hl hz).1 hz1
end
section
variable (H : Heap) (x : Nat → Rat) {c i : Nat}
theorem rv_len : lenV H (rvV x c) = some (.int .i64 c) := by
  have := sl_len H 4 (fun k => Rv (x k)) (List.range c)
  rw [List.length_range] at this; exact this
theorem rv_idx (k : IntKind) (h : i < c) : idxV H 4 (rvV x c) (.int k i) = some (.ro (Rv (x i)) 0) := by
  have := sl_idx H 4 (fun k => Rv (x k)) (List.range c) k i (by simpa using h)
  simp only [List.getElem_range] at this; exact this
theorem rvV_cl : Cl (rvV x c) := cl_sl 4 (fun k => Rv (x k)) (List.range c) fun _ => Rv_cl _
theorem rvV_nref (id : Nat) : nref id (rvV x c) = true := nref_cl (rvV_cl x)
theorem Rv_at0 : atV H (.ro (Rv (x i)) 0) = some [.bool (decide ((x i).num < 0)), natV (limbs (x i).num.natAbs), .bool false, natV (limbs (x i).den)] := rfl
theorem Rv_at2 : atV H (.ro (Rv (x i)) 2) = some [.bool false, natV (limbs (x i).den)] := rfl
end
theorem st_r2 {H L : Heap} {a b : Option Blk} {n j : Nat} {f : Nat → Int} {env : Env} (z : Int) (h : j < n) : storeV 2 (.loc (lid H 2) j 0) (Z z) env (hap H (a :: b :: some ⟨2, (vec n f).map ZI.av⟩ :: L)) = some (.top, env, hap H (a :: b :: some ⟨2, (vec n (updF f j z)).map ZI.av⟩ :: L)) := by
  rw [storeV_loc env H _ 2 2 j 0 (Z z) rfl (by rw [List.length_map, vec_length]; exact h) rfl rfl (Nat.le_refl 2)]
  rw [← vec_set]; rfl
theorem whole_pure (x : Nat → Rat) {c K : Nat} (hS : Sz x c K) (hc : c ≤ 2097152) (hK : K + K + K < 17592186043000) : PureC Pr F_ref06_whole [rvV x c] (vecV (vec c (primI (outI x c) c))) := by
  have hlc := fun n (h : n ≤ c) => lcm_lt hS h
  have hdl := fun i (h : i < c) => den_lt hS h
  have hol := fun i (h : i < c) => out_lt hS h
  have hnl := fun i (h : i < c) => num_lt hS h
  have hgl : ∀ i, i ≤ c → gcdTo (outI x c) i < LB ^ K := fun i hi => gcdTo_lt (lb_pos K) fun j hj => hol j (by omega)
  have hl0 := lcmTo_pos x
  refine PureC.intro ref06_whole_fn ref06_whole_ok (Nat.le_of_ble_eq_true rfl) (vecV_cl _) fun H hH => ?_
  refine Safe.rg rfl ?_
  simp only [ref06_whole_r0, E3, seval]
  refine Safe.rg rfl ?_
  simp only [ref06_whole_r1, E3, seval]
  first | refine (r2of_pure 1 (by decide) (by decide)).acall ?_ | refine (r2of_pure 1 (by decide) (by decide)).dcall ?_
  try simp only [E3, seval]
  refine Safe.rg rfl ?_
  simp only [ref06_whole_r2, E3, seval]
  refine Safe.lp rfl ?_
  refine Safe.keep [0, 3, 4] ?_
  try simp only [E3, seval]
  refine Safe.loopN (c) (fun i => [(0, rvV x c), (3, .loc (lid H 0) 0 0), (4, .int .i64 i)]) (fun i => hap H [some ⟨2, [Z (lcmTo x i : Nat)]⟩]) rfl rfl (fun i hi ih => ?_) ?_
  · have hlt : ((i : Int) < (c : Int)) = True := eq_true (by omega)
    have hiw : IntKind.wrap .i64 ((i : Int) + 1) = ((i + 1 : Nat) : Int) := by rw [wrap_i64] <;> omega
    have hli := hlc i (by omega)
    have hdi := hdl i hi
    have hl1 := hlc (i + 1) (by omega)
    have hsucc : lcmTo x (i + 1) = lcmTo x i * ((x i).den / Nat.gcd (lcmTo x i) (x i).den) := rfl
    have hg0 : Nat.gcd (lcmTo x i) (x i).den ≠ 0 := fun h => by have := Nat.gcd_eq_zero_iff.1 h; have := hl0 i; omega
    have hgk : Nat.gcd (lcmTo x i) (x i).den < LB ^ K := gcd_lt hli hdi
    refine Safe.inLoop ?_
    refine Safe.rg rfl ?_
    simp only [ref06_whole_r3, rv_len, hlt, E3, seval]
    refine Safe.cd rfl ?_
    simp only [E3, seval]
    refine Safe.rg rfl ?_
    simp only [ref06_whole_r4, rv_idx _ x .i64 hi, Rv_at2, E3, seval]
    have hg := r2gcd_pure (canZ (lcmTo x i : Nat)) (dZ (x i).den) K (zok_can (by exact hli)) (dZ_ok hdi) (by omega)
    rw [canZ_z, dZ_z] at hg
    refine hg.dcall ?_
    simp only [E3, seval]
    have hfl := r2floor_pure (dZ (x i).den) (canZ ((Nat.gcd (lcmTo x i) (x i).den : Nat) : Int)) K (dZ_ok hdi) (zok_can (by exact hgk)) (by omega) (by rw [canZ_z]; omega)
    rw [canZ_z, dZ_z] at hfl
    have hq : ((x i).den : Int).fdiv ((Nat.gcd (lcmTo x i) (x i).den : Nat) : Int) = (((x i).den / Nat.gcd (lcmTo x i) (x i).den : Nat) : Int) := by
      rw [Int.fdiv_eq_ediv_of_nonneg _ (Int.natCast_nonneg _)]; rfl
    rw [hq] at hfl
    have hqk : (x i).den / Nat.gcd (lcmTo x i) (x i).den < LB ^ K := Nat.lt_of_le_of_lt (Nat.div_le_self _ _) hdi
    refine Safe.rx rfl (by simp only [sdOk_cons, sdOk_nil, locNe_loc, E3, seval]) ?_
    simp only [ref06_whole_r5, ref06_whole_r5a, ref06_whole_r5b, rv_idx _ x .i64 hi, Rv_at2, Rv_cells, E3, seval]
    refine hfl.dcall ?_
    simp only [E3, seval]
    refine ⟨?_, ?_⟩
    all_goals
      refine Safe.rg rfl ?_
      simp only [ref06_whole_r6, E3, seval]
      have hm := r2mul_can (a := ((lcmTo x i : Nat) : Int)) (b := (((x i).den / Nat.gcd (lcmTo x i) (x i).den : Nat) : Int)) (k := K) (l := K) (by exact hli) (by exact hqk) (by omega)
      rw [← Int.natCast_mul, ← hsucc] at hm
      refine hm.acall ?_
      simp only [E3, seval]
      refine Safe.rg rfl ?_
      simp only [ref06_whole_r7, hiw, E3, seval]
      refine Safe.keep [0, 3, 4] ?_
      simp only [E3, seval]
      refine Safe.drop3 hH rfl (by simp only [List.all_cons, List.all_nil, rvV_nref, E3, seval]) (by repeat (first | exact RC.nil | refine RC.none ?_ | refine RC.row ZI.cl ?_ | refine RC.cons (blk_u32 _) ?_ | refine RC.row vecV_cl ?_ | refine RC.emp ?_ | refine RC.zero ?_ | refine RC.one (Z_cl _) ?_ | refine RC.one (ZI.cl _) ?_ | refine RC.one (vecV_cl _) ?_)) ?_
      refine Safe.drop2 hH rfl (by simp only [List.all_cons, List.all_nil, rvV_nref, E3, seval]) (by repeat (first | exact RC.nil | refine RC.none ?_ | refine RC.row ZI.cl ?_ | refine RC.cons (blk_u32 _) ?_ | refine RC.row vecV_cl ?_ | refine RC.emp ?_ | refine RC.zero ?_ | refine RC.one (Z_cl _) ?_ | refine RC.one (ZI.cl _) ?_ | refine RC.one (vecV_cl _) ?_)) ?_
      refine Safe.drop1 hH rfl (by simp only [List.all_cons, List.all_nil, rvV_nref, E3, seval]) (by repeat (first | exact RC.nil | refine RC.none ?_ | refine RC.row ZI.cl ?_ | refine RC.cons (blk_u32 _) ?_ | refine RC.row vecV_cl ?_ | refine RC.emp ?_ | refine RC.zero ?_ | refine RC.one (Z_cl _) ?_ | refine RC.one (ZI.cl _) ?_ | refine RC.one (vecV_cl _) ?_)) ?_
      exact ih
  · refine Safe.inLoop ?_
    refine Safe.rg rfl ?_
    simp only [ref06_whole_r3, rv_len, Int.lt_irrefl, E3, seval]
    refine Safe.cd rfl ?_
    simp only [E3, seval]
    refine Safe.rg rfl ?_
    simp only [ref06_whole_r8, E3, seval]
    first | refine (r2of_pure 0 (by decide) (by decide)).acall ?_ | refine (r2of_pure 0 (by decide) (by decide)).dcall ?_
    try simp only [E3, seval]
    refine Safe.rg rfl ?_
    simp only [ref06_whole_r9, E3, seval]
    refine Safe.nilrow 9 2 (by decide) (by simp only [E3, seval]) ?_
    refine Safe.rg rfl ?_
    simp only [ref06_whole_r10, E3, seval]
    have hL := hlc c (Nat.le_refl c)
    have hL0 := hl0 c
    refine Safe.lp rfl ?_
    refine Safe.keep [0, 3, 8, 9, 10] ?_
    try simp only [E3, seval]
    refine Safe.loopN (c) (fun i => [(0, rvV x c), (3, .loc (lid H 0) 0 0), (8, .loc (lid H 1) 0 0), (9, .mu (lid H 2) 0 i none), (10, .int .i64 i)]) (fun i => hap H [some ⟨2, [Z (lcmTo x c : Nat)]⟩, some ⟨2, [Z (gcdTo (outI x c) i : Nat)]⟩, some ⟨2, (vec i (outI x c)).map ZI.av⟩]) rfl rfl (fun i hi ih => ?_) ?_
    · have hlt : ((i : Int) < (c : Int)) = True := eq_true (by omega)
      have hiw : IntKind.wrap .i64 ((i : Int) + 1) = ((i + 1 : Nat) : Int) := by rw [wrap_i64] <;> omega
      have hdi := hdl i hi
      have hd0 := (x i).den_pos
      have hni := hnl i hi
      have hoi := hol i hi
      have hgi := hgl i (by omega)
      refine Safe.inLoop ?_
      refine Safe.rg rfl ?_
      simp only [ref06_whole_r11, rv_len, hlt, E3, seval]
      refine Safe.cd rfl ?_
      simp only [E3, seval]
      have hfl := r2floor_pure (canZ ((lcmTo x c : Nat) : Int)) (dZ (x i).den) K (zok_can (by exact hL)) (dZ_ok hdi) (by omega) (by rw [dZ_z]; omega)
      rw [canZ_z, dZ_z] at hfl
      have hq : ((lcmTo x c : Nat) : Int).fdiv ((x i).den : Int) = ((lcmTo x c / (x i).den : Nat) : Int) := by
        rw [Int.fdiv_eq_ediv_of_nonneg _ (Int.natCast_nonneg _)]; rfl
      rw [hq] at hfl
      have hqk : lcmTo x c / (x i).den < LB ^ K := Nat.lt_of_le_of_lt (Nat.div_le_self _ _) hL
      refine Safe.rx rfl (by simp only [sdOk_cons, sdOk_nil, locNe_loc, E3, seval]) ?_
      simp only [ref06_whole_r12, ref06_whole_r12a, ref06_whole_r12b, rv_idx _ x .i64 hi, Rv_at2, Rv_cells, E3, seval]
      refine hfl.dcall ?_
      simp only [E3, seval]
      refine ⟨?_, ?_⟩
      all_goals
        refine Safe.rg rfl ?_
        simp only [ref06_whole_r13, rv_idx _ x .i64 hi, Rv_at0, Rv_cells, E3, seval]
        have hm := r2mul_can (a := (x i).num) (b := ((lcmTo x c / (x i).den : Nat) : Int)) (k := K) (l := K) hni (by exact hqk) (by omega)
        refine hm.dcall ?_
        simp only [E3, seval]
        rw [app_row hH 2 (lid_ge H 2) ZI.cl (vec i (outI x c)) (canZ (outI x c i)) (vec (i + 1) (outI x c)) ?hlen ?hl ?hL ?hy ?hl2 ?hb ?hbb]
        case hlen => first | rfl | (simp only [vec_length, mat_length, List.length_map, List.length_take]; done) | (simp only [vec_length, mat_length, List.length_map, List.length_take]; omega)
        case hl => rfl
        case hL => repeat (first | exact RC.nil | refine RC.none ?_ | refine RC.row ZI.cl ?_ | refine RC.cons (blk_u32 _) ?_ | refine RC.row vecV_cl ?_ | refine RC.emp ?_ | refine RC.zero ?_ | refine RC.one (Z_cl _) ?_ | refine RC.one (ZI.cl _) ?_ | refine RC.one (vecV_cl _) ?_)
        case hy => rfl
        case hl2 => first | exact vec_succ _ _ | exact mat_succ _ _ | exact take_succ _ (by omega) | exact take_map_succ _ _ (by omega)
        case hb => omega
        case hbb => omega
        simp only [rvV_nref, E3, seval]
        have hg := r2gcd_pure (canZ (gcdTo (outI x c) i : Nat)) (canZ (outI x c i)) K (zok_can (by exact hgi)) (zok_can hoi) (by omega)
        rw [canZ_z, canZ_z] at hg
        refine Safe.rg rfl ?_
        simp only [ref06_whole_r14, idx_r2 (Nat.lt_succ_self i), at_r2 (Nat.lt_succ_self i), E3, seval]
        refine hg.dcall ?_
        simp only [E3, seval]
        refine Safe.rg rfl ?_
        simp only [ref06_whole_r15, hiw, E3, seval]
        refine Safe.keep [0, 3, 8, 9, 10] ?_
        simp only [E3, seval]
        refine Safe.drop4 hH rfl (by simp only [List.all_cons, List.all_nil, rvV_nref, E3, seval]) (by repeat (first | exact RC.nil | refine RC.none ?_ | refine RC.row ZI.cl ?_ | refine RC.cons (blk_u32 _) ?_ | refine RC.row vecV_cl ?_ | refine RC.emp ?_ | refine RC.zero ?_ | refine RC.one (Z_cl _) ?_ | refine RC.one (ZI.cl _) ?_ | refine RC.one (vecV_cl _) ?_)) ?_
        refine Safe.drop3 hH rfl (by simp only [List.all_cons, List.all_nil, rvV_nref, E3, seval]) (by repeat (first | exact RC.nil | refine RC.none ?_ | refine RC.row ZI.cl ?_ | refine RC.cons (blk_u32 _) ?_ | refine RC.row vecV_cl ?_ | refine RC.emp ?_ | refine RC.zero ?_ | refine RC.one (Z_cl _) ?_ | refine RC.one (ZI.cl _) ?_ | refine RC.one (vecV_cl _) ?_)) ?_
        exact ih
    · refine Safe.inLoop ?_
      refine Safe.rg rfl ?_
      simp only [ref06_whole_r11, rv_len, Int.lt_irrefl, E3, seval]
      refine Safe.cd rfl ?_
      simp only [E3, seval]
      refine Safe.rg rfl ?_
      simp only [ref06_whole_r16, E3, seval]
      have hgc := hgl c (Nat.le_refl c)
      generalize hG : gcdTo (outI x c) c = g at *
      let F : Nat → Nat → Int := fun i j => if j < i then outI x c j / (g : Int) else outI x c j
      have hFend : ∀ i, (g = 0 ∨ c ≤ i) → vec c (F i) = vec c fun j => outI x c j / (g : Int) := by
        intro i hgi
        refine vec_congr fun j hj => ?_
        show (if j < i then outI x c j / (g : Int) else outI x c j) = _
        split
        · rfl
        · rcases hgi with h | h
          · rw [h]; rw [(gcdTo_zero (w := outI x c) (n := c)).1 (by rw [hG]; exact h) j hj]; rfl
          · omega
      have hfin : ∀ i, (g = 0 ∨ c ≤ i) → Safe ⟨Pr, fun _ _ => false, F_ref06_whole, 99, [.tmp 2], H.length⟩ [.code (.region ref06_whole_r20 false), .code .ret] [(9, .mu (lid H 2) 0 c none)]
          (hap H [some ⟨2, [Z (lcmTo x c : Nat)]⟩, some ⟨2, [Z (g : Int)]⟩, some ⟨2, (vec c (F i)).map ZI.av⟩]) fun r' H' => r' = vecV (vec c (primI (outI x c) c)) ∧ ∃ L, H' = hap H L := by
        intro i hi
        rw [hFend i hi]
        refine Safe.freeze 2 hH rfl rfl (blk_map 2 ZI.av _ ZI.cl) ?_
        refine Safe.keep [9] ?_
        simp only [frz_vec H 2 (vec c fun j => outI x c j / (g : Int)) (c) (none) (by simp only [vec_length, mat_length]), frz_mu_other, frz_loc_other, map_frz_vec, map_frz_mat, E3, seval]
        refine Safe.rg rfl ?_
        simp only [ref06_whole_r20, E3, seval]
        have hvk : Vok K (vec c fun j => outI x c j / (g : Int)) := zok_vec hc fun j hj => Nat.lt_of_le_of_lt (Int.natAbs_ediv_le_natAbs _ _) (hol j hj)
        first | refine (rupright_pure _ (hvk.mono (by omega))).acall ?_ | refine (rupright_pure _ (hvk.mono (by omega))).dcall ?_
        try simp only [E3, seval]
        have hres : (vec (vec c fun j => outI x c j / (g : Int)).length fun i => upS (vec c fun j => outI x c j / (g : Int)) * zg (vec c fun j => outI x c j / (g : Int)) i) = vec c (primI (outI x c) c) := by
          rw [vec_length]
          refine vec_congr fun j hj => ?_
          rw [zg_vec hj, prim_up hj, ← sgF_up, vec_length, hG]
          congr 1
          rw [sgF_congr (v := fun j => outI x c j / (g : Int)) fun j hj => zg_vec hj, ← hG]
          exact sgF_div
        rw [hres]
        refine Safe.rt rfl ?_
        simp only [E3, seval]
        first | exact ⟨rfl, _, rfl⟩ | exact ⟨_, rfl⟩ | exact ⟨trivial, _, rfl⟩
      refine Safe.lp rfl ?_
      refine Safe.keep [8, 9, 13] ?_
      try simp only [E3, seval]
      by_cases hg0 : g = 0
      · refine Safe.inLoop ?_
        by_cases hc0 : c = 0
        · subst hc0
          refine Safe.rg rfl ?_
          simp only [ref06_whole_r17, Int.lt_irrefl, E3, seval]
          refine Safe.cd rfl ?_
          simp only [E3, seval]
          refine Safe.keep [9] ?_
          simp only [E3, seval]
          refine Safe.stl 40 _ ?_
          exact hfin 0 (.inr (Nat.le_refl 0))
        · have hlt : ((0 : Int) < (c : Int)) = True := eq_true (by omega)
          refine Safe.rg rfl ?_
          simp only [ref06_whole_r17, hlt, E3, seval]
          have hs := r2sign_pure (canZ 0) ((zok_can (k := 1) (by decide)).mono (by decide))
          rw [canZ_z] at hs
          subst hg0
          refine hs.acall ?_
          simp only [Int.sign_zero, E3, seval]
          refine Safe.cd rfl ?_
          simp only [E3, seval]
          refine Safe.keep [9] ?_
          simp only [E3, seval]
          refine Safe.stl 40 _ ?_
          have hfin0 := hfin 0 (.inl rfl)
          rw [show vec c (F 0) = vec c (outI x c) from vec_congr fun j _ => if_neg (Nat.not_lt_zero j)] at hfin0
          exact hfin0
      · refine Safe.loopN c (fun i => [(8, .loc (lid H 1) 0 0), (9, .mu (lid H 2) 0 c none), (13, .int .i64 i)]) (fun i => hap H [some ⟨2, [Z (lcmTo x c : Nat)]⟩, some ⟨2, [Z (g : Int)]⟩, some ⟨2, (vec c (F i)).map ZI.av⟩]) rfl ?_ (fun i hi ih => ?_) ?_
        · rw [show vec c (F 0) = vec c (outI x c) from vec_congr fun j _ => if_neg (Nat.not_lt_zero j)]
        · have hlt : ((i : Int) < (c : Int)) = True := eq_true (by omega)
          have hiw : IntKind.wrap .i64 ((i : Int) + 1) = ((i + 1 : Nat) : Int) := by rw [wrap_i64] <;> omega
          refine Safe.inLoop ?_
          have hs := r2sign_pure (canZ (g : Int)) ((zok_can (by exact hgc)).mono (by omega))
          rw [canZ_z] at hs
          have hsg : ((g : Int).sign > 0) = True := eq_true (Int.sign_pos_iff.2 (by omega))
          refine Safe.rg rfl ?_
          simp only [ref06_whole_r17, hlt, E3, seval]
          refine hs.acall ?_
          simp only [hsg, E3, seval]
          refine Safe.cd rfl ?_
          simp only [E3, seval]
          have hoi := hol i hi
          have hFi : F i i = outI x c i := if_neg (Nat.lt_irrefl i)
          have hfl := r2floor_pure (canZ (outI x c i)) (canZ (g : Int)) K (zok_can hoi) (zok_can (by exact hgc)) (by omega) (by rw [canZ_z]; omega)
          rw [canZ_z, canZ_z, Int.fdiv_eq_ediv_of_nonneg _ (Int.natCast_nonneg g)] at hfl
          have hup : vec c (updF (F i) i (outI x c i / (g : Int))) = vec c (F (i + 1)) := by
            refine vec_congr fun j _ => ?_
            unfold updF
            show (if j = i then outI x c i / (g : Int) else if j < i then outI x c j / (g : Int) else outI x c j) = if j < i + 1 then outI x c j / (g : Int) else outI x c j
            by_cases h1 : j = i
            · subst h1; rw [if_pos rfl, if_pos (Nat.lt_succ_self j)]
            · rw [if_neg h1]
              by_cases h2 : j < i
              · rw [if_pos h2, if_pos (by omega)]
              · rw [if_neg h2, if_neg (by omega)]
          refine Safe.rg rfl ?_
          simp only [ref06_whole_r18, idx_r2 hi, at_r2 hi, hFi, E3, seval]
          refine hfl.dcall ?_
          simp only [idx_r2 hi, E3, seval]
          simp only [st_r2 _ hi, hup, E3, seval]
          refine Safe.rg rfl ?_
          simp only [ref06_whole_r19, hiw, E3, seval]
          refine Safe.keep [8, 9, 13] ?_
          simp only [E3, seval]
          exact ih
        · refine Safe.inLoop ?_
          refine Safe.rg rfl ?_
          simp only [ref06_whole_r17, Int.lt_irrefl, E3, seval]
          refine Safe.cd rfl ?_
          simp only [E3, seval]
          refine Safe.keep [9] ?_
          simp only [E3, seval]
          refine Safe.stl 40 _ ?_
          exact hfin c (.inr (Nat.le_refl c))
end Go.Abs

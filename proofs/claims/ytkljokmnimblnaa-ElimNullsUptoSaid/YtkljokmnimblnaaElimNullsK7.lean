/- Part 7 of the proof of ElimNulls: W9, W10, W11, W12, W13, W14, W15, W16, W17, W18, W19. -/
import Derived.Test.YtkljokmnimblnaaElimNullsK6
set_option linter.unusedVariables false
set_option linter.unusedSimpArgs false
namespace Go.Abs
theorem b8x {n : Nat} (M : Nat) : (fl n fun j => if n ≤ j then dig M j else 0) = fl n fun _ => 0 := a2U fun i hi => if_neg (by omega)
theorem b8y {n i : Nat} (M : Nat) : (fl n fun j => if j = i then dig M i else if i + 1 ≤ j then dig M j else 0) = fl n fun j => if i ≤ j then dig M j else 0 := a2U fun j _ => by
  by_cases h : j = i
  · subst h; rw [if_pos rfl, if_pos (Nat.le_refl _)]
  · rw [if_neg h]
    by_cases h2 : i + 1 ≤ j
    · rw [if_pos h2, if_pos (by omega)]
    · rw [if_neg h2, if_neg (by omega)]
theorem c3D {n : Nat} (M : Nat) : (fl n fun j => if 0 ≤ j then dig M j else 0) = fl n (dig M) := a2U fun j _ => if_pos (Nat.zero_le _)
theorem b1U {A n d : Nat} (h : A < LB ^ n) : A / d < LB ^ n := Nat.lt_of_le_of_lt (Nat.div_le_self _ _) h
theorem c7p (a : List Nat) (d : Nat) (ha : Nt a) (hd : 0 < d) (hd2 : d < LB) : a0d Pr b4U [natV a, .int .u32 d] (.tup [natV (limbs (val a / d)), .int .u32 (val a % d : Nat)]) := by
  have hLB : LB = 4294967296 := rfl
  have hlen := ha.len
  have hv := a1e ha.lim
  refine a0d.intro d3l d3j (Nat.le_of_ble_eq_true rfl) (a7m (a0X _) (.int _ _)) fun H hH => ?_
  refine Safe.rg rfl ?_
  simp only [c2b, E3, seval]
  refine Safe.rg rfl ?_
  simp only [c2a, b9i (H := H) (L := []) (n := a.length) (by omega), E3, seval]
  refine Safe.rg rfl ?_
  simp only [c1Z, E3, seval]
  refine Safe.rg rfl ?_
  simp only [c1Y, a0a (n := (a.length : Int) - 1) (by omega) (by omega), E3, seval]
  refine Safe.lp rfl ?_
  refine Safe.keep [0, 1, 6, 7, 8] ?_
  simp only [E3, seval]
  refine Safe.loopD a.length (fun i => [(0, natV a), (1, .int .u32 d), (6, .mu (lid H 0) 0 a.length (some a.length)), (7, .int .u64 (val a / LB ^ i % d : Nat)), (8, .int .i64 ((i : Int) - 1))])
    (fun i => hap H [some ⟨1, u32s (fl a.length fun j => if i ≤ j then dig (val a / d) j else 0)⟩]) ?_ ?_ (fun i hi ih => ?_) ?_
  · rw [Nat.div_eq_of_lt hv]; rfl
  · rw [b8x]
  · have e1 : ((i + 1 : Nat) : Int) - 1 = (i : Int) := by omega
    rw [e1]
    refine Safe.inLoop ?_
    refine Safe.rg rfl ?_
    simp only [b0P, Int.natCast_nonneg i, E3, seval]
    refine Safe.cd rfl ?_
    simp only [E3, seval]
    have hr : val a / LB ^ (i + 1) % d < LB := Nat.lt_trans (Nat.mod_lt _ hd) hd2
    have hai : a.getD i 0 < LB := a0O ha.lim i
    refine Safe.rg rfl ?_
    simp only [c1X, a0C _ a _ i hi, e6m hr, a2k (x := a.getD i 0) (by omega), c4b hr hai, E3, seval]
    rw [← d1c ha.lim i]
    have hs := c4i (val a) d i
    have hq := c4j (val a) d i
    have hb : val a / LB ^ (i + 1) % d * LB + dig (val a) i < 18446744073709551616 := by
      have := b8z (val a) i
      have : val a / LB ^ (i + 1) % d * LB ≤ 4294967295 * LB := Nat.mul_le_mul_right _ (by omega)
      omega
    refine Safe.rg rfl ?_
    simp only [c1W, a2k (x := d) (by omega), d0o hd hb, hq, a9E (b8z _ _), d9x hi, fst0 hi, E3, seval]
    refine Safe.rg rfl ?_
    simp only [c1V, a2k (x := d) (by omega), e0y hd, hs, E3, seval]
    refine Safe.rg rfl ?_
    simp only [c1U, a0a (n := (i : Int) - 1) (by omega) (by omega), E3, seval]
    refine Safe.keep [0, 1, 6, 7, 8] ?_
    simp only [E3, seval]
    rw [b8y]
    exact ih
  · refine Safe.inLoop ?_
    refine Safe.rg rfl ?_
    simp only [b0P, show (0 ≤ ((0 : Nat) : Int) - 1) = False by simp, E3, seval]
    refine Safe.cd rfl ?_
    simp only [E3, seval]
    refine Safe.freeze 0 hH rfl rfl (a0r _) ?_
    refine Safe.keep [6, 7] ?_
    simp only [d3R, E3, seval]
    rw [c3D]
    have hr : val a % d < LB := Nat.lt_trans (Nat.mod_lt _ hd) hd2
    refine Safe.rg rfl ?_
    simp only [c1T, E3, seval]
    first | refine (a0w _ (a2P _ _) (by rw [a1g]; exact hlen)).acall ?_ | refine (a0w _ (a2P _ _) (by rw [a1g]; exact hlen)).dcall ?_
    try simp only [E3, seval]
    simp only [a1U (b1U hv (d := d)), Nat.pow_zero, Nat.div_one, a9E hr, E3, seval]
    refine Safe.rt rfl ?_
    simp only [E3, seval]
    first | exact ⟨rfl, _, rfl⟩ | exact ⟨_, rfl⟩ | exact ⟨trivial, _, rfl⟩
theorem d7E (n : Nat) (h : n < LB) : a0d Pr a1I [.int .u32 n] (.int .i64 ((32 - blen n : Nat) : Int)) := by
  have hLB : LB = 4294967296 := rfl
  have hb : blen n ≤ 32 := by
    rcases Nat.lt_or_ge 32 (blen n) with hc | hc
    · exfalso
      have h0 : n ≠ 0 := by rintro rfl; simp [d4j] at hc
      have := b9I h0
      have h2 : 2 ^ 32 ≤ 2 ^ (blen n - 1) := Nat.pow_le_pow_right (by decide) (by omega)
      have : (2 : Nat) ^ 32 = LB := by decide
      omega
    · exact hc
  refine a0d.intro a5C a5B (Nat.le_of_ble_eq_true rfl) (.int _ _) fun H hH => ?_
  refine Safe.rg rfl ?_
  simp only [a2v, E3, seval]
  refine Safe.rg rfl ?_
  simp only [a2u, E3, seval]
  first | refine (b9q n (by omega)).acall ?_ | refine (b9q n (by omega)).dcall ?_
  try simp only [E3, seval]
  have hw : IntKind.wrap .i64 ((32 : Int) - ((blen n : Nat) : Int)) = ((32 - blen n : Nat) : Int) := by rw [a0a] <;> omega
  simp only [hw, E3, seval]
  refine Safe.rt rfl ?_
  simp only [E3, seval]
  first | exact ⟨rfl, _, rfl⟩ | exact ⟨_, rfl⟩ | exact ⟨trivial, _, rfl⟩
section
variable {H L : Heap} {id : Nat} {b : Blk}
theorem lrow (h : H[id]? = some (some b)) : hrow (hap H L) id = some b := by
  have hlt := a0h h
  rw [a6B _ _ _ hlt]
  unfold hrow; rw [h]; rfl
theorem llen (h : H[id]? = some (some b)) (off len : Nat) (oc : Option Nat) : lenV (hap H L) (.mu id off len oc) = some (.int .i64 len) := by rw [c5P, lrow h]; rfl
theorem lidx (h : H[id]? = some (some b)) {wd off len j : Nat} (hw : b.wd = wd) (oc : Option Nat) (k : IntKind) (hj : j < len) : idxV (hap H L) wd (.mu id off len oc) (.int k j) = some (.loc id (off + j) 0) := by
  rw [b4H _ _ _ _ _ _ _ _ (by omega) (by omega), lrow h]; simp [hw]
theorem lat (h : H[id]? = some (some b)) {j : Nat} (hj : j < b.xs.length) : atV (hap H L) (.loc id j 0) = some (b.xs.getD j .top).cells := by rw [a9u, lrow h]; simp [hj]
theorem lslc (h : H[id]? = some (some b)) {wd off len n : Nat} (hw : b.wd = wd) (oc : Option Nat) (k : IntKind) (hn : n ≤ len) : slcV (hap H L) wd (.mu id off len oc) none (some (.int k n)) none = some (.mu id off n oc) := by
  simp only [slcV, lrow h, Option.bind_some, a3C]
  rw [if_pos ⟨hw, by omega, by omega, by omega⟩]
  cases oc <;> simp
theorem e1K {i : Nat} (h : L[i]? = some (some b)) : (hap H L)[lid H i]? = some (some b) := by
  unfold hap lid
  rw [List.getElem?_append_right (by omega), Nat.add_sub_cancel_left]; exact h
end
theorem e6f (X : List Nat) (hX : Lim X) (hb : X.length ≤ 17592186044416) {H : Heap} {id : Nat} (h : H[id]? = some (some ⟨1, u32s X⟩)) (n : Nat) (hn : n = X.length) (oc : Option Nat) :
    a0k Pr a0u [.mu id 0 n oc] H fun r' H' => r' = .mu id 0 (limbs (val X)).length oc ∧ H' = H := by
  subst hn
  have hid := a0h h
  refine a0k.eff c4L c4J (Nat.le_of_ble_eq_true rfl) fun hH => ?_
  have kk : ∀ k : Nat, k ≤ X.length → val (X.take k) = val X → Safe ⟨Pr, fun _ _ => false, a0u, 21, [.tmp 2], H.length⟩ [.inLoop c4K, .inBlock 0, .code ((ACode.region a4a false).seq ACode.ret)] [(0, .mu id 0 k oc)] (hap H [])
      fun r' H' => ∃ H1 L, H' = hap H1 L ∧ H1.length = H.length ∧ a0F H1 ∧ Ref (· < H.length) r' ∧ r' = .mu id 0 (limbs (val X)).length oc ∧ H1 = H := by
    have stop : ∀ (k : Nat) (env : Env), k ≤ X.length → val (X.take k) = val X → ((X.take k).getLast?).getD 1 ≠ 0 → look env 0 = .mu id 0 k oc → Safe ⟨Pr, fun _ _ => false, a0u, 21, [.tmp 2], H.length⟩ [.code ((ACode.region a4a false).seq ACode.ret)] env (hap H [])
        fun r' H' => ∃ H1 L, H' = hap H1 L ∧ H1.length = H.length ∧ a0F H1 ∧ Ref (· < H.length) r' ∧ r' = .mu id 0 (limbs (val X)).length oc ∧ H1 = H := by
      intro k env hk hv hl h0
      refine Safe.rg rfl ?_
      simp only [a4a, h0, E3, seval]
      refine Safe.rt rfl ?_
      simp only [E3, seval]
      refine ⟨H, [], rfl, rfl, hH, .mu _ _ _ _ hid, ?_, rfl⟩
      rw [← hv, a7F (hX.take k) hl, List.length_take, Nat.min_eq_left hk]
    intro k
    induction k with
    | zero =>
      intro hk hv
      refine Safe.inLoop ?_
      refine Safe.rg rfl ?_
      simp only [a5y, llen h, show ((0 : Int) < ((0 : Nat) : Int)) = False by simp, E3, seval]
      refine Safe.cd rfl ?_
      simp only [E3, seval]
      refine Safe.exit rfl ?_
      exact stop 0 _ hk hv (by simp) (by simp only [E3, seval])
    | succ k ih =>
      intro hk hv
      refine Safe.inLoop ?_
      have hw : IntKind.i64.wrap (((k + 1 : Nat) : Int) - 1) = (k : Int) := by rw [a0a] <;> omega
      have hp : (0 < ((k + 1 : Nat) : Int)) = True := eq_true (by omega)
      have hat := lat (L := []) h (j := k) (by rw [a0x]; omega)
      rw [b0o (by omega)] at hat
      refine Safe.rg rfl ?_
      simp only [a5y, llen h, hw, hp, lidx h rfl oc .i64 (Nat.lt_succ_self k), hat, E3, seval]
      have hlast : ((X.take (k + 1)).getLast?).getD 1 = X.getD k 0 := by rw [a7p (by omega)]; simp
      by_cases hd : X.getD k 0 = 0
      · have e : (((X.getD k 0 : Nat) : Int) = 0) = True := eq_true (by omega)
        refine Safe.cd rfl ?_
        simp only [e, E3, seval]
        refine Safe.rg rfl ?_
        simp only [b4n, llen h, hw, lslc h rfl oc .i64 (Nat.le_succ k), E3, seval]
        refine Safe.inBlock ?_
        refine Safe.keep [0] ?_
        simp only [E3, seval]
        refine ih (by omega) ?_
        rw [← hv, a0i, hd]; simp
      · have e : (((X.getD k 0 : Nat) : Int) = 0) = False := eq_false (by omega)
        refine Safe.cd rfl ?_
        simp only [e, E3, seval]
        refine Safe.exit rfl ?_
        exact stop (k + 1) _ hk hv (by rw [hlast]; exact hd) (by simp only [E3, seval])
  refine Safe.rg rfl ?_
  simp only [b4o, E3, seval]
  refine Safe.lp rfl ?_
  refine Safe.keep [0] ?_
  simp only [E3, seval]
  exact kk X.length (Nat.le_refl _) (by rw [List.take_length])
theorem e3m {l : List Nat} (hl : Lim l) {i n : Nat} (hi : i < l.length) (hn : n < 32) (j : Nat) :
    (if j = i + 1 then l.getD i 0 * 2 ^ n / LB else if j = i then l.getD i 0 % 2 ^ (32 - n) * 2 ^ n + dig (val (l.take i) * 2 ^ n) i else dig (val (l.take i) * 2 ^ n) j) = dig (val (l.take (i + 1)) * 2 ^ n) j := by
  have hLB : LB = 2 ^ (32 - n) * 2 ^ n := by rw [← Nat.pow_add, show 32 - n + n = 32 by omega]
  have hp : 0 < 2 ^ n := Nat.pow_pos (by decide)
  have hai := a0O hl i
  have hM := a2X hl i
  rw [a0i, Nat.add_mul]
  have e : LB ^ i * l.getD i 0 * 2 ^ n = LB ^ i * (l.getD i 0 * 2 ^ n) := Nat.mul_assoc _ _ _
  rw [e]
  generalize l.getD i 0 = a at *
  generalize hV : val (l.take i) = V at *
  have hy : V * 2 ^ n / LB ^ i < 2 ^ n := by
    rw [Nat.div_lt_iff_lt_mul (a5e i), Nat.mul_comm]
    exact Nat.mul_lt_mul_of_pos_left hM hp
  have h2n : 2 ^ n ≤ LB := by rw [hLB]; exact Nat.le_mul_of_pos_left _ (Nat.pow_pos (by decide))
  have hmod : a * 2 ^ n % LB = a % 2 ^ (32 - n) * 2 ^ n := by rw [hLB, Nat.mul_mod_mul_right]
  have hx : a % 2 ^ (32 - n) * 2 ^ n + V * 2 ^ n / LB ^ i < LB := by
    have h1 : (a % 2 ^ (32 - n) + 1) * 2 ^ n ≤ 2 ^ (32 - n) * 2 ^ n := Nat.mul_le_mul_right _ (Nat.mod_lt _ (Nat.pow_pos (by decide)))
    rw [← hLB, Nat.add_mul] at h1
    omega
  have hs : (V * 2 ^ n + LB ^ i * (a * 2 ^ n)) / LB ^ i = V * 2 ^ n / LB ^ i + a * 2 ^ n := Nat.add_mul_div_left _ _ (a5e i)
  have hdm := Nat.mod_add_div (a * 2 ^ n) LB
  rw [hmod] at hdm
  by_cases h1 : j = i + 1
  · rw [if_pos h1, h1]
    unfold dig
    rw [b1v, hs]
    have h3 : (V * 2 ^ n / LB ^ i + a * 2 ^ n) / LB = a * 2 ^ n / LB := by
      conv => lhs; rw [← hdm, ← Nat.add_assoc, Nat.add_mul_div_left _ _ (show 0 < LB by decide)]
      rw [Nat.div_eq_of_lt (by omega), Nat.zero_add]
    rw [h3, Nat.mod_eq_of_lt]
    rw [Nat.div_lt_iff_lt_mul (by decide)]
    exact Nat.lt_of_lt_of_le (Nat.mul_lt_mul_of_pos_right hai hp) (Nat.mul_le_mul_left _ h2n)
  · rw [if_neg h1]
    by_cases h2 : j = i
    · rw [if_pos h2, h2]
      have h5 : (V * 2 ^ n / LB ^ i + a * 2 ^ n) % LB = V * 2 ^ n / LB ^ i + a % 2 ^ (32 - n) * 2 ^ n := by
        have : V * 2 ^ n / LB ^ i + a * 2 ^ n = (V * 2 ^ n / LB ^ i + a % 2 ^ (32 - n) * 2 ^ n) + LB * (a * 2 ^ n / LB) := by omega
        rw [this, Nat.add_mul_mod_self_left, Nat.mod_eq_of_lt (by omega)]
      unfold dig
      rw [hs, h5, Nat.mod_eq_of_lt (show V * 2 ^ n / LB ^ i < LB by omega), Nat.add_comm]
    · rw [if_neg h2]
      rcases Nat.lt_or_ge j i with h3 | h3
      · exact (c6q _ h3).symm
      · have hbig : LB ^ (i + 1) * LB ≤ LB ^ j := by
          rw [← Nat.pow_succ]; exact Nat.pow_le_pow_right (by decide) (by omega)
        have hlow : V * 2 ^ n < LB ^ (i + 1) := by
          rw [Nat.pow_succ]
          exact Nat.lt_of_lt_of_le (Nat.mul_lt_mul_of_pos_right hM hp) (Nat.mul_le_mul_left _ h2n)
        have hall : V * 2 ^ n + LB ^ i * (a * 2 ^ n) < LB ^ (i + 1) * LB := by
          have q1 : V * 2 ^ n + LB ^ i * (a * 2 ^ n) = (V + LB ^ i * a) * 2 ^ n := by rw [Nat.add_mul, Nat.mul_assoc]
          have q2 : LB ^ i * (a + 1) ≤ LB ^ (i + 1) := by rw [Nat.pow_succ]; exact Nat.mul_le_mul_left _ hai
          rw [Nat.mul_add, Nat.mul_one] at q2
          rw [q1]
          exact Nat.lt_of_lt_of_le (Nat.mul_lt_mul_of_pos_right (show V + LB ^ i * a < LB ^ (i + 1) by omega) hp) (Nat.mul_le_mul_left _ h2n)
        have hL1 : LB ^ (i + 1) ≤ LB ^ (i + 1) * LB := Nat.le_mul_of_pos_right _ (by decide)
        rw [b1V (by omega), b1V (by omega)]
theorem a0k.introH {P : Program} {mu : Nat → Nat → Bool} {f : FuncId} {fn : Func} (hf : P.funcs[f]? = some fn) {ac : ACode} {rs : List ResV} {nt : Nat} (hc : fchk P mu fn = some (ac, rs, nt))
    {args : List AV} {H : Heap} {R : AV → Heap → Prop} (ha : args.length ≤ nt) (h : a0F H → Safe ⟨P, mu, f, nt, rs, H.length⟩ [.code ac] (c3m 0 args) (hap H []) R) : a0k P f args H R := a0k.intro hf hc ha fun hH => by
  have := h hH
  rw [a1F] at this
  exact this
theorem d1F (a : List Nat) (n : Nat) (ha : Nt a) (hal : a.length < 17592186044416) (hv : val a ≠ 0) (hn : n < 32) (H : Heap) : a0k Pr b8E [natV a, .int .i64 n] H fun r' H' =>
    r' = .mu (lid H 0) 0 (limbs (val a * 2 ^ n)).length (some ((limbs (val a)).length + 1)) ∧ H' = hap H [some ⟨1, u32s (fl ((limbs (val a)).length + 1) (dig (val a * 2 ^ n)))⟩] := by
  have hlb : (limbs (val a)).length < 17592186044416 := Nat.lt_of_le_of_lt (a0Y ha.lim) hal
  have hlim := a0c (val a)
  have hval := a0b (val a)
  have hne : (limbs (val a)).length ≠ 0 := by
    intro h0
    have := List.length_eq_zero_iff.1 h0
    rw [this] at hval
    exact hv hval.symm
  have hLB : LB = 4294967296 := rfl
  refine a0k.introH d8N d8L (Nat.le_of_ble_eq_true rfl) fun hH => ?_
  refine Safe.rg rfl ?_
  simp only [c7T, E3, seval]
  refine Safe.rg rfl ?_
  simp only [c7S, E3, seval]
  first | refine (a0w a ha.lim ha.len).acall ?_ | refine (a0w a ha.lim ha.len).dcall ?_
  try simp only [E3, seval]
  generalize limbs (val a) = l at *
  generalize val a = A at *
  subst hval
  have h0 : ((l.length : Int) = 0) = False := eq_false (by omega)
  refine Safe.rg rfl ?_
  simp only [c7R, h0, E3, seval]
  refine Safe.cd rfl ?_
  simp only [E3, seval]
  have hq : binV .quo (.int .i64 (n : Int)) (.int .i64 32) = some (.int .i64 0) := by
    have := e3v (x := n) (y := 32) (by decide) (by omega)
    rw [Nat.div_eq_of_lt hn] at this; exact this
  have hr : binV .rem (.int .i64 (n : Int)) (.int .i64 32) = some (.int .i64 (n : Int)) := by
    have := e3u (x := n) (y := 32) (by decide)
    rw [Nat.mod_eq_of_lt hn] at this; exact this
  refine Safe.rg rfl ?_
  simp only [c7Q, hq, hr, a2k (x := n) (by omega), E3, seval]
  have w1 : IntKind.wrap .i64 ((l.length : Int) + 0) = (l.length : Int) := by rw [Int.add_zero]; exact d1z (by omega)
  have w2 : IntKind.wrap .i64 ((l.length : Int) + 1) = ((l.length + 1 : Nat) : Int) := by rw [a0a] <;> omega
  refine Safe.rg rfl ?_
  simp only [c7P, w1, w2, b9i (H := H) (L := []) (n := l.length + 1) (by omega), E3, seval]
  refine Safe.rg rfl ?_
  simp only [c7O, E3, seval]
  refine Safe.lp rfl ?_
  refine Safe.keep [0, 5, 6, 7, 27, 28] ?_
  simp only [E3, seval]
  refine Safe.loopN l.length (fun i => [(0, natV l), (5, .int .i64 0), (6, .int .u64 (n : Int)), (7, .mu (lid H 0) 0 (l.length + 1) (some (l.length + 1))), (27, .int .i64 l.length), (28, .int .i64 i)])
    (fun i => hap H [some ⟨1, u32s (fl (l.length + 1) (dig (val (l.take i) * 2 ^ n)))⟩]) rfl ?_ (fun i hi ih => ?_) ?_
  · congr 5
    refine a2U fun j _ => ?_
    simp [dig, val]
  · have hlt : ((i : Int) < (l.length : Int)) = True := eq_true (by omega)
    refine Safe.inLoop ?_
    refine Safe.rg rfl ?_
    simp only [b8Y, hlt, E3, seval]
    refine Safe.cd rfl ?_
    simp only [E3, seval]
    have hai := a0O hlim i
    refine Safe.rg rfl ?_
    simp only [c7N, E3, seval]
    refine Safe.rg rfl ?_
    simp only [c7M, a0C _ l _ i hi, a2k (x := l.getD i 0) (by omega), e8u hai (show n < 33 by omega), E3, seval]
    have w3 : IntKind.wrap .i64 ((i : Int) + 0) = (i : Int) := by rw [Int.add_zero]; exact d1z (by omega)
    have w4 : IntKind.wrap .i64 ((i : Int) + 1) = ((i + 1 : Nat) : Int) := by rw [a0a] <;> omega
    have hLB2 : LB = 2 ^ (32 - n) * 2 ^ n := by rw [← Nat.pow_add, show 32 - n + n = 32 by omega]
    have w5 : IntKind.wrap .u32 ((l.getD i 0 * 2 ^ n : Nat) : Int) = ((l.getD i 0 % 2 ^ (32 - n) * 2 ^ n : Nat) : Int) := by
      rw [a1Y]; congr 1
      rw [hLB2, Nat.mul_mod_mul_right]
    have hy : dig (val (l.take i) * 2 ^ n) i < 2 ^ n := by
      unfold dig
      refine Nat.lt_of_le_of_lt (Nat.mod_le _ _) ?_
      rw [Nat.div_lt_iff_lt_mul (a5e i), Nat.mul_comm]
      exact Nat.mul_lt_mul_of_pos_left (a2X hlim i) (Nat.pow_pos (by decide))
    have w6 := d9Q (x := l.getD i 0 % 2 ^ (32 - n)) n (Nat.mod_lt _ (Nat.pow_pos (by decide))) (by omega) hy
    refine Safe.rg rfl ?_
    simp only [c4Q, w3, d9x (show i < l.length + 1 by omega), fat0 (show i < l.length + 1 by omega), w5, w6, fst0 (show i < l.length + 1 by omega), E3, seval]
    have hq2 : l.getD i 0 * 2 ^ n / LB < LB := by
      rw [Nat.div_lt_iff_lt_mul (by decide)]
      have h2n : 2 ^ n ≤ LB := by rw [hLB2]; exact Nat.le_mul_of_pos_left _ (Nat.pow_pos (by decide))
      exact Nat.lt_of_lt_of_le (Nat.mul_lt_mul_of_pos_right hai (Nat.pow_pos (by decide))) (Nat.mul_le_mul_left _ h2n)
    refine Safe.rg rfl ?_
    simp only [c4P, w3, w4, e0j, a9E hq2, d9x (show i + 1 < l.length + 1 by omega), fst0 (show i + 1 < l.length + 1 by omega), E3, seval]
    refine Safe.rg rfl ?_
    simp only [c4O, w4, E3, seval]
    refine Safe.keep [0, 5, 6, 7, 27, 28] ?_
    simp only [E3, seval]
    rw [a2U fun j _ => e3m hlim hi hn j]
    exact ih
  · refine Safe.inLoop ?_
    refine Safe.rg rfl ?_
    simp only [b8Y, Int.lt_irrefl, E3, seval]
    refine Safe.cd rfl ?_
    simp only [E3, seval]
    rw [List.take_length]
    refine Safe.rg rfl ?_
    simp only [c4N, E3, seval]
    have hb : val l * 2 ^ n < LB ^ (l.length + 1) := by
      rw [Nat.pow_succ]
      have h2n : 2 ^ n ≤ LB := by
        have : LB = 2 ^ (32 - n) * 2 ^ n := by rw [← Nat.pow_add, show 32 - n + n = 32 by omega]
        rw [this]; exact Nat.le_mul_of_pos_left _ (Nat.pow_pos (by decide))
      exact Nat.lt_of_lt_of_le (Nat.mul_lt_mul_of_pos_right (a1e hlim) (Nat.pow_pos (by decide))) (Nat.mul_le_mul_left _ h2n)
    refine a0k.mono (e6f _ (a2P _ _) (by rw [a1g]; omega) (e1K rfl) (l.length + 1) (a1g _ _).symm (some (l.length + 1))) ?_
    rintro r' H' ⟨rfl, rfl⟩
    rw [a1U hb]
    simp only [E3, seval]
    refine Safe.rt rfl ?_
    simp only [E3, seval]
theorem a2G (l : List Nat) (i : Nat) : val (l.drop i) = l.getD i 0 + LB * val (l.drop (i + 1)) := by
  rcases Nat.lt_or_ge i l.length with h | h
  · rw [List.drop_eq_getElem_cons h, List.getD_eq_getElem?_getD, List.getElem?_eq_getElem h]; rfl
  · rw [List.drop_eq_nil_of_le h, List.drop_eq_nil_of_le (by omega), a6D h]; rfl
theorem d4I {l : List Nat} (hl : Lim l) (i : Nat) : val l / LB ^ i = val (l.drop i) := by
  rw [a3m l i, Nat.add_mul_div_left _ _ (a5e i), Nat.div_eq_of_lt (a2X hl i), Nat.zero_add]
theorem d6K {l : List Nat} (hl : Lim l) (i : Nat) {n : Nat} (hn : n < 32) : (l.getD (i + 1) 0 * LB + l.getD i 0) / 2 ^ n % LB = dig (val l / 2 ^ n) i := by
  have hLB : LB = 2 ^ (32 - n) * 2 ^ n := by rw [← Nat.pow_add, show 32 - n + n = 32 by omega]
  unfold dig
  rw [Nat.div_div_eq_div_mul, Nat.mul_comm (2 ^ n), ← Nat.div_div_eq_div_mul, d4I hl, a2G, a2G l (i + 1)]
  have e : l.getD i 0 + LB * (l.getD (i + 1) 0 + LB * val (l.drop (i + 1 + 1))) = (l.getD (i + 1) 0 * LB + l.getD i 0) + 2 ^ n * (LB * (2 ^ (32 - n) * val (l.drop (i + 1 + 1)))) := by
    have h1 : LB * (LB * val (l.drop (i + 1 + 1))) = 2 ^ n * (LB * (2 ^ (32 - n) * val (l.drop (i + 1 + 1)))) := by
      conv => lhs; rw [Nat.mul_left_comm]; lhs; rw [hLB]
      rw [Nat.mul_comm (2 ^ (32 - n)), Nat.mul_assoc]
      congr 1
      rw [Nat.mul_left_comm]
    rw [Nat.mul_add, h1, Nat.mul_comm LB (l.getD (i + 1) 0)]
    omega
  rw [e, Nat.add_mul_div_left _ _ (Nat.pow_pos (by decide)), Nat.add_mul_mod_self_left]
theorem d6L (a : List Nat) (n : Nat) (ha : Nt a) (hn : n < 32) : a0d Pr b8D [natV a, .int .i64 n] (natV (limbs (val a / 2 ^ n))) := by
  have hlb := ha.limbs.len
  have hlim := a0c (val a)
  have hval := a0b (val a)
  have hLB : LB = 4294967296 := rfl
  refine a0d.introL d8J d8I (Nat.le_of_ble_eq_true rfl) (a0X _) fun H hH => ?_
  refine Safe.rg rfl ?_
  simp only [c7K, E3, seval]
  refine Safe.rg rfl ?_
  simp only [c7J, E3, seval]
  first | refine (a0w a ha.lim ha.len).acall ?_ | refine (a0w a ha.lim ha.len).dcall ?_
  try simp only [E3, seval]
  generalize limbs (val a) = l at *
  generalize val a = A at *
  subst hval
  have hq : binV .quo (.int .i64 (n : Int)) (.int .i64 32) = some (.int .i64 0) := by
    have := e3v (x := n) (y := 32) (by decide) (by omega)
    rw [Nat.div_eq_of_lt hn] at this; exact this
  have hr : binV .rem (.int .i64 (n : Int)) (.int .i64 32) = some (.int .i64 (n : Int)) := by
    have := e3u (x := n) (y := 32) (by decide)
    rw [Nat.mod_eq_of_lt hn] at this; exact this
  refine Safe.rg rfl ?_
  simp only [c7I, hq, hr, a2k (x := n) (by omega), E3, seval]
  by_cases h0 : l.length = 0
  · have hc : ((l.length : Int) ≤ 0) = True := eq_true (by omega)
    refine Safe.rg rfl ?_
    simp only [b8X, hc, E3, seval]
    refine Safe.cd rfl ?_
    simp only [E3, seval]
    refine Safe.rg rfl ?_
    simp only [c7H, E3, seval]
    have : l = [] := List.length_eq_zero_iff.1 h0
    subst this
    refine Safe.rt rfl ?_
    simp only [E3, seval]
    refine ⟨?_, [], rfl⟩
    have : limbs (val [] / 2 ^ n) = [] := by simp [val, a0I]
    rw [this]
    exact Le.nil 1 (by decide)
  · have hc : ((l.length : Int) ≤ 0) = False := eq_false (by omega)
    refine Safe.rg rfl ?_
    simp only [b8X, hc, E3, seval]
    refine Safe.cd rfl ?_
    simp only [E3, seval]
    have w1 : IntKind.wrap .i64 ((l.length : Int) - 0) = (l.length : Int) := by rw [Int.sub_zero]; exact d1z (by omega)
    refine Safe.rg rfl ?_
    simp only [c7G, w1, b9i (H := H) (L := []) (n := l.length) (by omega), E3, seval]
    refine Safe.rg rfl ?_
    simp only [c7F, e6G, E3, seval]
    refine Safe.lp rfl ?_
    refine Safe.keep [0, 5, 6, 7, 27, 28] ?_
    simp only [E3, seval]
    refine Safe.loopN l.length (fun i => [(0, natV l), (5, .int .i64 0), (6, .int .u64 (n : Int)), (7, .mu (lid H 0) 0 l.length (some l.length)), (27, .int .i64 l.length), (28, .int .i64 i)])
      (fun i => hap H [some ⟨1, u32s (fl l.length fun j => if j < i then dig (val l / 2 ^ n) j else 0)⟩]) rfl ?_ (fun i hi ih => ?_) ?_
    · congr 5
    · have hlt : ((i : Int) < (l.length : Int)) = True := eq_true (by omega)
      refine Safe.inLoop ?_
      refine Safe.rg rfl ?_
      simp only [b8W, hlt, E3, seval]
      refine Safe.cd rfl ?_
      simp only [E3, seval]
      have hai := a0O hlim i
      have hai1 := a0O hlim (i + 1)
      have w3 : IntKind.wrap .i64 ((i : Int) + 0) = (i : Int) := by rw [Int.add_zero]; exact d1z (by omega)
      have w4 : IntKind.wrap .i64 ((i : Int) + 1) = ((i + 1 : Nat) : Int) := by rw [a0a] <;> omega
      refine Safe.rg rfl ?_
      simp only [c7E, E3, seval]
      refine Safe.rg rfl ?_
      simp only [c7D, a0C _ l _ i hi, a2k (x := l.getD i 0) (by omega), w3, E3, seval]
      have rest : ∀ env : Env, look env 0 = natV l → look env 5 = .int .i64 0 → look env 6 = .int .u64 (n : Int) → look env 7 = .mu (lid H 0) 0 l.length (some l.length) → look env 27 = .int .i64 l.length → look env 28 = .int .i64 i → look env 8 = .int .i64 i →
          look env 9 = .int .u64 (l.getD (i + 1) 0 * LB + l.getD i 0 : Nat) → Safe ⟨Pr, fun _ _ => false, b8D, 66, [.tmp 4], H.length⟩ [.code (.region b4r false), .inBlock 1, .code (.region b4q false), .inLoop c7L, .inBlock 0, .code ((ACode.region b4p false).seq .ret)]
            env (hap H [some ⟨1, u32s (fl l.length fun j => if j < i then dig (val l / 2 ^ n) j else 0)⟩]) fun r' H' => Le r' (natV (limbs (val l / 2 ^ n))) ∧ ∃ L, H' = hap H L := by
        intro env e0 e5 e6 e7 e27 e28 e8 e9
        have w5 := a1Y ((l.getD (i + 1) 0 * LB + l.getD i 0) / 2 ^ n)
        rw [d6K hlim i hn] at w5
        refine Safe.rg rfl ?_
        simp only [b4r, e7, e8, e9, e6, e6k (show n ≤ 64 by omega), w5, d9x hi, fst0 hi, E3, seval]
        refine Safe.inBlock ?_
        refine Safe.rg rfl ?_
        simp only [b4q, e28, w4, E3, seval]
        refine Safe.keep [0, 5, 6, 7, 27, 28] ?_
        simp only [E3, seval]
        simp only [e0, e5, e6, e7, e27]
        rw [show (fl l.length fun j => if j = i then dig (val l / 2 ^ n) i else if j < i then dig (val l / 2 ^ n) j else 0) = fl l.length fun j => if j < i + 1 then dig (val l / 2 ^ n) j else 0 from a2U fun j _ => by
          by_cases h : j = i
          · subst h; rw [if_pos rfl, if_pos (by omega)]
          · rw [if_neg h]
            by_cases h2 : j < i
            · rw [if_pos h2, if_pos (by omega)]
            · rw [if_neg h2, if_neg (by omega)]]
        exact ih
      by_cases h1 : i + 1 < l.length
      · have hlt1 : (((i + 1 : Nat) : Int) < (l.length : Int)) = True := eq_true (by omega)
        refine Safe.rg rfl ?_
        simp only [b4s, w3, w4, hlt1, E3, seval]
        refine Safe.cd rfl ?_
        simp only [E3, seval]
        refine Safe.rg rfl ?_
        simp only [c4M, w3, w4, a0C _ l _ (i + 1) h1, a2k (x := l.getD (i + 1) 0) (by omega), e6m hai1, d7Z hai1 hai, E3, seval]
        exact rest _ (by simp only [E3, seval]) (by simp only [E3, seval]) (by simp only [E3, seval]) (by simp only [E3, seval]) (by simp only [E3, seval]) (by simp only [E3, seval]) (by simp only [E3, seval]) (by simp only [E3, seval])
      · have hlt1 : (((i + 1 : Nat) : Int) < (l.length : Int)) = False := eq_false (by omega)
        refine Safe.rg rfl ?_
        simp only [b4s, w3, w4, hlt1, E3, seval]
        refine Safe.cd rfl ?_
        simp only [E3, seval]
        have hz : l.getD (i + 1) 0 * LB + l.getD i 0 = l.getD i 0 := by rw [a6D (a := l) (i := i + 1) (by omega)]; omega
        refine Safe.skip (rest _ (by simp only [E3, seval]) (by simp only [E3, seval]) (by simp only [E3, seval]) (by simp only [E3, seval]) (by simp only [E3, seval]) (by simp only [E3, seval]) (by simp only [E3, seval]) (by rw [hz]; simp only [E3, seval]))
    · refine Safe.inLoop ?_
      refine Safe.rg rfl ?_
      simp only [b8W, Int.lt_irrefl, E3, seval]
      refine Safe.cd rfl ?_
      simp only [E3, seval]
      refine Safe.freeze 0 hH rfl rfl (a0r _) ?_
      refine Safe.keep [7] ?_
      simp only [d3R, E3, seval]
      rw [show (fl l.length fun j => if j < l.length then dig (val l / 2 ^ n) j else 0) = fl l.length (dig (val l / 2 ^ n)) from a2U fun j hj => if_pos hj]
      refine Safe.rg rfl ?_
      simp only [b4p, E3, seval]
      first | refine (a0w _ (a2P _ _) (by rw [a1g]; omega)).acall ?_ | refine (a0w _ (a2P _ _) (by rw [a1g]; omega)).dcall ?_
      try simp only [E3, seval]
      simp only [a1U (b1U (a1e hlim) (d := 2 ^ n)), E3, seval]
      refine Safe.rt rfl ?_
      simp only [E3, seval]
      exact ⟨Le.refl _, _, rfl⟩
def xr (g : Nat → Nat) (off : Nat) (x : List Nat) : Nat → Nat := fun j => if off ≤ j ∧ j < off + x.length then x.getD (j - off) 0 else g j
section
variable {g : Nat → Nat} {off N : Nat} {x y : List Nat}
theorem e5y : xr g off [] = g := by funext j; unfold xr; rw [if_neg (by simp)]
theorem d9P (d : Nat) : (fun j => if j = off + x.length then d else xr g off x j) = xr g off (x ++ [d]) := by
  funext j; unfold xr
  rw [List.length_append, List.length_singleton]
  by_cases h : j = off + x.length
  · subst h; rw [if_pos rfl, if_pos (by omega), Nat.add_sub_cancel_left]; simp
  · rw [if_neg h]
    by_cases h2 : off ≤ j ∧ j < off + x.length
    · rw [if_pos h2, if_pos (by omega)]
      simp only [List.getD_eq_getElem?_getD]
      rw [List.getElem?_append_left (by omega)]
    · rw [if_neg h2, if_neg (by omega)]
theorem e8m : xr g off x (off + x.length) = g (off + x.length) := by unfold xr; rw [if_neg (by omega)]
theorem e9L (hg : ∀ i, i < N → g i < LB) (hx : Lim x) : ∀ i, i < N → xr g off x i < LB := by
  intro i hi; unfold xr; split
  · exact a0O hx _
  · exact hg i hi
theorem e8l : fl x.length (fun i => xr g off x (off + i)) = x := by
  refine Eq.trans ?_ (e7k (l := x) rfl).symm
  refine a2U fun i hi => ?_
  unfold xr; rw [if_pos (by omega), Nat.add_sub_cancel_left]
theorem e9K (h : x.length = y.length) : xr (xr g off x) off y = xr g off y := by
  funext j; unfold xr; rw [h]
  split
  · rfl
  · rfl
end
section
variable {H L : Heap} {id N : Nat} {f : Nat → Nat} (hid : id < H.length)
include hid
theorem ofat {j : Nat} (h : j < N) : atV (hap (H.set id (some ⟨1, u32s (fl N f)⟩)) L) (.loc id j 0) = some [.int .u32 (f j : Nat)] := by
  rw [e8S hid _ j (by rw [a0x, a1g]; exact h)]
  simp only [b0o (l := fl N f) (i := j) (by rw [a1g]; exact h), b7P h, AV.cells]
theorem ofst {env : Env} {j : Nat} (h : j < N) (d : Nat) : a1L 1 (.loc id j 0) (.int .u32 (d : Int)) env (hap (H.set id (some ⟨1, u32s (fl N f)⟩)) L) = some (.top, env, hap (H.set id (some ⟨1, u32s (fl N fun i => if i = j then d else f i)⟩)) L) := by
  rw [e8R hid env _ 1 j _ (by rw [a0x, a1g]; exact h) rfl rfl (Nat.le_refl 1)]
  simp only [a2o, c3q, e1U]
end
noncomputable abbrev digX (n0 : Nat) : Cx := ⟨Pr, fun _ _ => false, a9C, 117, [.tmp 4], n0⟩
theorem e2e {H : Heap} {id off N n : Nat} {oc : Option Nat} {v : List Nat} {g : Nat → Nat} {todo : List AItem} {R : AV → Heap → Prop} {q b : Nat} (hid : id < H.length) (hv : Lim v) (hn : v.length = n) (hoff : off + n + 1 ≤ N) (hN : N ≤ 17592186044416) (hg : ∀ i, i < N → g i < LB)
    (k : ∀ y c, y.length = n + 1 → Lim y → c ≤ 1 → val y + LB ^ (n + 1) * c = val (fl (n + 1) fun i => g (off + i)) + val v →
      Safe (digX H.length) todo [(0, .mu id off (n + 1) oc), (1, natV v), (5, .int .i64 n), (7, .int .u64 q), (9, .int .u64 b), (13, .int .u64 c)] (hap (H.set id (some ⟨1, u32s (fl N (xr g off y))⟩)) []) R) :
    Safe (digX H.length) (.inLoop a6m :: .inBlock 4 :: todo) [(0, .mu id off (n + 1) oc), (1, natV v), (5, .int .i64 n), (7, .int .u64 q), (9, .int .u64 b), (13, .int .u64 0), (83, .int .i64 ((n + 1 : Nat) : Int)), (84, .int .i64 0)] (hap (H.set id (some ⟨1, u32s (fl N g)⟩)) []) R := by
  have hLB : LB = 4294967296 := rfl
  have key : ∀ (m i c : Nat) (y : List Nat), i + m = n + 1 → y.length = i → Lim y → c ≤ 1 → val y + LB ^ i * c = val ((fl (n + 1) fun i => g (off + i)).take i) + val (v.take i) →
      Safe (digX H.length) (.inLoop a6m :: .inBlock 4 :: todo) [(0, .mu id off (n + 1) oc), (1, natV v), (5, .int .i64 n), (7, .int .u64 q), (9, .int .u64 b), (13, .int .u64 c), (83, .int .i64 ((n + 1 : Nat) : Int)), (84, .int .i64 i)] (hap (H.set id (some ⟨1, u32s (fl N (xr g off y))⟩)) []) R := by
    intro m
    induction m with
    | zero =>
      intro i c y him hy ly hc hval
      have hi : i = n + 1 := by omega
      subst hi
      refine Safe.inLoop ?_
      refine Safe.rg rfl ?_
      simp only [a8Q, Int.lt_irrefl, E3, seval]
      refine Safe.cd rfl ?_
      simp only [E3, seval]
      refine Safe.exit rfl ?_
      refine Safe.keep [0, 1, 5, 7, 9, 13] ?_
      simp only [E3, seval]
      refine k y c hy ly hc ?_
      rw [hval, List.take_of_length_le (l := fl _ _) (by rw [a1g]; omega), List.take_of_length_le (l := v) (by omega)]
    | succ m ih =>
      intro i c y him hy ly hc hval
      have hlt : ((i : Int) < ((n + 1 : Nat) : Int)) = True := eq_true (by omega)
      refine Safe.inLoop ?_
      refine Safe.rg rfl ?_
      simp only [a8Q, hlt, E3, seval]
      refine Safe.cd rfl ?_
      simp only [E3, seval]
      have hgi : g (off + i) < LB := hg _ (by omega)
      have hxi : xr g off y (off + i) = g (off + i) := by subst hy; exact e8m
      have hvi := a0O hv i
      refine Safe.rg rfl ?_
      simp only [b7j, E3, seval]
      refine Safe.rg rfl ?_
      simp only [b7i, b8U hid 1 _ off (n + 1) i oc .i64 (show i < n + 1 by omega), ofat hid (show off + i < N by omega), hxi, a2k (x := g (off + i)) (by omega), a5p (x := c) (y := g (off + i)) (by omega), E3, seval]
      have rest : ∀ env : Env, look env 0 = .mu id off (n + 1) oc → look env 1 = natV v → look env 5 = .int .i64 n → look env 7 = .int .u64 q → look env 9 = .int .u64 b → look env 83 = .int .i64 ((n + 1 : Nat) : Int) → look env 84 = .int .i64 i → look env 14 = .int .i64 i → look env 13 = .int .u64 (c + g (off + i) + v.getD i 0 : Nat) →
          Safe (digX H.length) (.code (.seq (.region a8O false) (.region a8N false)) :: .inBlock 5 :: .code (.region a8M false) :: .inLoop a6m :: .inBlock 4 :: todo) env (hap (H.set id (some ⟨1, u32s (fl N (xr g off y))⟩)) []) R := by
        intro env e0 e1 e5 e7 e9 e83 e84 e14 e13
        have w5 := a1Y (c + g (off + i) + v.getD i 0)
        refine Safe.rg rfl ?_
        simp only [a8O, e0, e14, e13, w5, b8U hid 1 _ off (n + 1) i oc .i64 (show i < n + 1 by omega), ofst hid (show off + i < N by omega), E3, seval]
        refine Safe.rg rfl ?_
        simp only [a8N, e13, e0j, E3, seval]
        refine Safe.inBlock ?_
        have w4 : IntKind.wrap .i64 ((i : Int) + 1) = ((i + 1 : Nat) : Int) := by rw [a0a] <;> omega
        refine Safe.rg rfl ?_
        simp only [a8M, e84, w4, E3, seval]
        refine Safe.keep [0, 1, 5, 7, 9, 13, 83, 84] ?_
        simp only [E3, seval]
        simp only [e0, e1, e5, e7, e9, e83]
        rw [← hy, d9P, hy]
        refine ih (i + 1) _ _ (by omega) (by simp [hy]) (a1A ly (Nat.mod_lt _ (by decide))) ?_ ?_
        · have : c + g (off + i) + v.getD i 0 < LB * 2 := by omega
          have := Nat.div_lt_of_lt_mul this
          omega
        · rw [a2F, hy, a0i, a0i, Nat.pow_succ, b7P (by omega)]
          exact c9q (i := 0) hval
      by_cases hin : i < n
      · have hl2 : ((i : Int) < (n : Int)) = True := eq_true (by omega)
        refine Safe.rg rfl ?_
        simp only [a8P, hl2, E3, seval]
        refine Safe.cd rfl ?_
        simp only [E3, seval]
        refine Safe.rg rfl ?_
        simp only [b7h, a0C _ v _ i (by omega), a2k (x := v.getD i 0) (by omega), a5p (x := c + g (off + i)) (y := v.getD i 0) (by omega), E3, seval]
        exact rest _ (by simp only [E3, seval]) (by simp only [E3, seval]) (by simp only [E3, seval]) (by simp only [E3, seval]) (by simp only [E3, seval]) (by simp only [E3, seval]) (by simp only [E3, seval]) (by simp only [E3, seval]) (by simp only [E3, seval])
      · have hl2 : ((i : Int) < (n : Int)) = False := eq_false (by omega)
        refine Safe.rg rfl ?_
        simp only [a8P, hl2, E3, seval]
        refine Safe.cd rfl ?_
        simp only [E3, seval]
        have hz : c + g (off + i) + v.getD i 0 = c + g (off + i) := by rw [a6D (a := v) (by omega), Nat.add_zero]
        exact Safe.skip (rest _ (by simp only [E3, seval]) (by simp only [E3, seval]) (by simp only [E3, seval]) (by simp only [E3, seval]) (by simp only [E3, seval]) (by simp only [E3, seval]) (by simp only [E3, seval]) (by simp only [E3, seval]) (by rw [hz]; simp only [E3, seval]))
  have := key (n + 1) 0 0 [] (by omega) rfl b9m (by omega) (by simp [val])
  rw [e5y] at this
  exact this
theorem e3j {vx qv vu B b c q vi lo d bo c' u : Nat} (h : vx + qv = vu + B * (b + c)) (hd : u + LB * bo = d + lo + b) (hl : lo + LB * c' = c + q * vi) : (vx + B * d) + (qv + B * (q * vi)) = (vu + B * u) + (B * LB) * (bo + c') := by
  have e1 : B * (u + LB * bo) = B * (d + lo + b) := by rw [hd]
  have e2 : B * (lo + LB * c') = B * (c + q * vi) := by rw [hl]
  simp only [Nat.mul_add, ← Nat.mul_assoc] at *
  omega
theorem e2d {H : Heap} {id off N n : Nat} {oc : Option Nat} {v : List Nat} {g : Nat → Nat} {todo : List AItem} {R : AV → Heap → Prop} {q : Nat} (hid : id < H.length) (hv : Lim v) (hn : v.length = n) (hoff : off + n + 1 ≤ N) (hN : N ≤ 17592186044416) (hg : ∀ i, i < N → g i < LB) (hq : q < LB)
    (k : ∀ y b, y.length = n + 1 → Lim y → b ≤ 1 → val y + q * val v = val (fl (n + 1) fun i => g (off + i)) + LB ^ (n + 1) * b →
      Safe (digX H.length) todo [(0, .mu id off (n + 1) oc), (1, natV v), (5, .int .i64 n), (7, .int .u64 q), (9, .int .u64 b)] (hap (H.set id (some ⟨1, u32s (fl N (xr g off y))⟩)) []) R) :
    Safe (digX H.length) (.inLoop a6n :: .inBlock 0 :: todo) [(0, .mu id off (n + 1) oc), (1, natV v), (5, .int .i64 n), (7, .int .u64 q), (8, .int .u64 0), (9, .int .u64 0), (40, .int .i64 ((n + 1 : Nat) : Int)), (41, .int .i64 0)] (hap (H.set id (some ⟨1, u32s (fl N g)⟩)) []) R := by
  have hLB : LB = 4294967296 := rfl
  have key : ∀ (m i b c : Nat) (y : List Nat), i + m = n + 1 → y.length = i → Lim y → b ≤ 1 → c < LB → val y + q * val (v.take i) = val ((fl (n + 1) fun i => g (off + i)).take i) + LB ^ i * (b + c) → LB ^ i * c ≤ q * val (v.take i) →
      Safe (digX H.length) (.inLoop a6n :: .inBlock 0 :: todo) [(0, .mu id off (n + 1) oc), (1, natV v), (5, .int .i64 n), (7, .int .u64 q), (8, .int .u64 c), (9, .int .u64 b), (40, .int .i64 ((n + 1 : Nat) : Int)), (41, .int .i64 i)] (hap (H.set id (some ⟨1, u32s (fl N (xr g off y))⟩)) []) R := by
    intro m
    induction m with
    | zero =>
      intro i b c y him hy ly hb hc hval hcl
      have hi : i = n + 1 := by omega
      subst hi
      refine Safe.inLoop ?_
      refine Safe.rg rfl ?_
      simp only [b0T, Int.lt_irrefl, E3, Nat.reduceLeDiff, Nat.reduceSub, Nat.reduceAdd, Nat.reduceEqDiff, reduceCtorEq, ↓reduceIte]
      refine Safe.cd rfl ?_
      simp only [E3, Nat.reduceLeDiff, Nat.reduceSub, Nat.reduceAdd, Nat.reduceEqDiff, reduceCtorEq, ↓reduceIte]
      refine Safe.exit rfl ?_
      refine Safe.keep [0, 1, 5, 7, 9] ?_
      simp only [E3, Nat.reduceLeDiff, Nat.reduceSub, Nat.reduceAdd, Nat.reduceEqDiff, reduceCtorEq, ↓reduceIte]
      refine k y b hy ly hb ?_
      rw [List.take_of_length_le (l := v) (by omega)] at hval hcl
      rw [List.take_of_length_le (l := fl _ _) (by rw [a1g]; omega)] at hval
      have hc0 : c = 0 := by
        have h1 := a1e hv
        rw [hn] at h1
        have h2 : q * val v < LB * LB ^ n := Nat.mul_lt_mul'' hq h1
        rw [← Nat.pow_succ'] at h2
        have h3 : LB ^ (n + 1) * c < LB ^ (n + 1) * 1 := by rw [Nat.mul_one]; exact Nat.lt_of_le_of_lt hcl h2
        have := Nat.lt_of_mul_lt_mul_left h3
        omega
      rw [hval, hc0, show b + 0 = b from rfl]
    | succ m ih =>
      intro i b c y him hy ly hb hc hval hcl
      have hlt : ((i : Int) < ((n + 1 : Nat) : Int)) = True := eq_true (by omega)
      refine Safe.inLoop ?_
      refine Safe.rg rfl ?_
      simp only [b0T, hlt, E3, Nat.reduceLeDiff, Nat.reduceSub, Nat.reduceAdd, Nat.reduceEqDiff, reduceCtorEq, ↓reduceIte]
      refine Safe.cd rfl ?_
      simp only [E3, Nat.reduceLeDiff, Nat.reduceSub, Nat.reduceAdd, Nat.reduceEqDiff, reduceCtorEq, ↓reduceIte]
      have hgi : g (off + i) < LB := hg _ (by omega)
      have hxi : xr g off y (off + i) = g (off + i) := by subst hy; exact e8m
      have hvi := a0O hv i
      have hqv : c + q * v.getD i 0 < LB * LB := by
        have h1 : q * v.getD i 0 ≤ (LB - 1) * (LB - 1) := Nat.mul_le_mul (by omega) (by omega)
        have h2 : (LB - 1) * (LB - 1) + (LB - 1) < LB * LB := by decide
        omega
      have hqv2 : LB * LB = 18446744073709551616 := by decide
      refine Safe.rg rfl ?_
      simp only [c2d, E3, Nat.reduceLeDiff, Nat.reduceSub, Nat.reduceAdd, Nat.reduceEqDiff, reduceCtorEq, ↓reduceIte]
      refine Safe.rg rfl ?_
      simp only [c2c, E3, Nat.reduceLeDiff, Nat.reduceSub, Nat.reduceAdd, Nat.reduceEqDiff, reduceCtorEq, ↓reduceIte]
      have rest : ∀ env : Env, look env 0 = .mu id off (n + 1) oc → look env 1 = natV v → look env 5 = .int .i64 n → look env 7 = .int .u64 q → look env 9 = .int .u64 b → look env 40 = .int .i64 ((n + 1 : Nat) : Int) → look env 41 = .int .i64 i → look env 10 = .int .i64 i → look env 11 = .int .u64 (c + q * v.getD i 0 : Nat) →
          Safe (digX H.length) (.code (.seq (.region a8V false) (.seq (.region a8U false) (.seq (.region a8T false) (.region a8S false)))) :: .inBlock 1 :: .code (.region a8R false) :: .inLoop a6n :: .inBlock 0 :: todo) env (hap (H.set id (some ⟨1, u32s (fl N (xr g off y))⟩)) []) R := by
        intro env e0 e1 e5 e7 e9 e40 e41 e10 e11
        have w5 := a1Y (c + q * v.getD i 0)
        have htl : (c + q * v.getD i 0) % LB < LB := Nat.mod_lt _ (by decide)
        have htm := Nat.mod_add_div (c + q * v.getD i 0) LB
        have htd : (c + q * v.getD i 0) / LB < LB := by rw [Nat.div_lt_iff_lt_mul (by decide)]; exact hqv
        have h4w : IntKind.wrap .u64 (IntKind.wrap .u64 (((g (off + i) : Nat) : Int) - (((c + q * v.getD i 0) % LB : Nat) : Int)) - (b : Int)) = (((g (off + i) : Nat) : Int) - (((c + q * v.getD i 0) % LB : Nat) : Int) - (b : Int)) % 18446744073709551616 := by
          rw [a1l, a1l]; omega
        refine Safe.rg rfl ?_
        simp only [a8V, e11, e0j, E3, Nat.reduceLeDiff, Nat.reduceSub, Nat.reduceAdd, Nat.reduceEqDiff, reduceCtorEq, ↓reduceIte]
        refine Safe.rg rfl ?_
        simp only [a8U, e0, e10, e11, e9, b8U hid 1 _ off (n + 1) i oc .i64 (show i < n + 1 by omega), ofat hid (show off + i < N by omega), hxi, a2k (x := g (off + i)) (by omega), w5, a2k (x := (c + q * v.getD i 0) % LB) (by omega), h4w, E3, Nat.reduceLeDiff, Nat.reduceSub, Nat.reduceAdd, Nat.reduceEqDiff, reduceCtorEq, ↓reduceIte]
        obtain ⟨d, bo, hd, hbo, hdl, hD, hB⟩ : ∃ d bo : Nat, g (off + i) + LB * bo = d + (c + q * v.getD i 0) % LB + b ∧ bo ≤ 1 ∧ d < LB ∧ ((((g (off + i) : Nat) : Int) - (((c + q * v.getD i 0) % LB : Nat) : Int) - (b : Int)) % 18446744073709551616) % 4294967296 = (d : Int) ∧ ((((g (off + i) : Nat) : Int) - (((c + q * v.getD i 0) % LB : Nat) : Int) - (b : Int)) % 18446744073709551616) / 9223372036854775808 = (bo : Int) := by
          generalize (c + q * v.getD i 0) % LB = lo at *
          by_cases hlt : g (off + i) < lo + b
          · exact ⟨g (off + i) + LB - lo - b, 1, by omega, by omega, by omega, by omega, by omega⟩
          · exact ⟨g (off + i) - lo - b, 0, by omega, by omega, by omega, by omega, by omega⟩
        refine Safe.rg rfl ?_
        simp only [a8T, e0, e10, b5g, hD, b8U hid 1 _ off (n + 1) i oc .i64 (show i < n + 1 by omega), ofst hid (show off + i < N by omega), E3, Nat.reduceLeDiff, Nat.reduceSub, Nat.reduceAdd, Nat.reduceEqDiff, reduceCtorEq, ↓reduceIte]
        have hs63 : ∀ n : Int, Int.fdiv n (2 ^ min (Int.toNat 63) IntKind.u64.bits) = n / 9223372036854775808 := by
          intro n
          rw [show (2 : Int) ^ min (Int.toNat 63) IntKind.u64.bits = 9223372036854775808 by decide, Int.fdiv_eq_ediv_of_nonneg _ (by decide)]
        refine Safe.rg rfl ?_
        simp only [a8S, a3o _ _ _ (show (0 : Int) ≤ 63 by decide), hs63, hB, E3, Nat.reduceLeDiff, Nat.reduceSub, Nat.reduceAdd, Nat.reduceEqDiff, reduceCtorEq, ↓reduceIte]
        refine Safe.inBlock ?_
        have w4 : IntKind.wrap .i64 ((i : Int) + 1) = ((i + 1 : Nat) : Int) := by rw [a0a] <;> omega
        refine Safe.rg rfl ?_
        simp only [a8R, e41, w4, E3, Nat.reduceLeDiff, Nat.reduceSub, Nat.reduceAdd, Nat.reduceEqDiff, reduceCtorEq, ↓reduceIte]
        refine Safe.keep [0, 1, 5, 7, 8, 9, 40, 41] ?_
        simp only [E3, Nat.reduceLeDiff, Nat.reduceSub, Nat.reduceAdd, Nat.reduceEqDiff, reduceCtorEq, ↓reduceIte]
        simp only [e0, e1, e5, e7, e40]
        rw [← hy, d9P, hy]
        refine ih (i + 1) bo _ _ (by omega) (by simp [hy]) (a1A ly hdl) hbo htd ?_ ?_
        · rw [a2F, hy, a0i, a0i, Nat.pow_succ, b7P (by omega), Nat.mul_add, Nat.mul_left_comm]
          exact e3j hval hd htm
        · rw [a0i, Nat.mul_add, Nat.mul_left_comm q, Nat.pow_succ, Nat.mul_assoc]
          have h1 : LB ^ i * (LB * ((c + q * v.getD i 0) / LB)) ≤ LB ^ i * (c + q * v.getD i 0) := Nat.mul_le_mul_left _ (Nat.mul_div_le _ _)
          rw [Nat.mul_add] at h1
          omega
      by_cases hin : i < n
      · have hl2 : ((i : Int) < (n : Int)) = True := eq_true (by omega)
        refine Safe.rg rfl ?_
        simp only [b0S, hl2, E3, Nat.reduceLeDiff, Nat.reduceSub, Nat.reduceAdd, Nat.reduceEqDiff, reduceCtorEq, ↓reduceIte]
        refine Safe.cd rfl ?_
        simp only [E3, Nat.reduceLeDiff, Nat.reduceSub, Nat.reduceAdd, Nat.reduceEqDiff, reduceCtorEq, ↓reduceIte]
        refine Safe.rg rfl ?_
        simp only [b7n, a0C _ v _ i (by omega), a2k (x := v.getD i 0) (by omega), b8H (x := q) (y := v.getD i 0) (by omega), a5p (x := c) (y := q * v.getD i 0) (by omega), E3, Nat.reduceLeDiff, Nat.reduceSub, Nat.reduceAdd, Nat.reduceEqDiff, reduceCtorEq, ↓reduceIte]
        exact rest _ (by simp only [E3, Nat.reduceLeDiff, Nat.reduceSub, Nat.reduceAdd, Nat.reduceEqDiff, reduceCtorEq, ↓reduceIte]) (by simp only [E3, Nat.reduceLeDiff, Nat.reduceSub, Nat.reduceAdd, Nat.reduceEqDiff, reduceCtorEq, ↓reduceIte]) (by simp only [E3, Nat.reduceLeDiff, Nat.reduceSub, Nat.reduceAdd, Nat.reduceEqDiff, reduceCtorEq, ↓reduceIte]) (by simp only [E3, Nat.reduceLeDiff, Nat.reduceSub, Nat.reduceAdd, Nat.reduceEqDiff, reduceCtorEq, ↓reduceIte]) (by simp only [E3, Nat.reduceLeDiff, Nat.reduceSub, Nat.reduceAdd, Nat.reduceEqDiff, reduceCtorEq, ↓reduceIte]) (by simp only [E3, Nat.reduceLeDiff, Nat.reduceSub, Nat.reduceAdd, Nat.reduceEqDiff, reduceCtorEq, ↓reduceIte]) (by simp only [E3, Nat.reduceLeDiff, Nat.reduceSub, Nat.reduceAdd, Nat.reduceEqDiff, reduceCtorEq, ↓reduceIte]) (by simp only [E3, Nat.reduceLeDiff, Nat.reduceSub, Nat.reduceAdd, Nat.reduceEqDiff, reduceCtorEq, ↓reduceIte]) (by simp only [E3, Nat.reduceLeDiff, Nat.reduceSub, Nat.reduceAdd, Nat.reduceEqDiff, reduceCtorEq, ↓reduceIte])
      · have hl2 : ((i : Int) < (n : Int)) = False := eq_false (by omega)
        refine Safe.rg rfl ?_
        simp only [b0S, hl2, E3, Nat.reduceLeDiff, Nat.reduceSub, Nat.reduceAdd, Nat.reduceEqDiff, reduceCtorEq, ↓reduceIte]
        refine Safe.cd rfl ?_
        simp only [E3, Nat.reduceLeDiff, Nat.reduceSub, Nat.reduceAdd, Nat.reduceEqDiff, reduceCtorEq, ↓reduceIte]
        have hz : c + q * v.getD i 0 = c := by rw [a6D (a := v) (by omega)]; omega
        exact Safe.skip (rest _ (by simp only [E3, Nat.reduceLeDiff, Nat.reduceSub, Nat.reduceAdd, Nat.reduceEqDiff, reduceCtorEq, ↓reduceIte]) (by simp only [E3, Nat.reduceLeDiff, Nat.reduceSub, Nat.reduceAdd, Nat.reduceEqDiff, reduceCtorEq, ↓reduceIte]) (by simp only [E3, Nat.reduceLeDiff, Nat.reduceSub, Nat.reduceAdd, Nat.reduceEqDiff, reduceCtorEq, ↓reduceIte]) (by simp only [E3, Nat.reduceLeDiff, Nat.reduceSub, Nat.reduceAdd, Nat.reduceEqDiff, reduceCtorEq, ↓reduceIte]) (by simp only [E3, Nat.reduceLeDiff, Nat.reduceSub, Nat.reduceAdd, Nat.reduceEqDiff, reduceCtorEq, ↓reduceIte]) (by simp only [E3, Nat.reduceLeDiff, Nat.reduceSub, Nat.reduceAdd, Nat.reduceEqDiff, reduceCtorEq, ↓reduceIte]) (by simp only [E3, Nat.reduceLeDiff, Nat.reduceSub, Nat.reduceAdd, Nat.reduceEqDiff, reduceCtorEq, ↓reduceIte]) (by simp only [E3, Nat.reduceLeDiff, Nat.reduceSub, Nat.reduceAdd, Nat.reduceEqDiff, reduceCtorEq, ↓reduceIte]) (by rw [hz]; simp only [E3, Nat.reduceLeDiff, Nat.reduceSub, Nat.reduceAdd, Nat.reduceEqDiff, reduceCtorEq, ↓reduceIte]))
  have := key (n + 1) 0 0 0 [] (by omega) rfl b9m (by omega) (by decide) (by simp [val]) (by simp)
  rw [e5y] at this
  exact this
theorem d6m {H : Heap} {id off N n : Nat} {oc : Option Nat} {v : List Nat} {f : Nat → Nat} (hl : H[id]? = some (some ⟨1, u32s (fl N f)⟩)) (hv : Lim v) (hn : v.length = n) (hn0 : 0 < n) (ht : 0 < v.getD (n - 1) 0) (hoff : off + n + 1 ≤ N) (hN : N ≤ 17592186044416) (hf : ∀ i, i < N → f i < LB)
    {S : Nat} (hS : val (fl (n + 1) fun i => f (off + i)) = S) (hlt : S < LB * val v) : a0k Pr a9C [.mu id off (n + 1) oc, natV v] H fun r' H' => r' = .int .u32 (S / val v : Nat) ∧ H' = H.set id (some ⟨1, u32s (fl N (xr f off (fl (n + 1) (dig (S % val v)))))⟩) := by
  have hLB : LB = 4294967296 := rfl
  have hid := a0h hl
  have hv0 : 0 < val v := by
    have := a3m v (n - 1)
    have h2 : val (v.drop (n - 1)) ≠ 0 := by
      rw [a2G]; rw [show n - 1 + 1 = n by omega]; omega
    have h3 : 0 < LB ^ (n - 1) * val (v.drop (n - 1)) := Nat.mul_pos (a5e _) (by omega)
    omega
  have hUl : (fl (n + 1) fun i => f (off + i)).length = n + 1 := a1g _ _
  have hU : Lim (fl (n + 1) fun i => f (off + i)) := e5M fun i hi => hf _ (by omega)
  have hguess := d7n hU hv hUl hn hn0 hv0 (by rw [hS]; exact hlt) ht
  rw [hS, b7P (by omega), b7P (by omega)] at hguess
  have hSl : S < LB ^ (n + 1) := by have := a1e hU; rw [hS, hUl] at this; exact this
  have hvl := a1e hv
  rw [hn] at hvl
  have hvle : val v ≤ LB ^ (n + 1) := by
    have : LB ^ n ≤ LB ^ (n + 1) := Nat.pow_le_pow_right (by decide) (by omega)
    omega
  have hvt : v.getD (n - 1) 0 < LB := a0O hv _
  have hfn : f (off + n) < LB := hf _ (by omega)
  have hfn1 : f (off + (n - 1)) < LB := hf _ (by omega)
  refine a0k.eff d3n d3m (Nat.le_of_ble_eq_true rfl) fun hH => ?_
  have h0 : hap H [] = hap (H.set id (some ⟨1, u32s (fl N f)⟩)) [] := by rw [e3o hl]
  rw [h0]
  refine Safe.rg rfl ?_
  simp only [c2j, E3, Nat.reduceLeDiff, Nat.reduceSub, Nat.reduceAdd, Nat.reduceEqDiff, reduceCtorEq, ↓reduceIte]
  refine Safe.rg rfl ?_
  simp only [c2i, a6o, E3, Nat.reduceLeDiff, Nat.reduceSub, Nat.reduceAdd, Nat.reduceEqDiff, reduceCtorEq, ↓reduceIte]
  have w1 : IntKind.wrap .i64 ((n : Int) - 1) = ((n - 1 : Nat) : Int) := by rw [a0a] <;> omega
  refine Safe.rg rfl ?_
  simp only [c2h, hn, w1, b8U hid 1 _ off (n + 1) n oc .i64 (Nat.lt_succ_self n), b8U hid 1 _ off (n + 1) (n - 1) oc .i64 (show n - 1 < n + 1 by omega), ofat hid (show off + n < N by omega), ofat hid (show off + (n - 1) < N by omega), a2k (x := f (off + n)) (by omega), a2k (x := f (off + (n - 1))) (by omega), e6m hfn, c4b hfn hfn1, E3, Nat.reduceLeDiff, Nat.reduceSub, Nat.reduceAdd, Nat.reduceEqDiff, reduceCtorEq, ↓reduceIte]
  have htop : f (off + n) * LB + f (off + (n - 1)) < 18446744073709551616 := by
    have : f (off + n) * LB ≤ 4294967295 * LB := Nat.mul_le_mul_right _ (by omega)
    omega
  have hmin : (if (4294967295 : Int) < (((f (off + n) * LB + f (off + (n - 1))) / v.getD (n - 1) 0 : Nat) : Int) then (4294967295 : Int) else (((f (off + n) * LB + f (off + (n - 1))) / v.getD (n - 1) 0 : Nat) : Int)) = ((min ((f (off + n) * LB + f (off + (n - 1))) / v.getD (n - 1) 0) (LB - 1) : Nat) : Int) := by
    generalize (f (off + n) * LB + f (off + (n - 1))) / v.getD (n - 1) 0 = z
    split
    · rw [Nat.min_eq_right (by omega)]; rfl
    · rw [Nat.min_eq_left (by omega)]
  refine Safe.rg rfl ?_
  simp only [c2g, hn, w1, a0C _ v _ (n - 1) (by omega), a2k (x := v.getD (n - 1) 0) (by omega), d0o ht htop, d6Z, hmin, E3, Nat.reduceLeDiff, Nat.reduceSub, Nat.reduceAdd, Nat.reduceEqDiff, reduceCtorEq, ↓reduceIte]
  have hq0l : min ((f (off + n) * LB + f (off + (n - 1))) / v.getD (n - 1) 0) (LB - 1) < LB := Nat.lt_of_le_of_lt (Nat.min_le_right _ _) (by decide)
  generalize hq0 : min ((f (off + n) * LB + f (off + (n - 1))) / v.getD (n - 1) 0) (LB - 1) = q0 at *
  refine Safe.rg rfl ?_
  simp only [c2f, E3, Nat.reduceLeDiff, Nat.reduceSub, Nat.reduceAdd, Nat.reduceEqDiff, reduceCtorEq, ↓reduceIte]
  have w2 : IntKind.wrap .i64 ((n : Int) + 1) = ((n + 1 : Nat) : Int) := by rw [a0a] <;> omega
  refine Safe.rg rfl ?_
  simp only [c2e, w2, hn, E3, Nat.reduceLeDiff, Nat.reduceSub, Nat.reduceAdd, Nat.reduceEqDiff, reduceCtorEq, ↓reduceIte]
  refine Safe.lp rfl ?_
  refine Safe.keep [0, 1, 5, 7, 8, 9, 40, 41] ?_
  simp only [hn, E3, Nat.reduceLeDiff, Nat.reduceSub, Nat.reduceAdd, Nat.reduceEqDiff, reduceCtorEq, ↓reduceIte]
  refine e2d hid hv hn hoff hN hf hq0l fun y b hy ly hb hval => ?_
  rw [hS] at hval
  refine Safe.lp rfl ?_
  -- the rows put back
  have key : ∀ (q b : Nat) (y : List Nat), y.length = n + 1 → Lim y → b ≤ 1 → val y + q * val v = S + LB ^ (n + 1) * b → S / val v ≤ q → q < LB →
      Safe (digX H.length) [.inLoop c2k, .inBlock 2, .code (.seq (.region a5f false) .ret)] [(0, .mu id off (n + 1) oc), (1, natV v), (5, .int .i64 n), (7, .int .u64 q), (9, .int .u64 b)] (hap (H.set id (some ⟨1, u32s (fl N (xr f off y))⟩)) [])
        fun r' H' => ∃ H1 L, H' = hap H1 L ∧ H1.length = H.length ∧ a0F H1 ∧ Ref (· < H.length) r' ∧ r' = .int .u32 (S / val v : Nat) ∧ H1 = H.set id (some ⟨1, u32s (fl N (xr f off (fl (n + 1) (dig (S % val v)))))⟩) := by
    intro q
    induction q with
    | zero =>
      intro b y hy ly hb hval hq hql
      have hyl := a1e ly
      rw [hy] at hyl
      have hb0 : b = 0 := by
        rcases Nat.eq_zero_or_pos b with h | h
        · exact h
        · have : b = 1 := by omega
          subst this; omega
      subst hb0
      refine Safe.inLoop ?_
      refine Safe.rg rfl ?_
      simp only [a5g, show ((0 : Int) < ((0 : Nat) : Int)) = False by simp, E3, Nat.reduceLeDiff, Nat.reduceSub, Nat.reduceAdd, Nat.reduceEqDiff, reduceCtorEq, ↓reduceIte]
      refine Safe.cd rfl ?_
      simp only [E3, Nat.reduceLeDiff, Nat.reduceSub, Nat.reduceAdd, Nat.reduceEqDiff, reduceCtorEq, ↓reduceIte]
      refine Safe.exit rfl ?_
      refine Safe.rg rfl ?_
      simp only [a5f, a9E (x := 0) (by decide), E3, Nat.reduceLeDiff, Nat.reduceSub, Nat.reduceAdd, Nat.reduceEqDiff, reduceCtorEq, ↓reduceIte]
      refine Safe.rt rfl ?_
      simp only [E3, Nat.reduceLeDiff, Nat.reduceSub, Nat.reduceAdd, Nat.reduceEqDiff, reduceCtorEq, ↓reduceIte]
      have e1 : S / val v = 0 := Nat.le_zero.1 hq
      have e2 : S % val v = val y := by
        have := Nat.mod_add_div S (val v)
        rw [e1] at this
        omega
      refine ⟨_, [], rfl, by simp, a0F.set hH id fun a ha => (a0r _ a ha).ref, .int _ _, by rw [e1], ?_⟩
      rw [e2, ← b9n ly hy]
    | succ q ih =>
      intro b y hy ly hb hval hq hql
      have hyl := a1e ly
      rw [hy] at hyl
      refine Safe.inLoop ?_
      by_cases hb0 : b = 0
      · subst hb0
        refine Safe.rg rfl ?_
        simp only [a5g, show ((0 : Int) < ((0 : Nat) : Int)) = False by simp, E3, Nat.reduceLeDiff, Nat.reduceSub, Nat.reduceAdd, Nat.reduceEqDiff, reduceCtorEq, ↓reduceIte]
        refine Safe.cd rfl ?_
        simp only [E3, Nat.reduceLeDiff, Nat.reduceSub, Nat.reduceAdd, Nat.reduceEqDiff, reduceCtorEq, ↓reduceIte]
        refine Safe.exit rfl ?_
        refine Safe.rg rfl ?_
        simp only [a5f, a9E (x := q + 1) (by omega), E3, Nat.reduceLeDiff, Nat.reduceSub, Nat.reduceAdd, Nat.reduceEqDiff, reduceCtorEq, ↓reduceIte]
        refine Safe.rt rfl ?_
        simp only [E3, Nat.reduceLeDiff, Nat.reduceSub, Nat.reduceAdd, Nat.reduceEqDiff, reduceCtorEq, ↓reduceIte]
        have e1 : S / val v = q + 1 := by
          have : (q + 1) ≤ S / val v := by rw [Nat.le_div_iff_mul_le hv0]; omega
          omega
        have e2 : S % val v = val y := by
          have := Nat.mod_add_div S (val v)
          rw [e1, Nat.mul_comm (val v)] at this
          omega
        refine ⟨_, [], rfl, by simp, a0F.set hH id fun a ha => (a0r _ a ha).ref, .int _ _, by rw [e1], ?_⟩
        rw [e2, ← b9n ly hy]
      · have hb1 : b = 1 := by omega
        subst hb1
        have hlq : S / val v ≤ q := by
          have h1 : S < (q + 1) * val v := by omega
          have := (Nat.div_lt_iff_lt_mul hv0).2 h1
          omega
        have w3 : IntKind.wrap .u64 (((q + 1 : Nat) : Int) - 1) = (q : Int) := by rw [a0G] <;> omega
        refine Safe.rg rfl ?_
        simp only [a5g, show ((0 : Int) < ((1 : Nat) : Int)) = True by simp, E3, Nat.reduceLeDiff, Nat.reduceSub, Nat.reduceAdd, Nat.reduceEqDiff, reduceCtorEq, ↓reduceIte]
        refine Safe.cd rfl ?_
        simp only [E3, Nat.reduceLeDiff, Nat.reduceSub, Nat.reduceAdd, Nat.reduceEqDiff, reduceCtorEq, ↓reduceIte]
        refine Safe.rg rfl ?_
        simp only [b7m, w3, E3, Nat.reduceLeDiff, Nat.reduceSub, Nat.reduceAdd, Nat.reduceEqDiff, reduceCtorEq, ↓reduceIte]
        refine Safe.rg rfl ?_
        simp only [b7l, E3, Nat.reduceLeDiff, Nat.reduceSub, Nat.reduceAdd, Nat.reduceEqDiff, reduceCtorEq, ↓reduceIte]
        refine Safe.rg rfl ?_
        simp only [b7k, w2, E3, Nat.reduceLeDiff, Nat.reduceSub, Nat.reduceAdd, Nat.reduceEqDiff, reduceCtorEq, ↓reduceIte]
        refine Safe.lp rfl ?_
        refine Safe.keep [0, 1, 5, 7, 9, 13, 83, 84] ?_
        simp only [E3, Nat.reduceLeDiff, Nat.reduceSub, Nat.reduceAdd, Nat.reduceEqDiff, reduceCtorEq, ↓reduceIte]
        refine e2e (b := 1) hid hv hn hoff hN (e9L hf ly) fun z c hz lz hc hzv => ?_
        have hseg := e8l (g := f) (off := off) (x := y)
        rw [hy] at hseg
        rw [hseg] at hzv
        rw [e9K (by rw [hy, hz])]
        have w4 : IntKind.wrap .u64 (((1 : Nat) : Int) - (c : Int)) = ((1 - c : Nat) : Int) := by rw [a0G] <;> omega
        refine Safe.rg rfl ?_
        simp only [b7g, w4, E3, Nat.reduceLeDiff, Nat.reduceSub, Nat.reduceAdd, Nat.reduceEqDiff, reduceCtorEq, ↓reduceIte]
        refine Safe.inBlock ?_
        refine Safe.keep [0, 1, 5, 7, 9] ?_
        simp only [E3, Nat.reduceLeDiff, Nat.reduceSub, Nat.reduceAdd, Nat.reduceEqDiff, reduceCtorEq, ↓reduceIte]
        have hexp : (q + 1) * val v = q * val v + val v := by rw [Nat.add_mul, Nat.one_mul]
        refine ih (1 - c) z hz lz (by omega) ?_ hlq (by omega)
        rcases Nat.eq_zero_or_pos c with h | h
        · subst h; omega
        · have : c = 1 := by omega
          subst this; omega
  exact key q0 b y hy ly hb hval hguess hq0l
end Go.Abs
namespace Go.Abs
theorem e1I (H L M : Heap) : hap (hap H L) M = hap H (L ++ M) := by simp [hap]
theorem d0B (H L : Heap) (i : Nat) : lid (hap H L) i = lid H (L.length + i) := by simp [hap, lid, Nat.add_assoc]
theorem b9l (n : Nat) : limbs (val (limbs n)) = limbs n := by rw [a0b]
theorem e4F {M k n : Nat} (hk : k = (limbs M).length) (hn : k ≤ n) : (fl n (dig M)).take k = limbs M := by
  rw [d6f _ hn, hk]
  have := b9n (a0c M) rfl
  rw [a0b] at this
  exact this.symm
theorem d7r {H : Heap} {i len : Nat} {X : List Nat} (oc : Option Nat) (h : len ≤ X.length) : frz (lid H i) ⟨1, u32s X⟩ (.mu (lid H i) 0 len oc) = natV (X.take len) := by
  simp only [frz, if_true, Nat.zero_add, a0x, h, List.drop_zero, b5j]; rfl
theorem e5p {H : Heap} (hH : a0F H) {n0 : Nat} {env : Env} {L : Heap} {len c : Nat} {X l : List Nat} {o : Option Blk} (hn : n0 ≤ lid H 0) (hlen : len ≤ X.length) (hc : c < len + l.length) (hb : X.length + l.length ≤ 35184372088832) :
    appV n0 1 4 false (.mu (lid H 0) 0 len (some c)) (.sl 1 (u32s l)) env (hap H [some ⟨1, u32s X⟩]) = some (.mu (lid H 0) 0 (len + l.length) none, scrub (lid H 0) env, hap H [some ⟨1, u32s (X.take len ++ l)⟩]) := by
  have hf : free (hap H [some ⟨1, u32s X⟩]) (lid H 0) = true := d0O hH (b1Y fun b hb a ha => by
    simp at hb; subst hb; exact a0r X a ha)
  simp only [appV, a4v, Option.bind_some, a1k, List.getElem?_cons_zero, Option.join_some, a3L, List.set_cons_zero]
  rw [if_neg (by simp [a0x]; omega), if_pos]
  · simp only [a0x, b5j, b4f, a1s]
    rw [Option.bind_some, if_neg (by omega)]
  · simp only [a0x, true_and]
    refine ⟨hlen, hn, hf, ?_, ?_, by omega, by omega⟩
    · exact List.all_eq_true.2 fun a ha => a1z (a7W ha)
    · exact List.all_eq_true.2 fun a ha => a1z (a7W ha)
theorem e3l {H L : Heap} {i lo hi len m : Nat} {b : Blk} (hl : L[i]? = some (some b)) {wd : Nat} (hw : b.wd = wd) (oc : Option Nat) (k k' : IntKind) (h1 : hi = lo + m) (h2 : hi ≤ len) :
    slcV (hap H L) wd (.mu (lid H i) 0 len oc) (some (.int k lo)) (some (.int k' hi)) none = some (.mu (lid H i) lo m (oc.map (· - lo))) := by
  subst h1
  simp only [slcV, a1k, hl, Option.join_some, Option.bind_some, a3C]
  rw [if_pos ⟨hw, by omega, by omega, by omega⟩]
  simp
  omega
/-- The rests, from the top. -/
theorem e0w {U V i nv : Nat} (hV : V < LB ^ nv) (hV0 : 0 < V) : (∀ j, xr (dig (U % (V * LB ^ (i + 1)))) i (fl (nv + 1) (dig (U % (V * LB ^ (i + 1)) / LB ^ i % V))) j = dig (U % (V * LB ^ i)) j) ∧
    U % (V * LB ^ (i + 1)) / LB ^ i / V = dig (U / V) i ∧ val (fl (nv + 1) fun t => dig (U % (V * LB ^ (i + 1))) (i + t)) = U % (V * LB ^ (i + 1)) / LB ^ i ∧ U % (V * LB ^ (i + 1)) / LB ^ i < LB * V := by
  have hp := a5e i
  have e1 : V * LB ^ (i + 1) = V * LB ^ i * LB := by rw [Nat.pow_succ, Nat.mul_assoc]
  have hR1 : U % (V * LB ^ (i + 1)) < V * LB ^ (i + 1) := Nat.mod_lt _ (Nat.mul_pos hV0 (a5e _))
  have hS : U % (V * LB ^ (i + 1)) / LB ^ i < LB * V := by
    rw [Nat.div_lt_iff_lt_mul hp]
    have : LB * V * LB ^ i = V * LB ^ (i + 1) := by rw [e1]; rw [Nat.mul_comm LB, Nat.mul_right_comm]
    rw [this]; exact hR1
  have hSl : U % (V * LB ^ (i + 1)) / LB ^ i < LB ^ (nv + 1) := by
    have : LB * V ≤ LB ^ (nv + 1) := by rw [Nat.pow_succ']; exact Nat.mul_le_mul_left _ (Nat.le_of_lt hV)
    omega
  have hR : U % (V * LB ^ i) = U % (V * LB ^ (i + 1)) % (V * LB ^ i) := by
    rw [e1, Nat.mod_mul_right_mod]
  have hq : U % (V * LB ^ (i + 1)) / LB ^ i % V = U % (V * LB ^ i) / LB ^ i := by
    rw [hR, Nat.mul_comm V (LB ^ i), Nat.mod_mul_right_div_self]
  refine ⟨fun j => ?_, ?_, ?_, hS⟩
  · unfold xr
    rw [a1g]
    by_cases h : i ≤ j ∧ j < i + (nv + 1)
    · rw [if_pos h, b7P (by omega), hq, e2f]
      congr 1; omega
    · rw [if_neg h]
      rcases Nat.lt_or_ge j i with h1 | h1
      · have h2 := Nat.mod_add_div (U % (V * LB ^ (i + 1))) (V * LB ^ i)
        rw [← hR] at h2
        have h3 : V * LB ^ i * (U % (V * LB ^ (i + 1)) / (V * LB ^ i)) = LB ^ i * (V * (U % (V * LB ^ (i + 1)) / (V * LB ^ i))) := by rw [Nat.mul_comm V, Nat.mul_assoc]
        rw [h3] at h2
        conv => lhs; rw [← h2]
        exact c6q _ h1
      · have hj : i + (nv + 1) ≤ j := by omega
        have hpj : LB ^ (nv + (i + 1)) ≤ LB ^ j := Nat.pow_le_pow_right (by decide) (by omega)
        have h3 : V * LB ^ (i + 1) ≤ LB ^ (nv + (i + 1)) := by rw [Nat.pow_add LB nv (i + 1)]; exact Nat.mul_le_mul_right _ (Nat.le_of_lt hV)
        have h4 : U % (V * LB ^ i) ≤ U % (V * LB ^ (i + 1)) := by rw [hR]; exact Nat.mod_le _ _
        rw [b1V (by omega), b1V (by omega)]
  · rw [Nat.div_div_eq_div_mul, Nat.mul_comm (LB ^ i), e1, Nat.mod_mul_right_div_self]
    unfold dig
    rw [Nat.div_div_eq_div_mul]
  · have : (fl (nv + 1) fun t => dig (U % (V * LB ^ (i + 1))) (i + t)) = fl (nv + 1) (dig (U % (V * LB ^ (i + 1)) / LB ^ i)) := a2U fun t _ => (e2f _ _ _).symm
    rw [this, a1U hSl]
theorem b7K {l : List Nat} (h : (l.getLast?).getD 1 ≠ 0) (hl : 0 < l.length) : 0 < l.getD (l.length - 1) 0 := by
  rw [List.getLast?_eq_getElem?, List.getElem?_eq_getElem (by omega)] at h
  rw [List.getD_eq_getElem?_getD, List.getElem?_eq_getElem (by omega)]
  simp at h ⊢; omega
theorem d4k {n : Nat} (h : n < LB) : blen n ≤ 32 := by
  rcases Nat.lt_or_ge 32 (blen n) with hc | hc
  · exfalso
    have h0 : n ≠ 0 := by rintro rfl; simp [d4j] at hc
    have := b9I h0
    have h2 : 2 ^ 32 ≤ 2 ^ (blen n - 1) := Nat.pow_le_pow_right (by decide) (by omega)
    have : (2 : Nat) ^ 32 = LB := by decide
    omega
  · exact hc
/-- Doubled till the top bit is set: as many limbs. -/
theorem d0u {l : List Nat} (hl : Lim l) (h0 : 0 < l.length) (ht : 0 < l.getD (l.length - 1) 0) : val l * 2 ^ (32 - blen (l.getD (l.length - 1) 0)) < LB ^ l.length ∧ LB ^ (l.length - 1) ≤ val l := by
  have hd := a0O hl (l.length - 1)
  have hb := d4k hd
  have hs := a3m l (l.length - 1)
  have hdr : val (l.drop (l.length - 1)) = l.getD (l.length - 1) 0 := by
    rw [a2G, show l.length - 1 + 1 = l.length by omega, List.drop_length]; simp [val]
  rw [hdr] at hs
  have htk := a2X hl (l.length - 1)
  generalize l.getD (l.length - 1) 0 = d at *
  have hlt := d1i d
  constructor
  · have h1 : val l < LB ^ (l.length - 1) * 2 ^ blen d := by
      have : LB ^ (l.length - 1) * (d + 1) ≤ LB ^ (l.length - 1) * 2 ^ blen d := Nat.mul_le_mul_left _ hlt
      rw [Nat.mul_add] at this
      omega
    have h2 : LB ^ (l.length - 1) * 2 ^ blen d * 2 ^ (32 - blen d) = LB ^ l.length := by
      rw [Nat.mul_assoc, ← Nat.pow_add, show blen d + (32 - blen d) = 32 by omega, show (2 : Nat) ^ 32 = LB by decide, ← Nat.pow_succ]
      congr 1; omega
    rw [← h2]
    exact Nat.mul_lt_mul_of_pos_right h1 (Nat.pow_pos (by decide))
  · have : LB ^ (l.length - 1) * 1 ≤ LB ^ (l.length - 1) * d := Nat.mul_le_mul_left _ ht
    omega
theorem c3w (r : Nat) : AV.sl 1 [.int .u32 (r : Int)] = natV [r] := rfl
theorem b7t {r : Nat} : val [r] = r := by simp [val]
theorem a8L (a b : List Nat) (ha : Nt a) (hb : Nt b) (hal : a.length < 17592186044000) (hbl : b.length < 17592186044000) (hb0 : val b ≠ 0) : a0d Pr b8F [natV a, natV b] (.tup [natV (limbs (val a / val b)), natV (limbs (val a % val b)), .int .i64 0]) := by
  have hLB : LB = 4294967296 := rfl
  have hna := ha.limbs
  have hnb := hb.limbs
  have hlal : (limbs (val a)).length < 17592186044000 := Nat.lt_of_le_of_lt (a0Y ha.lim) hal
  have hlbl : (limbs (val b)).length < 17592186044000 := Nat.lt_of_le_of_lt (a0Y hb.lim) hbl
  have hva := a0b (val a)
  have hvb := a0b (val b)
  have hlasta := a5s (val a)
  have hlastb := a5s (val b)
  have hia := b9l (val a)
  have hib := b9l (val b)
  refine a0d.introL d9b d8Z (Nat.le_of_ble_eq_true rfl) (d1g (a0X _) (a0X _) (.int _ _)) fun H hH => ?_
  refine Safe.rg rfl ?_
  simp only [c8t, E3, seval]
  refine Safe.rg rfl ?_
  simp only [c8s, E3, seval]
  first | refine (a0w a ha.lim ha.len).acall ?_ | refine (a0w a ha.lim ha.len).dcall ?_
  try simp only [E3, seval]
  first | refine (a0w b hb.lim hb.len).acall ?_ | refine (a0w b hb.lim hb.len).dcall ?_
  try simp only [E3, seval]
  generalize limbs (val a) = la at *
  generalize limbs (val b) = lb at *
  generalize val a = A at *
  generalize val b = B at *
  subst hva
  subst hvb
  have hb1 : 0 < lb.length := by
    rcases Nat.eq_zero_or_pos lb.length with h | h
    · exfalso; have := List.length_eq_zero_iff.1 h; subst this; exact hb0 rfl
    · exact h
  have hB : 0 < val lb := Nat.pos_of_ne_zero hb0
  refine Safe.rg rfl ?_
  simp only [c8r, show (((lb.length : Nat) : Int) = 0) = False from eq_false (by omega), E3, seval]
  refine Safe.cd rfl ?_
  simp only [E3, seval]
  refine Safe.rg rfl ?_
  simp only [c8q, E3, seval]
  refine (b4m la lb hna hnb).acall ?_
  by_cases hab : val la < val lb
  · have hcm : (cmpI (val la) (val lb) < 0) = True := by rw [b9D]; exact eq_true hab
    simp only [hcm, E3, seval]
    refine Safe.cd rfl ?_
    simp only [E3, seval]
    refine Safe.rg rfl ?_
    simp only [c8p, E3, seval]
    first | refine (a7D la hna).acall ?_ | refine (a7D la hna).dcall ?_
    try simp only [E3, seval]
    refine Safe.rt rfl ?_
    simp only [E3, seval]
    rw [Nat.div_eq_of_lt hab, Nat.mod_eq_of_lt hab, a0I]
    exact ⟨Le.tup3 (Le.nil 1 (by decide)) (Le.refl _) (Le.refl _), _, rfl⟩
  have hcm : (cmpI (val la) (val lb) < 0) = False := by rw [b9D]; exact eq_false hab
  simp only [hcm, E3, seval]
  refine Safe.cd rfl ?_
  simp only [E3, seval]
  have htb := b7K hlastb hb1
  have hdl := a0O hnb.lim (lb.length - 1)
  by_cases hone : lb.length = 1
  · have h1 : (((lb.length : Nat) : Int) = 1) = True := eq_true (by omega)
    refine Safe.rg rfl ?_
    simp only [b9c, h1, E3, seval]
    refine Safe.cd rfl ?_
    simp only [E3, seval]
    have hvb1 : val lb = lb.getD 0 0 := by
      have := a2G lb 0
      rw [List.drop_zero, List.drop_eq_nil_of_le (by omega)] at this
      simpa [val] using this
    have i0 := a0C (hap H []) lb .i64 0 hb1
    rw [Int.natCast_zero] at i0
    have hd0 : 0 < lb.getD 0 0 := by rw [← hvb1]; exact hB
    have hd1 : lb.getD 0 0 < LB := a0O hnb.lim 0
    refine Safe.rg rfl ?_
    simp only [c8o, i0, E3, seval]
    first | refine (c7p la (lb.getD 0 0) hna hd0 hd1).acall ?_ | refine (c7p la (lb.getD 0 0) hna hd0 hd1).dcall ?_
    try simp only [E3, seval]
    have hrl : val la % lb.getD 0 0 < LB := Nat.lt_trans (Nat.mod_lt _ hd0) hd1
    refine Safe.rg rfl ?_
    simp only [c8n, c3w, E3, seval]
    first | refine (a0w [val la % lb.getD 0 0] (by intro d hd; simp at hd; subst hd; exact hrl) (by simp)).acall ?_ | refine (a0w [val la % lb.getD 0 0] (by intro d hd; simp at hd; subst hd; exact hrl) (by simp)).dcall ?_
    try simp only [E3, seval]
    refine Safe.rt rfl ?_
    simp only [E3, seval]
    rw [hvb1, b7t]
    exact ⟨Le.refl _, _, rfl⟩
  have h1 : (((lb.length : Nat) : Int) = 1) = False := eq_false (by omega)
  refine Safe.rg rfl ?_
  simp only [b9c, h1, E3, seval]
  refine Safe.cd rfl ?_
  simp only [E3, seval]
  have w0 : IntKind.wrap .i64 (((lb.length : Nat) : Int) - 1) = ((lb.length - 1 : Nat) : Int) := by rw [a0a] <;> omega
  refine Safe.rg rfl ?_
  simp only [c8m, w0, a0C _ lb _ (lb.length - 1) (by omega), E3, seval]
  first | refine (d7E _ hdl).acall ?_ | refine (d7E _ hdl).dcall ?_
  try simp only [E3, seval]
  obtain ⟨hVl, hBl⟩ := d0u hnb.lim hb1 htb
  have hn32 : 32 - blen (lb.getD (lb.length - 1) 0) < 32 := by
    have : 0 < blen (lb.getD (lb.length - 1) 0) := by unfold blen; rw [if_neg (by omega)]; omega
    omega
  generalize hn : 32 - blen (lb.getD (lb.length - 1) 0) = n at *
  have hp2 : 0 < 2 ^ n := Nat.pow_pos (by decide)
  -- the divisor
  refine Safe.rg rfl ?_
  simp only [c5n, E3, seval]
  refine a0k.mono (d1F lb n hnb (by omega) hb0 hn32 (hap H [])) ?_
  rintro r' H' ⟨rfl, rfl⟩
  simp only [e1I, d0B, List.nil_append, List.length_nil, hib, E3, seval]
  have hVp : 0 < val lb * 2 ^ n := Nat.mul_pos hB hp2
  have hnv1 : (limbs (val lb * 2 ^ n)).length ≤ lb.length := a0j hVl
  have hnv2 : lb.length ≤ (limbs (val lb * 2 ^ n)).length := by
    rcases Nat.lt_or_ge (limbs (val lb * 2 ^ n)).length lb.length with h | h
    · exfalso
      have h2 := a1e (a0c (val lb * 2 ^ n))
      rw [a0b] at h2
      have h3 : LB ^ (limbs (val lb * 2 ^ n)).length ≤ LB ^ (lb.length - 1) := Nat.pow_le_pow_right (by decide) (by omega)
      have h4 : val lb * 1 ≤ val lb * 2 ^ n := Nat.mul_le_mul_left _ hp2
      omega
    · exact h
  have hnv : (limbs (val lb * 2 ^ n)).length = lb.length := by omega
  refine Safe.freeze 0 hH rfl rfl (a0r _) ?_
  refine Safe.keep [0, 1, 9, 10] ?_
  simp only [d7r (H := H) (i := 0) _ (show (limbs (val lb * 2 ^ n)).length ≤ (fl (lb.length + 1) (dig (val lb * 2 ^ n))).length by rw [a1g]; omega), e4F (M := val lb * 2 ^ n) rfl (show (limbs (val lb * 2 ^ n)).length ≤ lb.length + 1 by omega), E3, seval]
  refine Safe.drop0 hH rfl (by simp only [List.all_cons, List.all_nil, E3, seval]) (by repeat (first | exact RC.nil | refine RC.none ?_ | refine RC.mo ?_ | refine RC.io ?_ | refine RC.row ZI.cl ?_ | refine RC.cons (a0r _) ?_ | refine RC.row a0g ?_ | refine RC.emp ?_ | refine RC.zero ?_ | refine RC.one (Z_cl _) ?_ | refine RC.one (ZI.cl _) ?_ | refine RC.one (a0g _) ?_)) ?_
  -- the dividend
  have hA0 : val la ≠ 0 := by omega
  have hla1 : 0 < la.length := by
    rcases Nat.eq_zero_or_pos la.length with h | h
    · exfalso; have := List.length_eq_zero_iff.1 h; subst this; exact hA0 rfl
    · exact h
  have hU1 : la.length ≤ (limbs (val la * 2 ^ n)).length := by
    rcases Nat.lt_or_ge (limbs (val la * 2 ^ n)).length la.length with h | h
    · exfalso
      have h2 := a1e (a0c (val la * 2 ^ n))
      rw [a0b] at h2
      have h3 : LB ^ (limbs (val la * 2 ^ n)).length ≤ LB ^ (la.length - 1) := Nat.pow_le_pow_right (by decide) (by omega)
      have h4 : val la * 1 ≤ val la * 2 ^ n := Nat.mul_le_mul_left _ hp2
      have h5 := (d0u hna.lim hla1 (b7K hlasta hla1)).2
      omega
    · exact h
  have hU2 : val la * 2 ^ n < LB ^ (la.length + 1) := by
    rw [Nat.pow_succ]
    have h2n : 2 ^ n ≤ LB := by
      have : LB = 2 ^ (32 - n) * 2 ^ n := by rw [← Nat.pow_add, show 32 - n + n = 32 by omega]
      rw [this]; exact Nat.le_mul_of_pos_left _ (Nat.pow_pos (by decide))
    exact Nat.lt_of_lt_of_le (Nat.mul_lt_mul_of_pos_right (a1e hna.lim) hp2) (Nat.mul_le_mul_left _ h2n)
  have hU3 : (limbs (val la * 2 ^ n)).length ≤ la.length + 1 := a0j hU2
  refine Safe.rg rfl ?_
  simp only [c5m, E3, seval]
  refine a0k.mono (d1F la n hna (by omega) hA0 hn32 (hap H [])) ?_
  rintro r' H' ⟨rfl, rfl⟩
  generalize hK : (limbs (val la * 2 ^ n)).length = K at *
  have hrow : (fl (la.length + 1) (dig (val la * 2 ^ n))).take K ++ [0, 0] = fl (K + 2) (dig (val la * 2 ^ n)) := by
    have hh : val la * 2 ^ n < LB ^ K := by have := a1e (a0c (val la * 2 ^ n)); rwa [a0b, hK] at this
    have hh2 : val la * 2 ^ n < LB ^ (K + 1) := Nat.lt_of_lt_of_le hh (Nat.pow_le_pow_right (by decide) (by omega))
    rw [d6f _ hU3, d0Q, d0Q, b1V hh, b1V hh2, List.append_assoc]; rfl
  have happ := fun (env : Env) => e5p (H := H) hH (n0 := H.length) (env := env) (L := []) (len := K) (c := la.length + 1) (X := fl (la.length + 1) (dig (val la * 2 ^ n))) (l := [0, 0]) (o := none) (a1q H 0) (by rw [a1g]; exact hU3) (by simp; omega) (by rw [a1g]; simp; omega)
  have w2 : IntKind.wrap .i64 ((la.length : Int) + 1) = ((la.length + 1 : Nat) : Int) := by rw [a0a] <;> omega
  have hslc : slcV (hap H [some ⟨1, u32s (fl (K + 2) (dig (val la * 2 ^ n)))⟩]) 1 (.mu (lid H 0) 0 (K + 2) none) none (some (.int .i64 ((la.length + 1 : Nat) : Int))) none = some (.mu (lid H 0) 0 (la.length + 1) none) := by
    simp only [slcV, a1k, List.getElem?_cons_zero, Option.join_some, Option.bind_some, a3C]
    rw [if_pos ⟨trivial, by omega, by omega, by omega⟩]
    simp
  simp only [c4d, e3g, Int.natCast_zero, List.length_cons, List.length_nil, hrow] at happ
  simp only [e1I, d0B, List.nil_append, List.length_nil, hia, E3, seval]
  simp only [happ, w2, hslc, E3, seval]
  have hle : lb.length ≤ la.length := by
    rcases Nat.lt_or_ge la.length lb.length with h | h
    · exfalso
      have h2 := a1e hna.lim
      have h3 : LB ^ la.length ≤ LB ^ (lb.length - 1) := Nat.pow_le_pow_right (by decide) (by omega)
      omega
    · exact h
  have w3 : IntKind.wrap .i64 ((la.length : Int) - (lb.length : Int)) = ((la.length - lb.length : Nat) : Int) := by rw [a0a] <;> omega
  generalize hm : la.length - lb.length = m at *
  have w4 : IntKind.wrap .i64 ((m : Int) + 1) = ((m + 1 : Nat) : Int) := by rw [a0a] <;> omega
  refine Safe.rg rfl ?_
  simp only [c5l, w3, w4, b9i (H := H) (L := [some ⟨1, u32s (fl (K + 2) (dig (val la * 2 ^ n)))⟩]) (n := m + 1) (by omega), E3, seval]
  refine Safe.rg rfl ?_
  simp only [c5k, w3, E3, seval]
  have hUV : val la * 2 ^ n < val lb * 2 ^ n * LB ^ (m + 1) := by
    rw [Nat.mul_right_comm]
    refine Nat.mul_lt_mul_of_pos_right ?_ hp2
    have h1 := a1e hna.lim
    have h2 : LB ^ (lb.length - 1) * LB ^ (m + 1) ≤ val lb * LB ^ (m + 1) := Nat.mul_le_mul_right _ hBl
    rw [← Nat.pow_add, show lb.length - 1 + (m + 1) = la.length by omega] at h2
    omega
  generalize hU : val la * 2 ^ n = U at *
  generalize hV : val lb * 2 ^ n = V at *
  have hvt : 0 < (limbs V).getD (lb.length - 1) 0 := by
    have := b7K (a5s V) (by omega)
    rwa [hnv] at this
  refine Safe.lp rfl ?_
  refine Safe.keep [0, 1, 9, 10, 11, 12, 13] ?_
  simp only [E3, seval]
  refine Safe.loopD (m + 1) (fun i => [(0, natV la), (1, natV lb), (9, .int .i64 n), (10, natV (limbs V)), (11, .mu (lid H 0) 0 (la.length + 1) none), (12, .mu (lid H 1) 0 (m + 1) (some (m + 1))), (13, .int .i64 ((i : Int) - 1))])
    (fun i => hap H [some ⟨1, u32s (fl (K + 2) (dig (U % (V * LB ^ i))))⟩, some ⟨1, u32s (fl (m + 1) fun j => if i ≤ j then dig (U / V) j else 0)⟩]) ?_ ?_ (fun i hi ih => ?_) ?_
  · have : (((m + 1 : Nat) : Int) - 1) = (m : Int) := by omega
    rw [this]
  · rw [b8x, Nat.mod_eq_of_lt hUV]
  · have e1 : ((i + 1 : Nat) : Int) - 1 = (i : Int) := by omega
    rw [e1]
    obtain ⟨s1, s2, s3, s4⟩ := e0w (U := U) (V := V) (i := i) (nv := lb.length) hVl hVp
    refine Safe.inLoop ?_
    refine Safe.rg rfl ?_
    simp only [b4x, Int.natCast_nonneg i, E3, seval]
    refine Safe.cd rfl ?_
    simp only [E3, seval]
    have w5 : IntKind.wrap .i64 ((i : Int) + (lb.length : Int)) = ((i + lb.length : Nat) : Int) := by rw [a0a] <;> omega
    have w6 : IntKind.wrap .i64 (((i + lb.length : Nat) : Int) + 1) = ((i + lb.length + 1 : Nat) : Int) := by rw [a0a] <;> omega
    refine Safe.rg rfl ?_
    simp only [c5j, hnv, w5, w6, e3l (H := H) (i := 0) (L := [some ⟨1, u32s (fl (K + 2) (dig (U % (V * LB ^ (i + 1)))))⟩, some ⟨1, u32s (fl (m + 1) fun j => if i + 1 ≤ j then dig (U / V) j else 0)⟩]) rfl rfl none .i64 .i64 (show i + lb.length + 1 = i + (lb.length + 1) by omega) (show i + lb.length + 1 ≤ la.length + 1 by omega), E3, seval]
    have hcall := d6m (H := hap H [some ⟨1, u32s (fl (K + 2) (dig (U % (V * LB ^ (i + 1)))))⟩, some ⟨1, u32s (fl (m + 1) fun j => if i + 1 ≤ j then dig (U / V) j else 0)⟩]) (id := lid H 0) (off := i) (N := K + 2) (n := lb.length) (oc := none) (v := limbs V) (f := dig (U % (V * LB ^ (i + 1))))
      (e1K rfl) (a0c V) hnv hb1 hvt (by omega) (by omega) (fun j _ => b8z _ _) s3 (by rw [a0b]; exact s4)
    refine a0k.mono hcall ?_
    rintro r' H' ⟨rfl, rfl⟩
    rw [a0b, s2, a2U fun j _ => s1 j]
    simp only [a3L, List.set_cons_zero, e9T (show i < m + 1 by omega), fst1 (show i < m + 1 by omega), b8y, E3, seval]
    refine Safe.inBlock ?_
    refine Safe.rg rfl ?_
    simp only [c5i, a0a (n := (i : Int) - 1) (by omega) (by omega), E3, seval]
    refine Safe.keep [0, 1, 9, 10, 11, 12, 13] ?_
    simp only [E3, seval]
    exact ih
  · refine Safe.inLoop ?_
    refine Safe.rg rfl ?_
    simp only [b4x, show (0 ≤ ((0 : Nat) : Int) - 1) = False by simp, E3, seval]
    refine Safe.cd rfl ?_
    simp only [E3, seval]
    have hR0 : U % (V * LB ^ 0) = U % V := by rw [Nat.pow_zero, Nat.mul_one]
    rw [hR0]
    refine Safe.freeze 0 hH rfl rfl (a0r _) ?_
    refine Safe.keep [9, 11, 12] ?_
    simp only [d7r (H := H) (i := 0) none (show la.length + 1 ≤ (fl (K + 2) (dig (U % V))).length by rw [a1g]; omega), a2x, E3, seval]
    refine Safe.freeze 1 hH rfl rfl (a0r _) ?_
    refine Safe.keep [9, 11, 12] ?_
    simp only [d3R, E3, seval]
    rw [c3D, d6f _ (show la.length + 1 ≤ K + 2 by omega)]
    have hUm : U % V < LB ^ (la.length + 1) := Nat.lt_of_le_of_lt (Nat.mod_le _ _) hU2
    have hUd : U / V < LB ^ (m + 1) := by rw [Nat.div_lt_iff_lt_mul hVp, Nat.mul_comm]; exact hUV
    refine Safe.rg rfl ?_
    simp only [c5h, E3, seval]
    first | refine (a0w _ (a2P (U / V) (m + 1)) (by rw [a1g]; omega)).acall ?_ | refine (a0w _ (a2P (U / V) (m + 1)) (by rw [a1g]; omega)).dcall ?_
    try simp only [E3, seval]
    first | refine (a0w _ (a2P (U % V) (la.length + 1)) (by rw [a1g]; omega)).acall ?_ | refine (a0w _ (a2P (U % V) (la.length + 1)) (by rw [a1g]; omega)).dcall ?_
    try simp only [E3, seval]
    rw [a1U hUm, a1U hUd]
    first | refine (d6L (limbs (U % V)) n ⟨a0c _, Nat.le_trans (a0j hUm) (by omega)⟩ hn32).acall ?_ | refine (d6L (limbs (U % V)) n ⟨a0c _, Nat.le_trans (a0j hUm) (by omega)⟩ hn32).dcall ?_
    try simp only [E3, seval]
    refine Safe.rt rfl ?_
    simp only [E3, seval]
    rw [a0b, ← hU, ← hV, Nat.mul_mod_mul_right, Nat.mul_div_cancel _ hp2, Nat.mul_div_mul_right _ _ hp2]
    exact ⟨Le.refl _, _, rfl⟩
end Go.Abs
namespace Go.Abs
theorem e6n {n m : Bool} {A B : Nat} {q : Int} (hB : B ≠ 0) (h : sgn n A = sgn m B * q) : A % B = 0 ∧ sgn (!(n == m)) (A / B) = q := by
  have hA : A = B * q.natAbs := by
    have := congrArg Int.natAbs h
    rwa [b8L, Int.natAbs_mul, b8L] at this
  refine ⟨by rw [hA]; exact Nat.mul_mod_right _ _, ?_⟩
  have hne : sgn m B ≠ 0 := by cases m <;> simp [sgn] <;> omega
  refine Int.eq_of_mul_eq_mul_left hne ?_
  rw [← h, c9t]
  have hC : B * (A / B) = A := by rw [hA, Nat.mul_div_cancel_left _ (Nat.pos_of_ne_zero hB)]
  rw [hC]
  cases n <;> cases m <;> rfl
theorem b0m (x y : ZI) (k : Nat) (hx : Zok k x) (hy : Zok k y) (hk : k < 17592186044000) (q : Int) (hy0 : y.z ≠ 0) (hq : x.z = y.z * q) : a0d Pr a4F [x.av, y.av] (.tup [Z q, Z 0, .int .i64 0]) := by
  obtain ⟨n, a⟩ := x
  obtain ⟨m, b⟩ := y
  have hal := hx.len
  have hbl := hy.len
  simp only at hal hbl
  have ha : Nt a := ⟨hx.lim, by omega⟩
  have hb : Nt b := ⟨hy.lim, by omega⟩
  simp only [ZI.av, ZI.z] at *
  have hb0 : val b ≠ 0 := by
    intro h; rw [h, a4Y] at hy0; exact hy0 rfl
  obtain ⟨hr, hqq⟩ := e6n hb0 hq
  have hnt : ∀ v, v ≤ val a → Nt (limbs v) := fun v hv => ⟨a0c _, Nat.le_trans (a0j (Nat.lt_of_le_of_lt hv (a1e ha.lim))) ha.len⟩
  refine a0d.intro c9j c9i (Nat.le_of_ble_eq_true rfl) (d1g (Z_cl _) (Z_cl _) (.int _ _)) fun H hH => ?_
  refine Safe.rg rfl ?_
  simp only [b5d, E3, seval]
  refine Safe.rg rfl ?_
  simp only [b5c, E3, seval]
  first | refine (a8L a b ha hb (by omega) (by omega) hb0).acall ?_ | refine (a8L a b ha hb (by omega) (by omega) hb0).dcall ?_
  try simp only [E3, seval]
  refine Safe.rg rfl ?_
  simp only [b5b, E3, seval]
  refine Safe.cd rfl ?_
  simp only [E3, seval]
  refine Safe.rx rfl (by simp only [a4w, a6k, a4A, E3, seval]) ?_
  simp only [b5a, b2g, b2f, E3, seval]
  refine (a2w (!(n == m)) _ (hnt _ (Nat.div_le_self _ _))).dcall ?_
  rw [a0b, hqq]
  simp only [E3, seval]
  refine (a2w n _ (hnt _ (Nat.mod_le _ _))).dcall ?_
  rw [a0b, hr, a4Y]
  simp only [E3, seval]
  refine ⟨?_, ?_⟩
  all_goals
    refine Safe.rg rfl ?_
    simp only [b4Z, E3, seval]
    refine (a1J (canZ 0) (a0l (k := 1) (by decide) |>.mono (by omega))).dcall ?_
    rw [a0o]
    simp only [Int.sign_zero, E3, seval]
    refine Safe.cd rfl ?_
    simp only [E3, seval]
    refine Safe.rx rfl (by simp only [a4w, a6k, a4A, E3, seval]) ?_
    simp only [b4Y, b2e, b2d, E3, seval]
    refine Safe.rt rfl ?_
    simp only [E3, seval]
    exact ⟨rfl, _, rfl⟩
end Go.Abs
namespace Go.Abs
theorem c7m {x : Nat} (h : x < LB) : IntKind.wrap .u64 ((x : Int) * 4294967296) = ((x * LB : Nat) : Int) := b8H (x := x) (y := LB) (by
  have : LB = 4294967296 := rfl
  have : x * LB ≤ 4294967295 * LB := Nat.mul_le_mul_right _ (by omega)
  omega)
theorem c7o (a : List Nat) (d : Nat) (ha : Nt a) (hd : 0 < d) (hd2 : d < LB) : a0d Pr a9y [natV a, .int .u64 d] (.tup [natV (limbs (val a / d)), .int .u64 (val a % d : Nat)]) := by
  have hLB : LB = 4294967296 := rfl
  have hlen := ha.len
  have hv := a1e ha.lim
  refine a0d.intro c6U c6S (Nat.le_of_ble_eq_true rfl) (a7m (a0X _) (.int _ _)) fun H hH => ?_
  refine Safe.rg rfl ?_
  simp only [b3o, E3, seval]
  refine Safe.rg rfl ?_
  simp only [b3n, b9i (H := H) (L := []) (n := a.length) (by omega), E3, seval]
  refine Safe.rg rfl ?_
  simp only [b3m, E3, seval]
  refine Safe.rg rfl ?_
  simp only [b3l, a0a (n := (a.length : Int) - 1) (by omega) (by omega), E3, seval]
  refine Safe.lp rfl ?_
  refine Safe.keep [0, 1, 6, 7, 8] ?_
  simp only [E3, seval]
  refine Safe.loopD a.length (fun i => [(0, natV a), (1, .int .u64 d), (6, .mu (lid H 0) 0 a.length (some a.length)), (7, .int .u64 (val a / LB ^ i % d : Nat)), (8, .int .i64 ((i : Int) - 1))])
    (fun i => hap H [some ⟨1, u32s (fl a.length fun j => if i ≤ j then dig (val a / d) j else 0)⟩]) ?_ ?_ (fun i hi ih => ?_) ?_
  · rw [Nat.div_eq_of_lt hv]; rfl
  · rw [b8x]
  · have e1 : ((i + 1 : Nat) : Int) - 1 = (i : Int) := by omega
    rw [e1]
    refine Safe.inLoop ?_
    refine Safe.rg rfl ?_
    simp only [a7b, Int.natCast_nonneg i, E3, seval]
    refine Safe.cd rfl ?_
    simp only [E3, seval]
    have hr : val a / LB ^ (i + 1) % d < LB := Nat.lt_trans (Nat.mod_lt _ hd) hd2
    have hai : a.getD i 0 < LB := a0O ha.lim i
    have hb : val a / LB ^ (i + 1) % d * LB + a.getD i 0 < 18446744073709551616 := by
      have : val a / LB ^ (i + 1) % d * LB ≤ 4294967295 * LB := Nat.mul_le_mul_right _ (by omega)
      omega
    have hmul := c7m hr
    refine Safe.rg rfl ?_
    simp only [b3k, a0C _ a _ i hi, hmul, a2k (x := a.getD i 0) (by omega), a5p hb, E3, seval]
    rw [← d1c ha.lim i] at hb ⊢
    have hs := c4i (val a) d i
    have hq := c4j (val a) d i
    refine Safe.rg rfl ?_
    simp only [b3j, d0o hd hb, hq, a9E (b8z _ _), d9x hi, fst0 hi, E3, seval]
    refine Safe.rg rfl ?_
    simp only [b3i, e0y hd, hs, E3, seval]
    refine Safe.rg rfl ?_
    simp only [b3h, a0a (n := (i : Int) - 1) (by omega) (by omega), E3, seval]
    refine Safe.keep [0, 1, 6, 7, 8] ?_
    simp only [E3, seval]
    rw [b8y]
    exact ih
  · refine Safe.inLoop ?_
    refine Safe.rg rfl ?_
    simp only [a7b, show (0 ≤ ((0 : Nat) : Int) - 1) = False by simp, E3, seval]
    refine Safe.cd rfl ?_
    simp only [E3, seval]
    refine Safe.freeze 0 hH rfl rfl (a0r _) ?_
    refine Safe.keep [6, 7] ?_
    simp only [d3R, E3, seval]
    rw [c3D]
    have hr : val a % d < LB := Nat.lt_trans (Nat.mod_lt _ hd) hd2
    refine Safe.rg rfl ?_
    simp only [b3g, E3, seval]
    first | refine (a0v _ ⟨a2P _ _, by rw [a1g]; exact hlen⟩).acall ?_ | refine (a0v _ ⟨a2P _ _, by rw [a1g]; exact hlen⟩).dcall ?_
    try simp only [E3, seval]
    simp only [a1U (b1U hv (d := d)), Nat.pow_zero, Nat.div_one, E3, seval]
    refine Safe.rt rfl ?_
    simp only [E3, seval]
    first | exact ⟨rfl, _, rfl⟩ | exact ⟨_, rfl⟩ | exact ⟨trivial, _, rfl⟩
theorem d6F (n : Nat) (hn : n < 32) : a0d Pr b4S [.int .i64 n] (natV [2 ^ n]) := by
  have hLB : LB = 4294967296 := rfl
  have h2n : 2 ^ n < LB := by
    have : 2 ^ n ≤ 2 ^ 31 := Nat.pow_le_pow_right (by decide) (by omega)
    have : (2 : Nat) ^ 31 < LB := by decide
    omega
  refine a0d.intro d2E d2C (Nat.le_of_ble_eq_true rfl) (a0X _) fun H hH => ?_
  have hq : binV .quo (.int .i64 (n : Int)) (.int .i64 32) = some (.int .i64 0) := by
    have := e3v (x := n) (y := 32) (by decide) (by omega)
    rw [Nat.div_eq_of_lt hn] at this; exact this
  have hr : binV .rem (.int .i64 (n : Int)) (.int .i64 32) = some (.int .i64 (n : Int)) := by
    have := e3u (x := n) (y := 32) (by decide)
    rw [Nat.mod_eq_of_lt hn] at this; exact this
  refine Safe.rg rfl ?_
  simp only [c0L, E3, seval]
  refine Safe.rg rfl ?_
  simp only [c0K, E3, seval]
  refine Safe.rg rfl ?_
  simp only [c0J, E3, seval]
  refine Safe.lp rfl ?_
  refine Safe.inLoop ?_
  refine Safe.rg rfl ?_
  simp only [c0I, hq, Int.lt_irrefl, E3, seval]
  refine Safe.cd rfl ?_
  simp only [E3, seval]
  have hs : b0p .shl .u32 1 (n : Int) = some (.int .u32 ((2 ^ n : Nat) : Int)) := by
    rw [d1G _ _ _ (by omega)]
    have hm : min (Int.toNat (n : Int)) IntKind.u32.bits = n := by
      show min n 32 = n
      omega
    rw [hm]
    have : (1 : Int) * 2 ^ n = ((2 ^ n : Nat) : Int) := by simp
    rw [this, a9E h2n]
  refine Safe.rg rfl ?_
  simp only [c0H, hr, a2k (x := n) (by omega), hs, c3w, b4M _ _ H [] [2 ^ n] (by simp), E3, seval]
  refine Safe.freeze 0 hH rfl rfl (a0r _) ?_
  refine Safe.keep [2] ?_
  simp only [show frz (lid H 0) ⟨1, u32s [2 ^ n]⟩ (.mu (lid H 0) 0 1 none) = natV [2 ^ n] from a7M H 0 [2 ^ n] none, E3, seval]
  refine Safe.rt rfl ?_
  simp only [E3, seval]
  first | exact ⟨rfl, _, rfl⟩ | exact ⟨_, rfl⟩ | exact ⟨trivial, _, rfl⟩
theorem d1L (a : List Nat) (n : Nat) (ha : Nt a) (hn : n < 32) : a0d Pr b4T [natV a, .int .i64 n] (.tup [natV (limbs (val a / 2 ^ n)), .int .i64 0]) := by
  have hLB : LB = 4294967296 := rfl
  have hal := ha.len
  have hq : binV .quo (.int .i64 (n : Int)) (.int .i64 32) = some (.int .i64 0) := by
    have := e3v (x := n) (y := 32) (by decide) (by omega)
    rw [Nat.div_eq_of_lt hn] at this; exact this
  have hr : binV .rem (.int .i64 (n : Int)) (.int .i64 32) = some (.int .i64 (n : Int)) := by
    have := e3u (x := n) (y := 32) (by decide)
    rw [Nat.mod_eq_of_lt hn] at this; exact this
  refine a0d.introL d2L d2J (Nat.le_of_ble_eq_true rfl) (a7m (a0X _) (.int _ _)) fun H hH => ?_
  refine Safe.rg rfl ?_
  simp only [c0W, E3, seval]
  refine Safe.rg rfl ?_
  simp only [c0V, show ((n : Int) < 0) = False from eq_false (by omega), E3, seval]
  refine Safe.cd rfl ?_
  simp only [E3, seval]
  refine Safe.rg rfl ?_
  simp only [c0U, E3, seval]
  refine (a4y a ha).acall ?_
  by_cases hb : blen (val a) ≤ n
  · have hc : (((blen (val a) : Nat) : Int) ≤ (n : Int)) = True := eq_true (by omega)
    simp only [hc, E3, seval]
    refine Safe.cd rfl ?_
    simp only [E3, seval]
    refine Safe.rg rfl ?_
    simp only [c0T, E3, seval]
    refine Safe.rt rfl ?_
    simp only [E3, seval]
    have h0 : val a / 2 ^ n = 0 := by
      rw [Nat.div_eq_of_lt]
      have := d1i (val a)
      have h2 : 2 ^ blen (val a) ≤ 2 ^ n := Nat.pow_le_pow_right (by decide) hb
      omega
    rw [h0, a0I]
    exact ⟨Le.tup2 (Le.nil 1 (by decide)) (Le.refl _), _, rfl⟩
  have hc : (((blen (val a) : Nat) : Int) ≤ (n : Int)) = False := eq_false (by omega)
  simp only [hc, E3, seval]
  refine Safe.cd rfl ?_
  simp only [E3, seval]
  refine Safe.rg rfl ?_
  simp only [c0S, E3, seval]
  refine Safe.nilrow 6 1 (by decide) (by simp only [E3, seval]) ?_
  refine Safe.rg rfl ?_
  simp only [c0R, hq, E3, seval]
  refine Safe.lp rfl ?_
  refine Safe.keep [0, 1, 6, 7] ?_
  simp only [E3, seval]
  refine Safe.loopN a.length (fun i => [(0, natV a), (1, .int .i64 n), (6, .mu (lid H 0) 0 (fl i (dig (val a / 2 ^ n))).length none), (7, .int .i64 i)]) (fun i => hap H [some ⟨1, u32s (fl i (dig (val a / 2 ^ n)))⟩]) rfl rfl (fun i hi ih => ?_) ?_
  · have hlt : ((i : Int) < (a.length : Int)) = True := eq_true (by omega)
    have hai := a0O ha.lim i
    have hai1 := a0O ha.lim (i + 1)
    have w4 : IntKind.wrap .i64 ((i : Int) + 1) = ((i + 1 : Nat) : Int) := by rw [a0a] <;> omega
    refine Safe.inLoop ?_
    refine Safe.rg rfl ?_
    simp only [b0E, hlt, E3, seval]
    refine Safe.cd rfl ?_
    simp only [E3, seval]
    have hmx : a.getD (i + 1) 0 * LB ≤ 4294967295 * LB := Nat.mul_le_mul_right _ (by omega)
    have hmul : IntKind.wrap .u64 (((a.getD (i + 1) 0 : Nat) : Int) * 4294967296) = ((a.getD (i + 1) 0 * LB : Nat) : Int) := b8H (x := a.getD (i + 1) 0) (y := LB) (by omega)
    have hadd : IntKind.wrap .u64 (((a.getD i 0 : Nat) : Int) + ((a.getD (i + 1) 0 * LB : Nat) : Int)) = ((a.getD (i + 1) 0 * LB + a.getD i 0 : Nat) : Int) := by
      rw [a5p (by omega), Nat.add_comm]
    refine Safe.rg rfl ?_
    simp only [c0Q, E3, seval]
    first | refine (a1y a i ha.lim hal).acall ?_ | refine (a1y a i ha.lim hal).dcall ?_
    try simp only [E3, seval]
    simp only [w4, E3, seval]
    first | refine (a1y a (i + 1) ha.lim hal).acall ?_ | refine (a1y a (i + 1) ha.lim hal).dcall ?_
    try simp only [E3, seval]
    simp only [hmul, hadd, E3, seval]
    have hstep := d6K ha.lim i hn
    have hrem := e0z ((a.getD (i + 1) 0 * LB + a.getD i 0) / 2 ^ n)
    rw [hstep] at hrem
    refine Safe.rg rfl ?_
    simp only [c0P, hr, a2k (x := n) (by omega), e6k (show n ≤ 64 by omega), hrem, a9E (b8z (val a / 2 ^ n) i), c4E H hH _ (a1q H 0) _ (fl i (dig (val a / 2 ^ n))) (dig (val a / 2 ^ n) i) (by rw [a1g]; omega), E3, seval]
    refine Safe.rg rfl ?_
    simp only [b6x, w4, E3, seval]
    refine Safe.keep [0, 1, 6, 7] ?_
    simp only [E3, seval]
    rw [← d0Q]
    have e : (fl i (dig (val a / 2 ^ n))).length + 1 = (fl (i + 1) (dig (val a / 2 ^ n))).length := by rw [a1g, a1g]
    rw [e]
    exact ih
  · refine Safe.inLoop ?_
    refine Safe.rg rfl ?_
    simp only [b0E, Int.lt_irrefl, E3, seval]
    refine Safe.cd rfl ?_
    simp only [E3, seval]
    refine Safe.freeze 0 hH rfl rfl (a0r _) ?_
    refine Safe.keep [6] ?_
    simp only [E3, seval]
    refine Safe.rg rfl ?_
    simp only [b6w, E3, seval]
    first | refine (a0v _ ⟨a2P _ _, by rw [a1g]; exact hal⟩).acall ?_ | refine (a0v _ ⟨a2P _ _, by rw [a1g]; exact hal⟩).dcall ?_
    try simp only [E3, seval]
    simp only [a1U (b1U (a1e ha.lim) (d := 2 ^ n)), E3, seval]
    refine Safe.rt rfl ?_
    simp only [E3, seval]
    exact ⟨Le.refl _, _, rfl⟩
end Go.Abs
namespace Go.Abs
theorem e7T {H : Heap} (hH : a0F H) {n0 : Nat} {env : Env} {L : Heap} {i d c : Nat} {l : List Nat} (hn : n0 ≤ lid H i) (hl : L[i]? = some (some ⟨1, [.int .u32 (d : Int)]⟩)) (hL : e2X H L i) (hc : 0 < l.length → c < 1 + l.length) (hb : l.length ≤ 17592186044416) :
    appV n0 1 4 false (.mu (lid H i) 0 1 (some c)) (natV l) env (hap H L) = some (.mu (lid H i) 0 (1 + l.length) (a1s (some c) (1 + l.length)), scrub (lid H i) env, hap H (L.set i (some ⟨1, u32s (d :: l)⟩))) := by
  have hf : free (hap H L) (lid H i) = true := d0O hH hL
  simp only [appV, b7o, Option.bind_some, a1k, hl, Option.join_some, a3L]
  rw [if_neg, if_pos]
  · simp [a0x, c4d]
  · simp only [a0x, true_and]
    refine ⟨Nat.le_refl _, hn, hf, ?_, ?_, by omega, by omega⟩
    · exact List.all_eq_true.2 fun a ha => a1z (a7W ha)
    · simp [AV.cells, d6W]
  · simp only [a0x, Option.any_some]
    rintro ⟨_, _, _, _, h1, h2⟩
    have := hc h1
    simp at h2
    omega
theorem e3d (d : Nat) (l : List Nat) : val (d :: l) = d + LB * val l := rfl
theorem c6G (d n : Nat) : val (d :: limbs n) = n * LB + d := by
  rw [e3d, a0b, Nat.mul_comm, Nat.add_comm]
theorem e6J {d : Nat} {l : List Nat} {n : Nat} (hd : d < LB) (hl : Lim l) (h : l.length ≤ n) (hn : n < 17592186044000) : Nt (d :: l) :=
  ⟨d0A.2 ⟨hd, hl⟩, by rw [List.length_cons]; omega⟩
theorem d9v (H : Heap) (i d : Nat) (l : List Nat) (oc : Option Nat) : [AV.mu (lid H i) 0 (1 + l.length) oc].map (frz (lid H i) ⟨1, u32s (d :: l)⟩) = [natV (d :: l)] := by
  rw [Nat.add_comm]
  exact congrArg (fun x => [x]) (a7M H i (d :: l) oc)
theorem e2o (a b : Nat) : (cmpI a b > 0) = (b < a) := by
  unfold cmpI; split
  · simp; omega
  · split <;> simp <;> omega
theorem b9w (S i : Nat) : (limbs S).getD i 0 = dig S i := by
  rw [← d1c (a0c S), a0b]
theorem a2s (a b : List Nat) (ha : Nt a) (hb : Nt b) (hal : a.length < 17592186044000) (hbl : b.length < 17592186044000) (hb0 : val b ≠ 0) : a0d Pr a3b [natV a, natV b] (.tup [natV (limbs (val a / val b)), natV (limbs (val a % val b)), .int .i64 0]) := by
  have hLB : LB = 4294967296 := rfl
  have hnb := hb.limbs
  have hlbl : (limbs (val b)).length < 17592186044000 := Nat.lt_of_le_of_lt (a0Y hb.lim) hbl
  have hvb := a0b (val b)
  have hlastb := a5s (val b)
  have hib := b9l (val b)
  refine a0d.intro d2U d2T (Nat.le_of_ble_eq_true rfl) (d1g (a0X _) (a0X _) (.int _ _)) fun H hH => ?_
  refine Safe.rg rfl ?_
  simp only [c1v, E3, seval]
  refine Safe.rg rfl ?_
  simp only [c1u, E3, seval]
  first | refine (a0v b hb).acall ?_ | refine (a0v b hb).dcall ?_
  try simp only [E3, seval]
  generalize limbs (val b) = lb at *
  generalize val b = B at *
  subst hvb
  have hb1 : 0 < lb.length := by
    rcases Nat.eq_zero_or_pos lb.length with h | h
    · exfalso; have := List.length_eq_zero_iff.1 h; subst this; exact hb0 rfl
    · exact h
  have hB : 0 < val lb := Nat.pos_of_ne_zero hb0
  refine Safe.rg rfl ?_
  simp only [c1t, show (((lb.length : Nat) : Int) = 0) = False from eq_false (by omega), E3, seval]
  refine Safe.cd rfl ?_
  simp only [E3, seval]
  have htb := b7K hlastb hb1
  have hdl := a0O hnb.lim (lb.length - 1)
  by_cases hone : lb.length = 1
  · have h1 : (((lb.length : Nat) : Int) = 1) = True := eq_true (by omega)
    refine Safe.rg rfl ?_
    simp only [b0I, h1, E3, seval]
    refine Safe.cd rfl ?_
    simp only [E3, seval]
    have hvb1 : val lb = lb.getD 0 0 := by
      have := a2G lb 0
      rw [List.drop_zero, List.drop_eq_nil_of_le (by omega)] at this
      simpa [val] using this
    have i0 := a0C (hap H []) lb .i64 0 hb1
    rw [Int.natCast_zero] at i0
    have hd0 : 0 < lb.getD 0 0 := by rw [← hvb1]; exact hB
    have hd1 : lb.getD 0 0 < LB := a0O hnb.lim 0
    refine Safe.rg rfl ?_
    simp only [c1s, i0, a2k (x := lb.getD 0 0) (by omega), E3, seval]
    first | refine (c7o a (lb.getD 0 0) ha hd0 hd1).acall ?_ | refine (c7o a (lb.getD 0 0) ha hd0 hd1).dcall ?_
    try simp only [E3, seval]
    have hrl : val a % lb.getD 0 0 < LB := Nat.lt_trans (Nat.mod_lt _ hd0) hd1
    refine Safe.rg rfl ?_
    simp only [c1r, a9E hrl, c3w, E3, seval]
    first | refine (a0v [val a % lb.getD 0 0] ⟨by intro d hd; simp at hd; subst hd; exact hrl, by simp⟩).acall ?_ | refine (a0v [val a % lb.getD 0 0] ⟨by intro d hd; simp at hd; subst hd; exact hrl, by simp⟩).dcall ?_
    try simp only [E3, seval]
    refine Safe.rt rfl ?_
    simp only [hvb1, b7t, E3, seval]
    first | exact ⟨rfl, _, rfl⟩ | exact ⟨_, rfl⟩ | exact ⟨trivial, _, rfl⟩
  have h1 : (((lb.length : Nat) : Int) = 1) = False := eq_false (by omega)
  refine Safe.rg rfl ?_
  simp only [b0I, h1, E3, seval]
  refine Safe.cd rfl ?_
  simp only [E3, seval]
  obtain ⟨hVl, hBl⟩ := d0u hnb.lim hb1 htb
  have hblen : blen (val lb) = 32 * (lb.length - 1) + blen (lb.getD (lb.length - 1) 0) := by
    have hs : lb = lb.take (lb.length - 1) ++ [lb.getD (lb.length - 1) 0] := by
      rw [← a7p (by omega), show lb.length - 1 + 1 = lb.length by omega, List.take_length]
    have := b9H (hnb.lim.take (lb.length - 1)) (show lb.getD (lb.length - 1) 0 ≠ 0 by omega)
    rw [← hs, List.length_take, Nat.min_eq_left (by omega)] at this
    exact this
  have hb32 := d4k hdl
  have hbp : 0 < blen (lb.getD (lb.length - 1) 0) := by unfold blen; rw [if_neg (by omega)]; omega
  generalize hn : 32 - blen (lb.getD (lb.length - 1) 0) = n at *
  have hn32 : n < 32 := by omega
  have hp2 : 0 < 2 ^ n := Nat.pow_pos (by decide)
  have h2n : 2 ^ n < LB := by
    have : 2 ^ n ≤ 2 ^ 31 := Nat.pow_le_pow_right (by decide) (by omega)
    have : (2 : Nat) ^ 31 < LB := by decide
    omega
  have w1 : IntKind.wrap .i64 (32 * ((lb.length : Nat) : Int)) = ((32 * lb.length : Nat) : Int) := by rw [a0a] <;> omega
  have w2 : IntKind.wrap .i64 (((32 * lb.length : Nat) : Int) - ((blen (val lb) : Nat) : Int)) = (n : Int) := by rw [a0a] <;> omega
  refine Safe.rg rfl ?_
  simp only [c1q, w1, E3, seval]
  first | refine (a4y lb hnb).acall ?_ | refine (a4y lb hnb).dcall ?_
  try simp only [E3, seval]
  simp only [w2, E3, seval]
  first | refine (d6F n hn32).acall ?_ | refine (d6F n hn32).dcall ?_
  try simp only [E3, seval]
  have hn1 : Nt [2 ^ n] := ⟨by intro d hd; simp at hd; omega, by simp⟩
  refine Safe.rg rfl ?_
  simp only [c1p, E3, seval]
  first | refine (a2Z a [2 ^ n] ha hn1 (by simp; omega)).acall ?_ | refine (a2Z a [2 ^ n] ha hn1 (by simp; omega)).dcall ?_
  try simp only [E3, seval]
  refine Safe.rg rfl ?_
  simp only [c1o, E3, seval]
  first | refine (a2Z lb [2 ^ n] hnb hn1 (by simp; omega)).acall ?_ | refine (a2Z lb [2 ^ n] hnb hn1 (by simp; omega)).dcall ?_
  try simp only [E3, seval]
  simp only [b7t]
  have hU2 : val a * 2 ^ n < LB ^ (a.length + 1) := by
    rw [Nat.pow_succ]
    exact Nat.lt_of_lt_of_le (Nat.mul_lt_mul_of_pos_right (a1e ha.lim) hp2) (Nat.mul_le_mul_left _ (by omega))
  have hVp : 0 < val lb * 2 ^ n := Nat.mul_pos hB hp2
  have hnv1 : (limbs (val lb * 2 ^ n)).length ≤ lb.length := a0j hVl
  have hnv2 : lb.length ≤ (limbs (val lb * 2 ^ n)).length := by
    rcases Nat.lt_or_ge (limbs (val lb * 2 ^ n)).length lb.length with h | h
    · exfalso
      have h2 := a1e (a0c (val lb * 2 ^ n))
      rw [a0b] at h2
      have h3 : LB ^ (limbs (val lb * 2 ^ n)).length ≤ LB ^ (lb.length - 1) := Nat.pow_le_pow_right (by decide) (by omega)
      have h4 : val lb * 1 ≤ val lb * 2 ^ n := Nat.mul_le_mul_left _ hp2
      omega
    · exact h
  have hnv : (limbs (val lb * 2 ^ n)).length = lb.length := by omega
  have hUV1 : val a * 2 ^ n / (val lb * 2 ^ n) = val a / val lb := Nat.mul_div_mul_right _ _ hp2
  have hUV2 : val a * 2 ^ n % (val lb * 2 ^ n) / 2 ^ n = val a % val lb := by rw [Nat.mul_mod_mul_right, Nat.mul_div_cancel _ hp2]
  have hK1 : (limbs (val a * 2 ^ n)).length ≤ a.length + 1 := a0j hU2
  generalize hU : val a * 2 ^ n = U at *
  generalize hV : val lb * 2 ^ n = V at *
  have hvt : 0 < (limbs V).getD (lb.length - 1) 0 := by
    have := b7K (a5s V) (by omega)
    rwa [hnv] at this
  have hUl : U < LB ^ (limbs U).length := by have := a1e (a0c U); rwa [a0b] at this
  generalize hK : (limbs U).length = K at *
  have hVl' : V < LB ^ lb.length := hVl
  refine Safe.rg rfl ?_
  simp only [b6Q, hK, b9i (H := H) (L := []) (n := K) (by omega), E3, seval]
  refine Safe.rg rfl ?_
  simp only [b6P, E3, seval]
  refine Safe.nilsl 14 1 (by decide) (by simp only [E3, seval]) ?_
  refine Safe.rg rfl ?_
  simp only [b6O, hK, a0a (n := (K : Int) - 1) (by omega) (by omega), E3, seval]
  refine Safe.lp rfl ?_
  refine Safe.keep [7, 11, 12, 13, 14, 15] ?_
  simp only [E3, seval]
  refine Safe.loopD K (fun i => [(7, natV lb), (11, natV (limbs U)), (12, natV (limbs V)), (13, .mu (lid H 0) 0 K (some K)), (14, natV (limbs (U / LB ^ i % V))), (15, .int .i64 ((i : Int) - 1))])
    (fun i => hap H [some ⟨1, u32s (fl K fun j => if i ≤ j then dig (U / V) j else 0)⟩]) ?_ ?_ (fun i hi ih => ?_) ?_
  · rw [Nat.div_eq_of_lt hUl, Nat.zero_mod, a0I]; rfl
  · rw [b8x]
  · have e1 : ((i + 1 : Nat) : Int) - 1 = (i : Int) := by omega
    rw [e1]
    refine Safe.inLoop ?_
    refine Safe.rg rfl ?_
    simp only [a8C, Int.natCast_nonneg i, E3, seval]
    refine Safe.cd rfl ?_
    simp only [E3, seval]
    have hmod := Nat.mod_lt (U / LB ^ (i + 1)) hVp
    have hSm := c4i U V i
    have hSd := c4j U V i
    have hiU : i < (limbs U).length := by omega
    have hdi := b8z U i
    have hdU : (limbs U).getD i 0 = dig U i := b9w U i
    have hml : (limbs (U / LB ^ (i + 1) % V)).length ≤ lb.length := a0j (Nat.lt_trans hmod hVl)
    generalize U / LB ^ (i + 1) % V = R0 at *
    generalize U / LB ^ i % V = R1 at *
    generalize dig U i = d at *
    have hstep := b8y (n := K) (i := i) (U / V)
    generalize dig (U / V) i = q at *
    generalize (fl K fun j => if i ≤ j then dig (U / V) j else 0) = Q1 at *
    generalize hQ0 : (fl K fun j => if i + 1 ≤ j then dig (U / V) j else 0) = Q0 at *
    have hapx := fun (env : Env) => e7T (H := H) hH (n0 := H.length) (env := env) (L := [some ⟨1, u32s Q0⟩, some ⟨1, [.int .u32 (d : Int)]⟩]) (i := 1) (d := d) (c := 1) (l := limbs R0) (a1q H 1) rfl
      (by intro j b hb a ha
          match j with
          | 0 => simp at hb; subst hb; exact (a7W ha).ref
          | 1 => simp at hb; subst hb; simp [Blk.flat, AV.cells] at ha; subst ha; exact .int _ _
          | j + 2 => simp at hb) (by omega) (by omega)
    refine Safe.rg rfl ?_
    simp only [b6N, a0C _ (limbs U) _ i hiU, hdU, E3, seval]
    rw [hapx]
    simp only [List.set_cons_succ, List.set_cons_zero, E3, seval]
    have hnt : Nt (d :: limbs R0) := e6J hdi (a0c _) hml hlbl
    have hnc := a0v (d :: limbs R0) hnt
    rw [c6G] at hnc
    refine a0d.consumeL (r := natV (limbs (R0 * LB + d))) hH 1 rfl (a0r _) (by rw [d9v]; exact hnc) ?_
    simp only [d3T, d7t, List.set_cons_succ, List.set_cons_zero, E3, seval]
    have hSl : R0 * LB + d < LB * V := by
      have : (R0 + 1) * LB ≤ V * LB := Nat.mul_le_mul_right _ hmod
      rw [Nat.add_mul, Nat.one_mul] at this
      rw [Nat.mul_comm LB V]; omega
    generalize R0 * LB + d = S at *
    refine Safe.keep [7, 11, 12, 13, 14, 15] ?_
    simp only [E3, seval]
    refine Safe.drop1 hH rfl (by simp only [List.all_cons, List.all_nil, E3, seval]) (by repeat (first | exact RC.nil | refine RC.none ?_ | refine RC.mo ?_ | refine RC.io ?_ | refine RC.row ZI.cl ?_ | refine RC.cons (a0r _) ?_ | refine RC.row a0g ?_ | refine RC.emp ?_ | refine RC.zero ?_ | refine RC.one (Z_cl _) ?_ | refine RC.one (ZI.cl _) ?_ | refine RC.one (a0g _) ?_)) ?_
    have hSn : S < LB ^ (lb.length + 1) := by
      have : LB * V ≤ LB * LB ^ lb.length := Nat.mul_le_mul_left _ (Nat.le_of_lt hVl)
      rw [Nat.pow_succ']; omega
    have hSlen : (limbs S).length ≤ lb.length + 1 := a0j hSn
    have hntS : Nt (limbs S) := ⟨a0c S, by omega⟩
    have hntV : Nt (limbs V) := ⟨a0c V, by omega⟩
    refine Safe.rg rfl ?_
    simp only [b6M, E3, seval]
    refine (a8d (limbs S) (limbs V) hntS hntV).acall ?_
    rw [a0b, a0b]
    have w3 : IntKind.wrap .i64 ((i : Int) - 1) = (i : Int) - 1 := a0a (n := (i : Int) - 1) (by omega) (by omega)
    by_cases hSV : S < V
    · have hcm : (cmpI S V < 0) = True := by rw [b9D]; exact eq_true hSV
      simp only [hcm, E3, seval]
      refine Safe.cd rfl ?_
      simp only [E3, seval]
      refine Safe.rg rfl ?_
      simp only [a5d, w3, E3, seval]
      refine Safe.keep [7, 11, 12, 13, 14, 15] ?_
      simp only [E3, seval]
      have hS1 : R1 = S := by rw [← hSm, Nat.mod_eq_of_lt hSV]
      have hq0 : q = 0 := by rw [← hSd, Nat.div_eq_of_lt hSV]
      have hQ : Q0 = Q1 := by
        rw [← hQ0, ← hstep]
        refine a2U fun j _ => ?_
        by_cases hj : j = i
        · subst hj; rw [if_pos rfl, if_neg (by omega), hq0]
        · rw [if_neg hj]
      rw [hQ, ← hS1]
      exact ih
    have hcm : (cmpI S V < 0) = False := by rw [b9D]; exact eq_false hSV
    simp only [hcm, E3, seval]
    refine Safe.cd rfl ?_
    simp only [E3, seval]
    have main : ∀ G, S / V ≤ G → G < LB → Safe ⟨Pr, fun _ k => k == 4, a3b, 132, [.tmp 4, .tmp 5, .tmp 6], H.length⟩
        [.code ((ACode.region a8A false).seq ((ACode.block 2 c1w.loop).seq ((ACode.region a8z false).seq (ACode.region a8y false)))),
          .inBlock 1, .code (.region a5d false), .inLoop c1x, .inBlock 0, .code ((ACode.region a8x false).seq ((ACode.region a8w false).seq .ret))]
        [(7, natV lb), (11, natV (limbs U)), (12, natV (limbs V)), (13, .mu (lid H 0) 0 K (some K)), (14, natV (limbs S)), (15, .int .i64 i), (16, .int .u64 G)]
        (hap H [some ⟨1, u32s Q0⟩]) fun r' H' => r' = .tup [natV (limbs (val a / val lb)), natV (limbs (val a % val lb)), .int .i64 0] ∧ ∃ L, H' = hap H L := by
      intro G hG1 hG2
      refine Safe.rg rfl ?_
      simp only [a8A, a9E hG2, c3w, E3, seval]
      have hnG : Nt [G] := ⟨by intro d hd; simp at hd; omega, by simp⟩
      first | refine (a2Z (limbs V) [G] hntV hnG (by simp; omega)).acall ?_ | refine (a2Z (limbs V) [G] hntV hnG (by simp; omega)).dcall ?_
      try simp only [E3, seval]
      rw [a0b, b7t]
      refine Safe.lp rfl ?_
      refine Safe.keep [7, 11, 12, 13, 14, 15, 16, 17] ?_
      simp only [E3, seval]
      refine Safe.loopW (α := Nat) (fun g => g) (fun g => [(7, natV lb), (11, natV (limbs U)), (12, natV (limbs V)), (13, .mu (lid H 0) 0 K (some K)), (14, natV (limbs S)), (15, .int .i64 i), (16, .int .u64 g), (17, natV (limbs (V * g)))])
        (fun _ => hap H [some ⟨1, u32s Q0⟩]) (fun g => S / V ≤ g ∧ g < LB) G rfl rfl ⟨hG1, hG2⟩ fun g ⟨hg1, hg2⟩ ihg => ?_
      have hVg : V * g < LB ^ (lb.length + 1) := by
        have h1 : V * g ≤ V * LB := Nat.mul_le_mul_left _ (Nat.le_of_lt hg2)
        have h2 : V * LB < LB ^ lb.length * LB := Nat.mul_lt_mul_of_pos_right hVl (by decide)
        rw [Nat.pow_succ]; omega
      have hVgl : (limbs (V * g)).length ≤ lb.length + 1 := a0j hVg
      have hntg : Nt (limbs (V * g)) := ⟨a0c _, by omega⟩
      refine Safe.inLoop ?_
      refine Safe.rg rfl ?_
      simp only [b6J, E3, seval]
      refine (a8d (limbs (V * g)) (limbs S) hntg hntS).acall ?_
      rw [a0b, a0b]
      by_cases hlt : S < V * g
      · have hcm : (cmpI (V * g) S > 0) = True := by rw [e2o]; exact eq_true hlt
        simp only [hcm, E3, seval]
        refine Safe.cd rfl ?_
        simp only [E3, seval]
        have hgq : S / V < g := by rw [Nat.div_lt_iff_lt_mul hVp, Nat.mul_comm]; exact hlt
        have w4 : IntKind.wrap .u64 ((g : Int) - 1) = ((g - 1 : Nat) : Int) := by rw [a0G] <;> omega
        have hVV : V ≤ V * g := Nat.le_mul_of_pos_right _ (by omega)
        refine Safe.rg rfl ?_
        simp only [b6I, w4, E3, seval]
        refine Safe.rg rfl ?_
        simp only [b6H, E3, seval]
        first | refine (a4x (limbs (V * g)) (limbs V) (a0c _) (a0c _) hntg.len hntV.len (by rw [a0b, a0b]; exact hVV)).acall ?_ | refine (a4x (limbs (V * g)) (limbs V) (a0c _) (a0c _) hntg.len hntV.len (by rw [a0b, a0b]; exact hVV)).dcall ?_
        try simp only [E3, seval]
        rw [a0b, a0b, show V * g - V = V * (g - 1) by rw [Nat.mul_sub, Nat.mul_one]]
        refine Safe.keep [7, 11, 12, 13, 14, 15, 16, 17] ?_
        simp only [E3, seval]
        refine Safe.inBlock ?_
        exact ihg (g - 1) ⟨by omega, by omega⟩ (by omega)
      · have hcm : (cmpI (V * g) S > 0) = False := by rw [e2o]; exact eq_false hlt
        simp only [hcm, E3, seval]
        refine Safe.cd rfl ?_
        simp only [E3, seval]
        have hgq : g = q := by
          have : g ≤ S / V := by rw [Nat.le_div_iff_mul_le hVp, Nat.mul_comm]; omega
          omega
        subst hgq
        rw [← hQ0]
        refine Safe.rg rfl ?_
        simp only [a8z, a9E hg2, d9x hi, fst0 hi, E3, seval]
        have hSr : S - V * g = R1 := by
          rw [← hSm, ← hSd]
          have := Nat.div_add_mod S V
          omega
        refine Safe.rg rfl ?_
        simp only [a8y, E3, seval]
        first | refine (a4x (limbs S) (limbs (V * g)) (a0c _) (a0c _) hntS.len hntg.len (by rw [a0b, a0b]; omega)).acall ?_ | refine (a4x (limbs S) (limbs (V * g)) (a0c _) (a0c _) hntS.len hntg.len (by rw [a0b, a0b]; omega)).dcall ?_
        try simp only [E3, seval]
        rw [a0b, a0b, hSr]
        refine Safe.rg rfl ?_
        simp only [a5d, w3, E3, seval]
        refine Safe.keep [7, 11, 12, 13, 14, 15] ?_
        simp only [E3, seval]
        rw [hstep]
        exact ih
    have hguess := d7n (u := fl (lb.length + 1) (dig S)) (v := limbs V) (n := lb.length) (a2P _ _) (a0c V) (a1g _ _) hnv hb1 (by rw [a0b]; exact hVp) (by rw [a0b, a1U hSn]; exact hSl) hvt
    rw [a1U hSn, a0b, b7P (by omega), b7P (by omega)] at hguess
    have hg1 := Nat.le_trans hguess (Nat.min_le_left _ _)
    have hg2 : S / V ≤ 4294967295 := Nat.le_trans hguess (Nat.min_le_right _ _)
    clear hguess
    have hx1 := b8z S lb.length
    have hx2 := b8z S (lb.length - 1)
    have w5 : IntKind.wrap .i64 ((lb.length : Int) - 1) = ((lb.length - 1 : Nat) : Int) := by rw [a0a] <;> omega
    refine Safe.rg rfl ?_
    simp only [b6L, hnv, E3, seval]
    first | refine (a1y (limbs S) lb.length (a0c S) hntS.len).acall ?_ | refine (a1y (limbs S) lb.length (a0c S) hntS.len).dcall ?_
    try simp only [E3, seval]
    rw [b9w]
    simp only [c7m hx1, hnv, w5, E3, seval]
    first | refine (a1y (limbs S) (lb.length - 1) (a0c S) hntS.len).acall ?_ | refine (a1y (limbs S) (lb.length - 1) (a0c S) hntS.len).dcall ?_
    try simp only [E3, seval]
    rw [b9w]
    generalize dig S lb.length = x at *
    generalize dig S (lb.length - 1) = y at *
    have hxy : x * LB + y < 18446744073709551616 := by
      have : x * LB ≤ 4294967295 * LB := Nat.mul_le_mul_right _ (by omega)
      omega
    simp only [a5p hxy, hnv, w5, E3, seval]
    first | refine (a1y (limbs V) (lb.length - 1) (a0c V) hntV.len).acall ?_ | refine (a1y (limbs V) (lb.length - 1) (a0c V) hntV.len).dcall ?_
    try simp only [E3, seval]
    generalize (limbs V).getD (lb.length - 1) 0 = z at *
    simp only [d0o hvt hxy, E3, seval]
    by_cases hge : LB ≤ (x * LB + y) / z
    · have hc : ((((x * LB + y) / z : Nat) : Int) ≥ 4294967296) = True := eq_true (by omega)
      refine Safe.rg rfl ?_
      simp only [a8B, hc, E3, seval]
      refine Safe.cd rfl ?_
      simp only [E3, seval]
      refine Safe.rg rfl ?_
      simp only [b6K, E3, seval]
      refine Safe.keep [7, 11, 12, 13, 14, 15, 16] ?_
      simp only [E3, seval]
      exact main 4294967295 hg2 (by decide)
    · have hc : ((((x * LB + y) / z : Nat) : Int) ≥ 4294967296) = False := eq_false (by omega)
      refine Safe.rg rfl ?_
      simp only [a8B, hc, E3, seval]
      refine Safe.cd rfl ?_
      simp only [E3, seval]
      refine Safe.keep [7, 11, 12, 13, 14, 15, 16] ?_
      simp only [E3, seval]
      refine Safe.skip ?_
      exact main _ hg1 (Nat.lt_of_not_le hge)
  · refine Safe.inLoop ?_
    refine Safe.rg rfl ?_
    simp only [a8C, show (0 ≤ ((0 : Nat) : Int) - 1) = False by simp, E3, seval]
    refine Safe.cd rfl ?_
    simp only [E3, seval]
    rw [Nat.pow_zero, Nat.div_one]
    refine Safe.freeze 0 hH rfl rfl (a0r _) ?_
    refine Safe.keep [7, 13, 14] ?_
    simp only [d3R, E3, seval]
    rw [c3D]
    have hUm : U % V < LB ^ lb.length := Nat.lt_trans (Nat.mod_lt _ hVp) hVl
    refine Safe.rg rfl ?_
    simp only [a8x, w1, E3, seval]
    first | refine (a4y lb hnb).acall ?_ | refine (a4y lb hnb).dcall ?_
    try simp only [E3, seval]
    simp only [w2, E3, seval]
    first | refine (d1L (limbs (U % V)) n ⟨a0c _, Nat.le_trans (a0j hUm) (by omega)⟩ hn32).acall ?_ | refine (d1L (limbs (U % V)) n ⟨a0c _, Nat.le_trans (a0j hUm) (by omega)⟩ hn32).dcall ?_
    try simp only [E3, seval]
    rw [a0b, hUV2]
    have hUd : U / V < LB ^ K := Nat.lt_of_le_of_lt (Nat.div_le_self _ _) hUl
    refine Safe.rg rfl ?_
    simp only [a8w, E3, seval]
    first | refine (a0v (fl K (dig (U / V))) ⟨a2P _ _, by rw [a1g]; omega⟩).acall ?_ | refine (a0v (fl K (dig (U / V))) ⟨a2P _ _, by rw [a1g]; omega⟩).dcall ?_
    try simp only [E3, seval]
    rw [a1U hUd, hUV1]
    refine Safe.rt rfl ?_
    simp only [E3, seval]
    first | exact ⟨rfl, _, rfl⟩ | exact ⟨_, rfl⟩ | exact ⟨trivial, _, rfl⟩
end Go.Abs
namespace Go.Abs
theorem b7u {n : Nat} : (((limbs n).length : Nat) : Int) > 0 ↔ n ≠ 0 := by
  have := b3r n
  omega
theorem c4I (a b : List Nat) (ha : Nt a) (hb : Nt b) (hal : a.length < 17592186044000) (hbl : b.length < 17592186044000) : a0d Pr c6F [natV a, natV b] (natV (limbs (Nat.gcd (val a) (val b)))) := by
  have hva : (limbs (val a)).length < 17592186044000 := Nat.lt_of_le_of_lt (a0Y ha.lim) hal
  have hvb : (limbs (val b)).length < 17592186044000 := Nat.lt_of_le_of_lt (a0Y hb.lim) hbl
  refine a0d.intro d8X d8V (Nat.le_of_ble_eq_true rfl) (a0X _) fun H hH => ?_
  refine Safe.rg rfl ?_
  simp only [c8l, E3, seval]
  refine Safe.rg rfl ?_
  simp only [c8k, E3, seval]
  first | refine (a7D a ha).acall ?_ | refine (a7D a ha).dcall ?_
  try simp only [E3, seval]
  first | refine (a7D b hb).acall ?_ | refine (a7D b hb).dcall ?_
  try simp only [E3, seval]
  refine Safe.lp rfl ?_
  refine Safe.keep [5, 6] ?_
  simp only [E3, seval]
  refine Safe.loopW (α := Nat × Nat) (fun p => p.2) (fun p => [(5, natV (limbs p.1)), (6, natV (limbs p.2))]) (fun _ => hap H [])
    (fun p => Nat.gcd p.1 p.2 = Nat.gcd (val a) (val b) ∧ (limbs p.1).length < 17592186044000 ∧ (limbs p.2).length < 17592186044000) (val a, val b) rfl rfl ⟨rfl, hva, hvb⟩ ?_
  rintro ⟨x, y⟩ ⟨hg, hx, hy⟩ ih
  simp only at hg hx hy ih ⊢
  refine Safe.inLoop ?_
  by_cases h0 : y = 0
  · subst h0
    refine Safe.rg rfl ?_
    simp only [b9b, a0I, show ((([] : List Nat).length : Nat) : Int) > 0 ↔ False by simp, E3, seval]
    refine Safe.cd rfl ?_
    simp only [E3, seval]
    refine Safe.rg rfl ?_
    simp only [c8h, E3, seval]
    rw [Nat.gcd_zero_right] at hg
    refine Safe.rt rfl ?_
    simp only [hg, E3, seval]
    first | exact ⟨rfl, _, rfl⟩ | exact ⟨_, rfl⟩ | exact ⟨trivial, _, rfl⟩
  · have hc : ((((limbs y).length : Nat) : Int) > 0) = True := eq_true (b7u.2 h0)
    refine Safe.rg rfl ?_
    simp only [b9b, hc, E3, seval]
    refine Safe.cd rfl ?_
    simp only [E3, seval]
    refine Safe.rg rfl ?_
    simp only [c8j, E3, seval]
    first | refine (a8L (limbs x) (limbs y) ⟨a0c _, by omega⟩ ⟨a0c _, by omega⟩ hx hy (by rw [a0b]; exact h0)).acall ?_ | refine (a8L (limbs x) (limbs y) ⟨a0c _, by omega⟩ ⟨a0c _, by omega⟩ hx hy (by rw [a0b]; exact h0)).dcall ?_
    try simp only [E3, seval]
    rw [a0b, a0b]
    have hm : x % y < y := Nat.mod_lt _ (Nat.pos_of_ne_zero h0)
    refine Safe.rg rfl ?_
    simp only [c8i, E3, seval]
    refine Safe.keep [5, 6] ?_
    simp only [E3, seval]
    refine Safe.inBlock ?_
    refine ih (y, x % y) ⟨?_, hy, ?_⟩ hm
    · rw [← hg, Nat.gcd_comm x y, Nat.gcd_rec y x, Nat.gcd_comm]
    · have h1 := a1e (a0c y)
      rw [a0b] at h1
      exact Nat.lt_of_le_of_lt (a0j (Nat.lt_trans hm h1)) hy
theorem a8c (a b : List Nat) (ha : Nt a) (hb : Nt b) (hal : a.length < 17592186044000) (hbl : b.length < 17592186044000) : a0d Pr a9A [natV a, natV b] (natV (limbs (Nat.gcd (val a) (val b)))) := by
  have hva : (limbs (val a)).length < 17592186044000 := Nat.lt_of_le_of_lt (a0Y ha.lim) hal
  have hvb : (limbs (val b)).length < 17592186044000 := Nat.lt_of_le_of_lt (a0Y hb.lim) hbl
  refine a0d.intro d2R d2P (Nat.le_of_ble_eq_true rfl) (a0X _) fun H hH => ?_
  refine Safe.rg rfl ?_
  simp only [c1n, E3, seval]
  refine Safe.rg rfl ?_
  simp only [c1m, E3, seval]
  first | refine (a0v a ha).acall ?_ | refine (a0v a ha).dcall ?_
  try simp only [E3, seval]
  refine Safe.rg rfl ?_
  simp only [c1l, E3, seval]
  first | refine (a0v b hb).acall ?_ | refine (a0v b hb).dcall ?_
  try simp only [E3, seval]
  refine Safe.lp rfl ?_
  refine Safe.keep [5, 6] ?_
  simp only [E3, seval]
  refine Safe.loopW (α := Nat × Nat) (fun p => p.2) (fun p => [(5, natV (limbs p.1)), (6, natV (limbs p.2))]) (fun _ => hap H [])
    (fun p => Nat.gcd p.1 p.2 = Nat.gcd (val a) (val b) ∧ (limbs p.1).length < 17592186044000 ∧ (limbs p.2).length < 17592186044000) (val a, val b) rfl rfl ⟨rfl, hva, hvb⟩ ?_
  rintro ⟨x, y⟩ ⟨hg, hx, hy⟩ ih
  simp only at hg hx hy ih ⊢
  refine Safe.inLoop ?_
  by_cases h0 : y = 0
  · subst h0
    refine Safe.rg rfl ?_
    simp only [b0H, a0I, show ((([] : List Nat).length : Nat) : Int) > 0 ↔ False by simp, E3, seval]
    refine Safe.cd rfl ?_
    simp only [E3, seval]
    refine Safe.rg rfl ?_
    simp only [c1h, E3, seval]
    rw [Nat.gcd_zero_right] at hg
    refine Safe.rt rfl ?_
    simp only [hg, E3, seval]
    first | exact ⟨rfl, _, rfl⟩ | exact ⟨_, rfl⟩ | exact ⟨trivial, _, rfl⟩
  · have hc : ((((limbs y).length : Nat) : Int) > 0) = True := eq_true (b7u.2 h0)
    refine Safe.rg rfl ?_
    simp only [b0H, hc, E3, seval]
    refine Safe.cd rfl ?_
    simp only [E3, seval]
    refine Safe.rg rfl ?_
    simp only [c1k, E3, seval]
    first | refine (a2s (limbs x) (limbs y) ⟨a0c _, by omega⟩ ⟨a0c _, by omega⟩ hx hy (by rw [a0b]; exact h0)).acall ?_ | refine (a2s (limbs x) (limbs y) ⟨a0c _, by omega⟩ ⟨a0c _, by omega⟩ hx hy (by rw [a0b]; exact h0)).dcall ?_
    try simp only [E3, seval]
    rw [a0b, a0b]
    have hm : x % y < y := Nat.mod_lt _ (Nat.pos_of_ne_zero h0)
    refine Safe.rg rfl ?_
    simp only [c1j, E3, seval]
    refine Safe.rg rfl ?_
    simp only [c1i, E3, seval]
    refine Safe.keep [5, 6] ?_
    simp only [E3, seval]
    refine Safe.inBlock ?_
    refine ih (y, x % y) ⟨?_, hy, ?_⟩ hm
    · rw [← hg, Nat.gcd_comm x y, Nat.gcd_rec y x, Nat.gcd_comm]
    · have h1 := a1e (a0c y)
      rw [a0b] at h1
      exact Nat.lt_of_le_of_lt (a0j (Nat.lt_trans hm h1)) hy
theorem d7o {a b M : Nat} (ha : a < M) (hb : b < M) : Nat.gcd a b < M := by
  rcases Nat.eq_zero_or_pos a with h | h
  · subst h; rw [Nat.gcd_zero_left]; exact hb
  · exact Nat.lt_of_le_of_lt (Nat.gcd_le_left _ h) ha
section
variable (x y : ZI) (k : Nat) (hx : Zok k x) (hy : Zok k y) (hk : k < 17592186044000)
include hx hy hk
theorem d9M : a0d Pr b9K [x.av, y.av] (Z (Int.gcd x.z y.z)) := by
  obtain ⟨n, a⟩ := x
  obtain ⟨m, b⟩ := y
  have hal := hx.len
  have hbl := hy.len
  have hav := hx.lt
  have hbv := hy.lt
  simp only at hal hbl hav hbv
  have ha : Nt a := ⟨hx.lim, by omega⟩
  have hb : Nt b := ⟨hy.lim, by omega⟩
  simp only [ZI.av, ZI.z, Int.gcd, b8L]
  refine a0d.intro d4E d4D (Nat.le_of_ble_eq_true rfl) (Z_cl _) fun H hH => ?_
  refine Safe.rg rfl ?_
  simp only [c3T, E3, seval]
  refine Safe.rg rfl ?_
  simp only [c3S, E3, seval]
  first | refine (c4I a b ha hb (by omega) (by omega)).acall ?_ | refine (c4I a b ha hb (by omega) (by omega)).dcall ?_
  try simp only [E3, seval]
  have hg : Nt (limbs (Nat.gcd (val a) (val b))) := ⟨a0c _, Nat.le_trans (a0j (d7o hav hbv)) (by omega)⟩
  first | refine (a2w false _ hg).acall ?_ | refine (a2w false _ hg).dcall ?_
  try simp only [E3, seval]
  rw [a0b]
  refine Safe.rt rfl ?_
  simp only [show sgn false (Nat.gcd (val a) (val b)) = ((Nat.gcd (val a) (val b) : Nat) : Int) from rfl, E3, seval]
  first | exact ⟨rfl, _, rfl⟩ | exact ⟨_, rfl⟩ | exact ⟨trivial, _, rfl⟩
theorem c7z : a0d Pr a9x [x.av, y.av] (Z (Int.gcd x.z y.z)) := by
  obtain ⟨n, a⟩ := x
  obtain ⟨m, b⟩ := y
  have hal := hx.len
  have hbl := hy.len
  have hav := hx.lt
  have hbv := hy.lt
  simp only at hal hbl hav hbv
  have ha : Nt a := ⟨hx.lim, by omega⟩
  have hb : Nt b := ⟨hy.lim, by omega⟩
  simp only [ZI.av, ZI.z, Int.gcd, b8L]
  refine a0d.intro d2u d2t (Nat.le_of_ble_eq_true rfl) (Z_cl _) fun H hH => ?_
  refine Safe.rg rfl ?_
  simp only [c0y, E3, seval]
  refine Safe.rg rfl ?_
  simp only [c0x, E3, seval]
  first | refine (a8c a b ha hb (by omega) (by omega)).acall ?_ | refine (a8c a b ha hb (by omega) (by omega)).dcall ?_
  try simp only [E3, seval]
  have hg : Nt (limbs (Nat.gcd (val a) (val b))) := ⟨a0c _, Nat.le_trans (a0j (d7o hav hbv)) (by omega)⟩
  first | refine (a1m false _ hg).acall ?_ | refine (a1m false _ hg).dcall ?_
  try simp only [E3, seval]
  rw [a0b]
  refine Safe.rt rfl ?_
  simp only [show sgn false (Nat.gcd (val a) (val b)) = ((Nat.gcd (val a) (val b) : Nat) : Int) from rfl, E3, seval]
  first | exact ⟨rfl, _, rfl⟩ | exact ⟨_, rfl⟩ | exact ⟨trivial, _, rfl⟩
end
/-- Toward nought. -/
theorem c9n (n m : Bool) (A B : Nat) : sgn n (A % B) + sgn m B * sgn (!(n == m)) (A / B) = sgn n A := by
  rw [c9t]
  have e : sgn (!(m == !(n == m))) (B * (A / B)) = sgn n (B * (A / B)) := by cases n <;> cases m <;> rfl
  rw [e, d4N, Nat.mod_add_div]
theorem d9w {n m : Bool} {A B : Nat} (hB : B ≠ 0) (h : A % B = 0 ∨ n = m) : (sgn n A).fdiv (sgn m B) = sgn (!(n == m)) (A / B) ∧ (sgn n A).fmod (sgn m B) = sgn n (A % B) := by
  have hr := Nat.mod_lt A (Nat.pos_of_ne_zero hB)
  have ht := c9n n m A B
  cases m
  · have hb : (0 : Int) < sgn false B := by simp [sgn]; omega
    refine (Int.fdiv_fmod_unique hb).2 ⟨ht, ?_, ?_⟩
    · rcases h with h | h
      · rw [h, a4Y]; exact Int.le_refl _
      · subst h; simp [sgn]
        exact Int.natCast_nonneg _
    · rcases h with h | h
      · rw [h, a4Y]; exact hb
      · subst h; simp only [sgn, Bool.false_eq_true, if_false]; omega
  · have hb : sgn true B < 0 := by simp [sgn]; omega
    refine (Int.fdiv_fmod_unique' hb).2 ⟨ht, ?_, ?_⟩
    · rcases h with h | h
      · rw [h, a4Y]; exact hb
      · subst h; simp only [sgn, if_true]; omega
    · rcases h with h | h
      · rw [h, a4Y]; exact Int.le_refl _
      · subst h; simp only [sgn, if_true]; omega
theorem d6e {n m : Bool} {A B : Nat} (hB : B ≠ 0) (h0 : A % B ≠ 0) (h : n ≠ m) : (sgn n A).fdiv (sgn m B) = sgn (!(n == m)) (A / B) - 1 ∧ (sgn n A).fmod (sgn m B) = sgn n (A % B) + sgn m B := by
  have hr := Nat.mod_lt A (Nat.pos_of_ne_zero hB)
  have ht := c9n n m A B
  have ht' : sgn n (A % B) + sgn m B + sgn m B * (sgn (!(n == m)) (A / B) - 1) = sgn n A := by rw [Int.mul_sub, Int.mul_one]; omega
  cases m
  · have hn : n = true := by cases n <;> simp_all
    subst hn
    have hb : (0 : Int) < sgn false B := by simp [sgn]; omega
    refine (Int.fdiv_fmod_unique hb).2 ⟨ht', ?_, ?_⟩ <;> simp only [sgn, if_true, Bool.false_eq_true, if_false] <;> omega
  · have hn : n = false := by cases n <;> simp_all
    subst hn
    have hb : sgn true B < 0 := by simp [sgn]; omega
    refine (Int.fdiv_fmod_unique' hb).2 ⟨ht', ?_, ?_⟩ <;> simp only [sgn, if_true, Bool.false_eq_true, if_false] <;> omega
theorem e5D {n : Bool} {A M : Nat} (h : A < M) : (sgn n A).natAbs < M := by rw [b8L]; exact h
theorem e5H (k : Nat) : (1 : Int).natAbs < LB ^ (k + 1) := Nat.one_lt_pow (Nat.succ_ne_zero k) (by decide)
theorem b0M (x y : ZI) (k : Nat) (hx : Zok k x) (hy : Zok k y) (hk : k + k < 17592186044000) (hy0 : y.z ≠ 0) : a0d Pr a3E [x.av, y.av] (.tup [Z (x.z.fdiv y.z), Z (x.z.fmod y.z)]) := by
  obtain ⟨n, a⟩ := x
  obtain ⟨m, b⟩ := y
  have hal := hx.len
  have hbl := hy.len
  have hav := hx.lt
  have hbv := hy.lt
  simp only at hal hbl hav hbv
  have ha : Nt a := ⟨hx.lim, by omega⟩
  have hb : Nt b := ⟨hy.lim, by omega⟩
  have hzb := hy
  have hza := hx
  have habs := hy.abs
  simp only [ZI.av, ZI.z] at hy0 habs ⊢
  have hb0 : val b ≠ 0 := by
    intro h; rw [h, a4Y] at hy0; exact hy0 rfl
  have hq := Nat.lt_of_le_of_lt (Nat.div_le_self (val a) (val b)) hav
  have hr := Nat.lt_of_le_of_lt (Nat.mod_le (val a) (val b)) hav
  have hnt : ∀ v, v < LB ^ k → Nt (limbs v) := fun v hv => ⟨a0c _, Nat.le_trans (a0j hv) (by omega)⟩
  have hsame := @d9w n m (val a) (val b) hb0
  have hother := @d6e n m (val a) (val b) hb0
  have htr := c9n n m (val a) (val b)
  refine a0d.intro c6R c6Q (Nat.le_of_ble_eq_true rfl) (a7m (Z_cl _) (Z_cl _)) fun H hH => ?_
  refine Safe.rg rfl ?_
  simp only [b3f, E3, seval]
  refine Safe.rg rfl ?_
  simp only [b3e, E3, seval]
  first | refine (a2s a b ha hb (by omega) (by omega) hb0).acall ?_ | refine (a2s a b ha hb (by omega) (by omega) hb0).dcall ?_
  try simp only [E3, seval]
  refine Safe.rg rfl ?_
  simp only [b3d, E3, seval]
  first | refine (a1m (!(n == m)) _ (hnt _ hq)).acall ?_ | refine (a1m (!(n == m)) _ (hnt _ hq)).dcall ?_
  try simp only [E3, seval]
  rw [a0b]
  have hqz := e5D (n := !(n == m)) hq
  have hrz := e5D (n := n) hr
  have hrs := c3s n (val a % val b)
  have hbs := c3s m (val b)
  rw [if_neg hb0] at hbs
  have hmulz := a4b hqz hzb.abs
  have hsubz : sgn n (val a) - sgn (!(n == m)) (val a / val b) * sgn m (val b) = sgn n (val a % val b) := by
    rw [← htr, Int.mul_comm (sgn m (val b))]; omega
  refine Safe.rg rfl ?_
  simp only [b3c, E3, seval]
  have hcall := a2J (canZ (sgn (!(n == m)) (val a / val b))) ⟨m, b⟩ k k (a0l hqz) hzb (by omega)
  rw [a2A, a0o] at hcall
  simp only [ZI.av, ZI.z] at hcall
  refine hcall.dcall ?_
  simp only [E3, seval]
  have hcall := c7y ⟨n, a⟩ (canZ (sgn (!(n == m)) (val a / val b) * sgn m (val b))) (k + k) (hza.mono (by omega)) (a0l hmulz) (by omega)
  rw [a2A, a0o] at hcall
  simp only [ZI.av, ZI.z, hsubz] at hcall
  refine hcall.dcall ?_
  simp only [E3, seval]
  clear hcall hmulz hsubz htr
  generalize val a % val b = r at *
  generalize val a / val b = q at *
  refine Safe.rg rfl ?_
  simp only [b3b, E3, seval]
  refine (a0K (canZ (sgn n r)) ((a0l hrz).mono (by omega))).dcall ?_
  rw [a0o, hrs]
  by_cases hr0 : r = 0
  · have hs := hsame (.inl hr0)
    simp only [hr0, E3, seval]
    refine Safe.cd rfl ?_
    simp only [E3, seval]
    refine Safe.rx rfl (by simp only [a4w, a6k, a4A, E3, seval]) ?_
    simp only [a4q, a3r, a3q, E3, seval]
    refine Safe.rt rfl ?_
    simp only [E3, seval]
    rw [hs.1, hs.2, hr0]
    exact ⟨rfl, _, rfl⟩
  · rw [if_neg hr0]
    have hsn : ((if n = true then (-1 : Int) else 1) = 0) = False := by cases n <;> simp
    simp only [hsn, E3, seval]
    refine (a0K (canZ (sgn n r)) ((a0l hrz).mono (by omega))).dcall ?_
    rw [a0o, hrs, if_neg hr0]
    simp only [E3, seval]
    have hcall := a0K ⟨m, b⟩ (hzb.mono (by omega))
    simp only [ZI.av, ZI.z, hbs] at hcall
    refine hcall.dcall ?_
    by_cases hnm : n = m
    · have hs := hsame (.inr hnm)
      have he : ((if n = true then (-1 : Int) else 1) = (if m = true then (-1 : Int) else 1)) = True := by subst hnm; simp
      simp only [he, E3, seval]
      refine Safe.cd rfl ?_
      simp only [E3, seval]
      refine Safe.rx rfl (by simp only [a4w, a6k, a4A, E3, seval]) ?_
      simp only [a4q, a3r, a3q, E3, seval]
      refine Safe.rt rfl ?_
      simp only [E3, seval]
      rw [hs.1, hs.2]
      exact ⟨rfl, _, rfl⟩
    · have hs := hother hr0 hnm
      have he : ((if n = true then (-1 : Int) else 1) = (if m = true then (-1 : Int) else 1)) = False := by cases n <;> cases m <;> simp_all
      simp only [he, E3, seval]
      refine Safe.cd rfl ?_
      simp only [E3, seval]
      refine Safe.rg rfl ?_
      simp only [b3a, E3, seval]
      refine (a0Q 1 (by decide) (by decide)).dcall ?_
      simp only [E3, seval]
      refine (e0B (a := sgn (!(n == m)) q) (b := 1) (k := k + 1) (Nat.lt_of_lt_of_le hqz (d5M (by omega))) (e5H k) (by omega)).dcall ?_
      simp only [E3, seval]
      refine Safe.rg rfl ?_
      simp only [b2Z, E3, seval]
      have hcall := b8R (canZ (sgn n r)) ⟨m, b⟩ k (a0l hrz) hzb (by omega)
      rw [a2A, a0o] at hcall
      simp only [ZI.av, ZI.z] at hcall
      refine hcall.acall ?_
      simp only [E3, seval]
      refine Safe.rx rfl (by simp only [a4w, a6k, a4A, E3, seval]) ?_
      simp only [a4q, a3r, a3q, E3, seval]
      refine Safe.rt rfl ?_
      simp only [E3, seval]
      rw [hs.1, hs.2]
      exact ⟨rfl, _, rfl⟩
end Go.Abs
namespace Go.Abs
/-- A rational in lowest terms as it is handed round. -/
def Rv (q : Rat) : AV := .agg [.bool (decide (q.num < 0)), natV (limbs q.num.natAbs), .bool false, natV (limbs q.den)]
structure Rok (k : Nat) (q : Rat) : Prop where
  num : q.num.natAbs < LB ^ k
  den : q.den < LB ^ k
theorem Rok.mono {k l : Nat} {q : Rat} (h : Rok k q) (hl : k ≤ l) : Rok l q := ⟨Nat.lt_of_lt_of_le h.num (d5M hl), Nat.lt_of_lt_of_le h.den (d5M hl)⟩
def dZ (d : Nat) : ZI := ⟨false, limbs d⟩
theorem dZ_z (d : Nat) : (dZ d).z = (d : Int) := by simp only [dZ, ZI.z, a0b]; rfl
theorem b9C {k d : Nat} (h : d < LB ^ k) : Zok k (dZ d) := ⟨a0c _, a0j h⟩
theorem a5n (q : Rat) : Cl (Rv q) := .agg _ fun c hc => by
  simp only [List.mem_cons, List.not_mem_nil, or_false] at hc
  rcases hc with rfl | rfl | rfl | rfl
  · exact .bool _
  · exact a0X _
  · exact .bool _
  · exact a0X _
theorem a0H (q : Rat) : (Rv q).cells = [.bool (decide (q.num < 0)), natV (limbs q.num.natAbs), .bool false, natV (limbs q.den)] := rfl
theorem a3g (q : Rat) : (Rv q).fit = true := rfl
theorem e9F (id : Nat) (b : Blk) (q : Rat) : frz id b (Rv q) = Rv q := a3I (a5n q)
theorem a0z : (0 < 4) = True := by decide
theorem e6o {n : Int} {g : Nat} (h : g ∣ n.natAbs) : sgn (decide (n < 0)) (n.natAbs / g) = n / (g : Int) := by
  obtain ⟨c, hc⟩ := h
  rcases Nat.eq_zero_or_pos g with rfl | hg
  · simp [sgn]
  rw [hc, Nat.mul_div_cancel_left _ hg]
  have hg' : (g : Int) ≠ 0 := by omega
  by_cases h0 : n < 0
  · have : n = (g : Int) * -(c : Int) := by
      have : (n.natAbs : Int) = (g : Int) * (c : Int) := by rw [hc]; exact Int.natCast_mul _ _
      rw [Int.mul_neg]; omega
    rw [decide_eq_true h0, this, Int.mul_ediv_cancel_left _ hg']
    simp [sgn]
  · have : n = (g : Int) * (c : Int) := by
      have : (n.natAbs : Int) = (g : Int) * (c : Int) := by rw [hc]; exact Int.natCast_mul _ _
      omega
    rw [decide_eq_false h0, this, Int.mul_ediv_cancel_left _ hg']
    simp [sgn]
theorem a8I (x y : ZI) (k : Nat) (hx : Zok k x) (hy : Zok k y) (hk : k < 17592186044000) (hy0 : y.z ≠ 0) : a0d Pr a2C [x.av, y.av] (Rv (Rat.divInt x.z y.z)) := by
  have hax := hx.abs
  have hay := hy.abs
  refine a0d.intro c9U c9T (Nat.le_of_ble_eq_true rfl) (a5n _) fun H hH => ?_
  refine Safe.rg rfl ?_
  simp only [b5T, a0z, E3, seval]
  refine Safe.rg rfl ?_
  simp only [b5S, E3, seval]
  first | refine (a3a x (hx.mono (by omega))).acall ?_ | refine (a3a x (hx.mono (by omega))).dcall ?_
  try simp only [E3, seval]
  refine Safe.rg rfl ?_
  simp only [b5R, E3, seval]
  first | refine (a3a y (hy.mono (by omega))).acall ?_ | refine (a3a y (hy.mono (by omega))).dcall ?_
  try simp only [E3, seval]
  have main : ∀ a b : Int, 0 < b → a.natAbs < LB ^ k → b.natAbs < LB ^ k → Rat.divInt a b = Rat.divInt x.z y.z → Safe ⟨Pr, fun _ _ => false, a2C, 54, [.cell 4 (some 4)], H.length⟩
      [.code ((ACode.region a8p false).seq ((ACode.region a8o false).seq ((ACode.region a8n false).seq ((ACode.region a8m false).seq .ret))))]
      [(4, .loc (lid H 2) 0 0), (5, .loc (lid H 3) 0 0), (6, .loc (lid H 4) 0 0)]
      (hap H [some ⟨2, [x.av]⟩, some ⟨2, [y.av]⟩, some ⟨4, [.agg [.bool false, .nil, .bool false, .nil]]⟩, some ⟨2, [Z a]⟩, some ⟨2, [Z b]⟩]) fun r' H' => r' = Rv (Rat.divInt x.z y.z) ∧ ∃ L, H' = hap H L := by
    intro a b hb ha1 hb1 he
    have hla : (limbs a.natAbs).length ≤ k := a0j ha1
    have hlb : (limbs b.natAbs).length ≤ k := a0j hb1
    have hg0 : Nat.gcd a.natAbs b.natAbs ≠ 0 := fun h => by
      have := Nat.gcd_eq_zero_iff.1 h
      omega
    have hnum := Rat.num_divInt a b
    have hden := Rat.den_divInt a b
    rw [Int.sign_eq_one_of_pos hb, Int.one_mul, Int.gcd, Nat.gcd_comm] at hnum
    rw [if_neg (by omega), Int.gcd, Nat.gcd_comm] at hden
    have hgl : (limbs (Nat.gcd a.natAbs b.natAbs)).length ≤ k := a0j (d7o ha1 hb1)
    have hs := e6o (n := a) (Nat.gcd_dvd_left a.natAbs b.natAbs)
    rw [← hnum] at hs
    rw [← he]
    refine Safe.rg rfl ?_
    simp only [a8p, E3, seval]
    first | refine (a8c (limbs a.natAbs) (limbs b.natAbs) ⟨a0c _, by omega⟩ ⟨a0c _, by omega⟩ (by omega) (by omega)).acall ?_ | refine (a8c (limbs a.natAbs) (limbs b.natAbs) ⟨a0c _, by omega⟩ ⟨a0c _, by omega⟩ (by omega) (by omega)).dcall ?_
    try simp only [E3, seval]
    simp only [a0b]
    refine Safe.rg rfl ?_
    simp only [a8o, E3, seval]
    first | refine (a2s (limbs a.natAbs) (limbs (Nat.gcd a.natAbs b.natAbs)) ⟨a0c _, by omega⟩ ⟨a0c _, by omega⟩ (by omega) (by omega) (by rw [a0b]; exact hg0)).acall ?_ | refine (a2s (limbs a.natAbs) (limbs (Nat.gcd a.natAbs b.natAbs)) ⟨a0c _, by omega⟩ ⟨a0c _, by omega⟩ (by omega) (by omega) (by rw [a0b]; exact hg0)).dcall ?_
    try simp only [E3, seval]
    simp only [a0b]
    refine Safe.rg rfl ?_
    simp only [a8n, E3, seval]
    first | refine (a2s (limbs b.natAbs) (limbs (Nat.gcd a.natAbs b.natAbs)) ⟨a0c _, by omega⟩ ⟨a0c _, by omega⟩ (by omega) (by omega) (by rw [a0b]; exact hg0)).acall ?_ | refine (a2s (limbs b.natAbs) (limbs (Nat.gcd a.natAbs b.natAbs)) ⟨a0c _, by omega⟩ ⟨a0c _, by omega⟩ (by omega) (by omega) (by rw [a0b]; exact hg0)).dcall ?_
    try simp only [E3, seval]
    simp only [a0b]
    rw [← hden]
    have hna : a.natAbs / Nat.gcd a.natAbs b.natAbs < LB ^ k := Nat.lt_of_le_of_lt (Nat.div_le_self _ _) ha1
    have hcall := a3a ⟨decide (a < 0), limbs (a.natAbs / Nat.gcd a.natAbs b.natAbs)⟩ (b9C hna |>.mono (by omega) |> fun h => ⟨h.lim, h.len⟩)
    simp only [ZI.z, a0b, hs] at hcall
    refine Safe.rg rfl ?_
    simp only [a8m, E3, seval]
    refine hcall.acall ?_
    simp only [Z, E3, seval]
    refine Safe.rt rfl ?_
    simp only [E3, seval]
    first | exact ⟨rfl, _, rfl⟩ | exact ⟨_, rfl⟩ | exact ⟨trivial, _, rfl⟩
  have hfrom : ∀ a b : Int, a.natAbs < LB ^ k → b.natAbs < LB ^ k → Zok 17592186044416 (canZ a) := fun a b h _ => (a0l h).mono (by omega)
  refine Safe.rg rfl ?_
  simp only [b5Q, E3, seval]
  refine (a0K (canZ y.z) ((a0l hay).mono (by omega))).acall ?_
  rw [a0o]
  by_cases hneg : y.z < 0
  · have hc : (y.z.sign < 0) = True := eq_true (Int.sign_neg_iff.2 hneg)
    simp only [hc, E3, seval]
    refine Safe.cd rfl ?_
    simp only [E3, seval]
    refine Safe.rg rfl ?_
    simp only [b5P, E3, seval]
    refine (b1L (canZ x.z) ((a0l hax).mono (by omega))).acall ?_
    rw [a0o]
    simp only [E3, seval]
    refine Safe.rg rfl ?_
    simp only [b5O, E3, seval]
    refine (b1L (canZ y.z) ((a0l hay).mono (by omega))).acall ?_
    rw [a0o]
    simp only [E3, seval]
    refine Safe.keep [4, 5, 6] ?_
    simp only [E3, seval]
    exact main (-x.z) (-y.z) (by omega) (by rw [Int.natAbs_neg]; exact hax) (by rw [Int.natAbs_neg]; exact hay) (Rat.neg_divInt_neg _ _)
  · have hc : (y.z.sign < 0) = False := eq_false fun h => hneg (Int.sign_neg_iff.1 h)
    simp only [hc, E3, seval]
    refine Safe.cd rfl ?_
    simp only [E3, seval]
    refine Safe.keep [4, 5, 6] ?_
    simp only [E3, seval]
    refine Safe.skip ?_
    exact main x.z y.z (by omega) hax hay rfl
theorem c7w : a0d Pr b4O [] (Z 1) := by
  refine a0d.intro d1Y d1X (Nat.le_of_ble_eq_true rfl) (Z_cl _) fun H hH => ?_
  refine Safe.rg rfl ?_
  simp only [c0e, E3, seval]
  refine Safe.rg rfl ?_
  simp only [c0d, E3, seval]
  first | refine (a0Q 1 (by decide) (by decide)).acall ?_ | refine (a0Q 1 (by decide) (by decide)).dcall ?_
  try simp only [E3, seval]
  refine Safe.rt rfl ?_
  simp only [E3, seval]
  first | exact ⟨rfl, _, rfl⟩ | exact ⟨_, rfl⟩ | exact ⟨trivial, _, rfl⟩
theorem a7B (x : ZI) (hx : Zok 17592186044416 x) : a0d Pr a4g [x.av] (Rv (x.z : Rat)) := by
  refine a0d.intro d4S d4R (Nat.le_of_ble_eq_true rfl) (a5n _) fun H hH => ?_
  refine Safe.rg rfl ?_
  simp only [c4u, a0z, E3, seval]
  refine Safe.rg rfl ?_
  simp only [c4t, E3, seval]
  first | refine (a3a x hx).acall ?_ | refine (a3a x hx).dcall ?_
  try simp only [E3, seval]
  first | refine (c7w).acall ?_ | refine (c7w).dcall ?_
  try simp only [E3, seval]
  have h1 : limbs 1 = limbs (Int.natAbs 1) := rfl
  have h2 : (decide ((1 : Int) < 0)) = false := rfl
  simp only [Z, E3, seval]
  refine Safe.rt rfl ?_
  simp only [E3, seval]
  first | exact ⟨rfl, _, rfl⟩ | exact ⟨_, rfl⟩ | exact ⟨trivial, _, rfl⟩
section
variable (a b : Rat) {k l : Nat} (ha : Rok k a) (hb : Rok l b) (hkl : k + l < 17592186043000)
include ha hb hkl
theorem d8z : a0d Pr b4R [Rv a, Rv b] (Rv (a + b)) := by
  have h1 := a4b ha.num (show (b.den : Int).natAbs < LB ^ l from hb.den)
  have h2 := a4b hb.num (show (a.den : Int).natAbs < LB ^ k from ha.den)
  have h3 := a4b (show (a.den : Int).natAbs < LB ^ k from ha.den) (show (b.den : Int).natAbs < LB ^ l from hb.den)
  rw [Nat.add_comm l k] at h2
  have h4 := e2M h1 h2
  refine a0d.intro d2j d2i (Nat.le_of_ble_eq_true rfl) (a5n _) fun H hH => ?_
  simp only [Rv]
  refine Safe.rg rfl ?_
  simp only [c0q, a0z, E3, seval]
  refine Safe.rg rfl ?_
  simp only [c0p, E3, seval]
  have hm := a2J (canZ a.num) (dZ b.den) k l (a0l ha.num) (b9C hb.den) (by omega)
  rw [a0o, dZ_z] at hm
  refine hm.acall ?_
  simp only [E3, seval]
  refine Safe.rg rfl ?_
  simp only [c0o, E3, seval]
  have hm := a2J (canZ b.num) (dZ a.den) l k (a0l hb.num) (b9C ha.den) (by omega)
  rw [a0o, dZ_z] at hm
  refine hm.acall ?_
  simp only [E3, seval]
  refine Safe.rg rfl ?_
  simp only [c0n, E3, seval]
  refine (e0C h1 h2 (by omega)).dcall ?_
  simp only [E3, seval]
  have hm := a2J (dZ a.den) (dZ b.den) k l (b9C ha.den) (b9C hb.den) (by omega)
  rw [dZ_z, dZ_z] at hm
  refine hm.dcall ?_
  simp only [E3, seval]
  have hm := a8I (canZ (a.num * b.den + b.num * a.den)) (canZ (a.den * b.den)) (k + l + 1) (a0l h4) (a0l h3 |>.mono (by omega)) (by omega) (by
    rw [a0o]
    have h1 := a.den_nz
    have h2 := b.den_nz
    exact Int.mul_ne_zero (by omega) (by omega))
  rw [a2A, a2A, a0o, a0o, ← Int.natCast_mul, Rat.divInt_ofNat, ← Rat.add_def', Int.natCast_mul] at hm
  refine hm.dcall ?_
  simp only [Rv, E3, seval]
  refine Safe.rt rfl ?_
  simp only [E3, seval]
  first | exact ⟨rfl, _, rfl⟩ | exact ⟨_, rfl⟩ | exact ⟨trivial, _, rfl⟩
theorem c7x : a0d Pr a9w [Rv a, Rv b] (Rv (a * b)) := by
  have h1 := a4b ha.num hb.num
  have h3 := a4b (show (a.den : Int).natAbs < LB ^ k from ha.den) (show (b.den : Int).natAbs < LB ^ l from hb.den)
  refine a0d.intro d2e d2d (Nat.le_of_ble_eq_true rfl) (a5n _) fun H hH => ?_
  simp only [Rv]
  refine Safe.rg rfl ?_
  simp only [c0k, a0z, E3, seval]
  refine Safe.rg rfl ?_
  simp only [c0j, E3, seval]
  refine (c4B ha.num hb.num (by omega)).dcall ?_
  simp only [E3, seval]
  have hm := a2J (dZ a.den) (dZ b.den) k l (b9C ha.den) (b9C hb.den) (by omega)
  rw [dZ_z, dZ_z] at hm
  refine hm.dcall ?_
  simp only [E3, seval]
  have hm := a8I (canZ (a.num * b.num)) (canZ (a.den * b.den)) (k + l) (a0l h1) (a0l h3) (by omega) (by
    rw [a0o]
    have h1 := a.den_nz
    have h2 := b.den_nz
    exact Int.mul_ne_zero (by omega) (by omega))
  rw [a2A, a2A, a0o, a0o, ← Int.natCast_mul, Rat.divInt_ofNat, ← Rat.mul_def', Int.natCast_mul] at hm
  refine hm.dcall ?_
  simp only [Rv, E3, seval]
  refine Safe.rt rfl ?_
  simp only [E3, seval]
  first | exact ⟨rfl, _, rfl⟩ | exact ⟨_, rfl⟩ | exact ⟨trivial, _, rfl⟩
omit ha hb hkl in
theorem d8w (b0 : b ≠ 0) : Rat.divInt (a.num * b.den) (a.den * b.num) = a / b := by
  have h1 : (a.den : Int) ≠ 0 := by have := a.den_nz; omega
  have h2 : b.num ≠ 0 := fun h => b0 (Rat.num_eq_zero.1 h)
  rw [← Rat.divInt_mul_divInt, Rat.num_divInt_den, Rat.div_def, Rat.inv_def]
theorem d8y (b0 : b ≠ 0) : a0d Pr b4Q [Rv a, Rv b] (Rv (a / b)) := by
  have h1 := a4b ha.num (show (b.den : Int).natAbs < LB ^ l from hb.den)
  have h3 := a4b (show (a.den : Int).natAbs < LB ^ k from ha.den) hb.num
  refine a0d.intro d2h d2g (Nat.le_of_ble_eq_true rfl) (a5n _) fun H hH => ?_
  simp only [Rv]
  refine Safe.rg rfl ?_
  simp only [c0m, a0z, E3, seval]
  refine Safe.rg rfl ?_
  simp only [c0l, E3, seval]
  have hm := a2J (canZ a.num) (dZ b.den) k l (a0l ha.num) (b9C hb.den) (by omega)
  rw [a0o, dZ_z] at hm
  refine hm.dcall ?_
  simp only [E3, seval]
  have hm := a2J (dZ a.den) (canZ b.num) k l (b9C ha.den) (a0l hb.num) (by omega)
  rw [dZ_z, a0o] at hm
  refine hm.dcall ?_
  simp only [E3, seval]
  have hm := a8I (canZ (a.num * b.den)) (canZ (a.den * b.num)) (k + l) (a0l h1) (a0l h3) (by omega) (by
    rw [a0o]
    have h1 := a.den_nz
    exact Int.mul_ne_zero (by omega) fun h => b0 (Rat.num_eq_zero.1 h))
  rw [a2A, a2A, a0o, a0o, d8w a b b0] at hm
  refine hm.dcall ?_
  simp only [Rv, E3, seval]
  refine Safe.rt rfl ?_
  simp only [E3, seval]
  first | exact ⟨rfl, _, rfl⟩ | exact ⟨_, rfl⟩ | exact ⟨trivial, _, rfl⟩
end
theorem e0u {k : Nat} {a : Rat} (h : Rok k a) : Rok k (-a) := ⟨by rw [Rat.neg_num, Int.natAbs_neg]; exact h.num, h.den⟩
theorem b8Q (a : Rat) {k : Nat} (ha : Rok k a) (hk : k < 17592186044000) : a0d Pr a5W [Rv a] (Rv (-a)) := by
  refine a0d.intro d2c d2b (Nat.le_of_ble_eq_true rfl) (a5n _) fun H hH => ?_
  simp only [Rv]
  refine Safe.rg rfl ?_
  simp only [c0i, a0z, E3, seval]
  refine Safe.rg rfl ?_
  simp only [c0h, E3, seval]
  have hm := b1L (canZ a.num) ((a0l ha.num).mono (by omega))
  rw [a0o] at hm
  refine hm.dcall ?_
  simp only [E3, seval]
  have hm := a8I (canZ (-a.num)) (dZ a.den) k (a0l (by rw [Int.natAbs_neg]; exact ha.num)) (b9C ha.den) hk (by
    rw [dZ_z]
    have h1 := a.den_nz
    omega)
  rw [a2A, a0o, dZ_z, ← Rat.neg_divInt, Rat.num_divInt_den] at hm
  refine hm.dcall ?_
  simp only [Rv, E3, seval]
  refine Safe.rt rfl ?_
  simp only [E3, seval]
  first | exact ⟨rfl, _, rfl⟩ | exact ⟨_, rfl⟩ | exact ⟨trivial, _, rfl⟩
theorem d8x (a b : Rat) {k l : Nat} (ha : Rok k a) (hb : Rok l b) (hkl : k + l < 17592186043000) : a0d Pr b4P [Rv a, Rv b] (Rv (a - b)) := by
  refine a0d.intro d2a d1Z (Nat.le_of_ble_eq_true rfl) (a5n _) fun H hH => ?_
  refine Safe.rg rfl ?_
  simp only [c0g, a0z, a0H, a3g, E3, seval]
  refine Safe.rg rfl ?_
  simp only [c0f, a0H, a3g, E3, seval]
  refine (b8Q b hb (by omega)).dcall ?_
  simp only [a0H, a3g, E3, seval]
  have hm := d8z a (-b) ha (e0u hb) hkl
  rw [← Rat.sub_eq_add_neg] at hm
  refine hm.dcall ?_
  simp only [Rv, E3, seval]
  refine Safe.rt rfl ?_
  simp only [E3, seval]
  first | exact ⟨rfl, _, rfl⟩ | exact ⟨_, rfl⟩ | exact ⟨trivial, _, rfl⟩
theorem b1H (a : Rat) {k : Nat} (ha : Rok k a) (hk : k < 17592186044000) : a0d Pr a6H [Rv a] (.bool (decide (a = 0))) := by
  have he : decide (a.num.sign = 0) = decide (a = 0) := decide_eq_decide.2 (by rw [Int.sign_eq_zero_iff_zero, Rat.num_eq_zero])
  refine a0d.intro c9x c9w (Nat.le_of_ble_eq_true rfl) (.bool _) fun H hH => ?_
  simp only [Rv]
  refine Safe.rg rfl ?_
  simp only [b5m, a0z, E3, seval]
  refine Safe.rg rfl ?_
  simp only [b5l, E3, seval]
  refine (a0K (canZ a.num) ((a0l ha.num).mono (by omega))).acall ?_
  rw [a0o]
  simp only [he, E3, seval]
  refine Safe.rt rfl ?_
  simp only [E3, seval]
  first | exact ⟨rfl, _, rfl⟩ | exact ⟨_, rfl⟩ | exact ⟨trivial, _, rfl⟩
end Go.Abs
namespace Go.Abs
theorem e5S {G : Heap} (hG : a0F G) {n0 : Nat} (hn : n0 ≤ lid G 0) {env : Env} {wd bytes k : Nat} {f : Nat → AV} {y : AV} (hf : ∀ x, Cl (f x)) (hy : y = f k) (hb : (k + 1) * bytes ≤ 140737488355328) (hbb : k + 1 ≤ 9223372036854775807) :
    appV n0 wd bytes false (.mu (lid G 0) 0 k none) (.sl wd [y]) env (hap G [some ⟨wd, fr k f⟩]) = some (.mu (lid G 0) 0 (k + 1) none, scrub (lid G 0) env, hap G [some ⟨wd, fr (k + 1) f⟩]) := by
  have := b1A (H := G) hG (L := [some ⟨wd, (List.range k).map f⟩]) 0 hn (env := env) (wd := wd) (bytes := bytes) hf (List.range k) k (List.range (k + 1)) (y := y) (len := k) (List.length_range).symm rfl (RC.row hf .nil) hy List.range_succ hb hbb
  exact this
theorem a3Z {id j off len : Nat} {oc : Option Nat} (h : j ≠ id) : nref id (.mu j off len oc) = true := a0B.2 (.mu _ _ _ _ h)
theorem d8v (b : List (List ZI)) {c : Nat} (hc : ∀ i, (h : i < b.length) → b[i].length = c) (hnb : b.length ≤ 2097152) (hcb : c ≤ 2097152) (hz : Mok 17592186044416 b) (H : Heap) :
    a0k Pr b1D [matV b] H fun r' H' => r' = .mu (lid H 0) 0 b.length none ∧ H' = hap H (a0R (lid H 0) b.length 4 c none fun j k => Rv (zg (mg b j) k : Int)) := by
  refine a0k.introH c9C c9z (Nat.le_of_ble_eq_true rfl) fun hH => ?_
  have hS : ∀ (j k : Nat), Cl ((fun (j k : Nat) => Rv ((zg (mg b j) k : Int) : Rat)) j k) := fun _ _ => a5n _
  generalize hSd : (fun (j k : Nat) => Rv ((zg (mg b j) k : Int) : Rat)) = S at *
  refine Safe.rg rfl ?_
  simp only [b5u, E3, seval]
  refine Safe.rg rfl ?_
  simp only [b5t, E3, seval]
  refine Safe.nilrow 3 1 (by decide) (by simp only [E3, seval]) ?_
  refine Safe.rg rfl ?_
  simp only [b5s, E3, seval]
  refine Safe.lp rfl ?_
  refine Safe.keep [0, 3, 4] ?_
  try simp only [E3, seval]
  refine Safe.loopN (b.length) (fun i => [(0, matV b), (3, .mu (lid H 0) 0 i none), (4, .int .i64 i)]) (fun i => hap H (a0R (lid H 0) i 4 c none S)) rfl rfl (fun i hi ih => ?_) ?_
  · have hlt : ((i : Int) < (b.length : Int)) = True := eq_true (by omega)
    have hbc := hc i hi
    have hiw : IntKind.wrap .i64 ((i : Int) + 1) = ((i + 1 : Nat) : Int) := by rw [a0a] <;> omega
    refine Safe.inLoop ?_
    refine Safe.rg rfl ?_
    simp only [a8f, hlt, E3, seval]
    refine Safe.cd rfl ?_
    simp only [E3, seval]
    have hGr : a0F (hap H (a0R (lid H 0) i 4 c none S)) := a5r (X := []) hH (by simp) fun j k _ _ => hS j k
    have hG0 : (hap H (a0R (lid H 0) i 4 c none S))[lid H 0]? = some (some ⟨1, orow (lid H 0) i c none fun i => i⟩) := by
      simp only [hap, lid]; rw [List.getElem?_append_right (by omega)]; simp [a0R, lid]
    have hGl : (hap H (a0R (lid H 0) i 4 c none S)).length = lid H 0 + 1 + i := by simp [hap, lid, a3u]; omega
    have hsucc := c8M H i 4 c none S
    have hGf : Free (hap H (a0R (lid H 0) i 4 c none S)) (lid H 0) := c8N (X := []) hH (by simp) fun j k _ _ => hS j k
    rw [← a1F (hap H (a0R (lid H 0) i 4 c none S))]
    generalize hap H (a0R (lid H 0) i 4 c none S) = G at *
    have hn0 : H.length ≤ lid G 0 := by simp only [lid] at hGl ⊢; omega
    have hne : lid H 0 ≠ lid G 0 := by simp only [lid] at hGl ⊢; omega
    have hnr1 : nref (lid G 0) (.mu (lid H 0) 0 i none) = true := a3Z hne
    refine Safe.rg rfl ?_
    simp only [b5r, E3, seval]
    refine Safe.nilrow 5 4 (by decide) (by simp only [E3, seval]) ?_
    refine Safe.rg rfl ?_
    simp only [b5q, E3, seval]
    refine Safe.lp rfl ?_
    refine Safe.keep [0, 3, 4, 5, 6] ?_
    try simp only [E3, seval]
    refine Safe.loopN c (fun k => [(0, matV b), (3, .mu (lid H 0) 0 i none), (4, .int .i64 i), (5, .mu (lid G 0) 0 k none), (6, .int .i64 k)]) (fun k => hap G [some ⟨4, fr k (S i)⟩]) rfl rfl (fun k hk ihk => ?_) ?_
    · have hlt : ((k : Int) < (b[i].length : Int)) = True := eq_true (by omega)
      have hkb : k < b[i].length := by omega
      have hkw : IntKind.wrap .i64 ((k : Int) + 1) = ((k + 1 : Nat) : Int) := by rw [a0a] <;> omega
      refine Safe.inLoop ?_
      refine Safe.rg rfl ?_
      simp only [a8e, a1W _ b _ i hi, hlt, E3, seval]
      refine Safe.cd rfl ?_
      simp only [E3, seval]
      refine Safe.rg rfl ?_
      simp only [b5p, a1W _ b _ i hi, a1h _ b[i] _ k hkb, E3, seval]
      first | refine (a7B b[i][k] ((hz.get hi).el _ (List.getElem_mem hkb))).acall ?_ | refine (a7B b[i][k] ((hz.get hi).el _ (List.getElem_mem hkb))).dcall ?_
      try simp only [E3, seval]
      have hy : Rv ((b[i][k].z : Int) : Rat) = S i k := by rw [← hSd]; simp only [a3v hi, b0k hkb]
      simp only [a3g, a0H, a0z, E3, seval]
      rw [e5S hGr hn0 (hS i) hy (by omega) (by omega)]
      simp only [hnr1, E3, seval]
      refine Safe.rg rfl ?_
      simp only [b5o, hkw, E3, seval]
      refine Safe.keep [0, 3, 4, 5, 6] ?_
      simp only [E3, seval]
      exact ihk
    · refine Safe.inLoop ?_
      refine Safe.rg rfl ?_
      simp only [a8e, a1W _ b _ i hi, hbc, Int.lt_irrefl, E3, seval]
      refine Safe.cd rfl ?_
      simp only [E3, seval]
      refine Safe.rg rfl ?_
      simp only [b5n, E3, seval]
      rw [e2G (ys := [.mu (lid G 0) 0 c none]) hG0 (a1q H 0) (by simp [orow, b7O]) (by simp [a0S, a1k]) (by simp)
        (d7u hGf (by
          intro b hb a ha
          simp at hb
          rcases hb with rfl | rfl
          · exact (a4d (fun k _ => hS i k) a ha).ref
          · simp [Blk.flat, AV.cells] at ha; subst ha; exact .mu _ _ _ _ (Ne.symm hne)))
        (by intro a ha; simp [AV.cells] at ha; subst ha; exact .mu _ _ _ _ (Ne.symm hne))
        (fun a ha => b7f (fun j hj => by show _ ≠ _; omega) a ha) (by simp; omega) (by simp; omega)]
      simp only [hnr1, E3, seval]
      refine Safe.rg rfl ?_
      simp only [b2t, hiw, E3, seval]
      refine Safe.keep [0, 3, 4] ?_
      simp only [E3, seval]
      have e2 : ∀ o, hap (G.set (lid H 0) (some ⟨1, orow (lid H 0) i c none (fun i => i) ++ [.mu (lid G 0) 0 c none]⟩)) [some ⟨4, fr c (S i)⟩, o] = hap (hap H (a0R (lid H 0) (i + 1) 4 c none S)) ([] ++ [o]) := by
        intro o
        rw [← hsucc]; simp [hap]
      rw [e2]
      have hGl2 : (hap H (a0R (lid H 0) (i + 1) 4 c none S)).length = lid H 0 + 1 + (i + 1) := by simp [hap, lid, a3u]; omega
      refine Safe.dropG (a5r (X := []) hH (by simp) fun j k _ _ => hS j k) (by show H.length ≤ _; have := a1q H 0; rw [hGl2]; omega) ?_ (by simp) ?_
      · have hnr2 : nref (lid (hap H (a0R (lid H 0) (i + 1) 4 c none S)) 0) (.mu (lid H 0) 0 (i + 1) none) = true := a3Z (by have : lid (hap H (a0R (lid H 0) (i + 1) 4 c none S)) 0 = lid H 0 + 1 + (i + 1) := hGl2; omega)
        simp only [List.all_cons, List.all_nil, List.length_nil, hnr2, E3, seval]
      · rw [a1F]
        exact ih
  · refine Safe.inLoop ?_
    refine Safe.rg rfl ?_
    simp only [a8f, Int.lt_irrefl, E3, seval]
    refine Safe.cd rfl ?_
    simp only [E3, seval]
    refine Safe.rg rfl ?_
    simp only [b2r, E3, seval]
    refine Safe.rt rfl ?_
    simp only [E3, seval]
end Go.Abs
namespace Go.Abs
/-- Row j up to a place told anew. -/
def a4M (S : Nat → Nat → AV) (j : Nat) (f : Nat → AV) (t : Nat) : Nat → Nat → AV := fun a b => if a = j ∧ b < t then f b else S a b
theorem c8Q (S : Nat → Nat → AV) (j : Nat) (f : Nat → AV) : a4M S j f 0 = S := by funext a b; simp [a4M]
theorem d7c (S : Nat → Nat → AV) (j : Nat) (f : Nat → AV) (t : Nat) : a4M S j f t j t = S j t := by simp [a4M]
theorem d0x {S : Nat → Nat → AV} {j a : Nat} {f : Nat → AV} {t b : Nat} (h : a ≠ j) : a4M S j f t a b = S a b := by simp [a4M, h]
theorem c8R (S : Nat → Nat → AV) (j : Nat) (f : Nat → AV) (t : Nat) : upd2 (a4M S j f t) j t (f t) = a4M S j f (t + 1) := by
  funext a b
  unfold upd2 a4M
  by_cases h1 : a = j
  · subst h1
    by_cases h2 : b = t
    · subst h2; simp
    · by_cases h3 : b < t
      · rw [if_pos rfl, if_neg h2, if_pos ⟨rfl, h3⟩, if_pos ⟨rfl, by omega⟩]
      · rw [if_pos rfl, if_neg h2, if_neg (by omega), if_neg (by omega)]
  · rw [if_neg h1, if_neg (by omega), if_neg (by omega)]
theorem d0y {S : Nat → Nat → AV} {j : Nat} {f : Nat → AV} {t : Nat} (hS : ∀ a b, Cl (S a b)) (hf : ∀ b, Cl (f b)) : ∀ a b, Cl (a4M S j f t a b) := by
  intro a b; unfold a4M; split
  · exact hf b
  · exact hS a b
theorem e6s {a b : Rat} {k l : Nat} (ha : Rok k a) (hb : Rok l b) : Rok (k + l) (a * b) := by
  constructor
  · rw [Rat.num_mul, Int.natAbs_ediv_of_dvd]
    · exact Nat.lt_of_le_of_lt (Nat.div_le_self _ _) (a4b ha.num hb.num)
    · exact Int.ofNat_dvd_left.2 (Nat.gcd_dvd_left _ _)
  · rw [Rat.den_mul, e1r]
    exact Nat.lt_of_le_of_lt (Nat.div_le_self _ _) (Nat.mul_lt_mul'' ha.den hb.den)
section
variable {G : Heap} {β n c : Nat} {oc oc' : Option Nat} {π : Nat → Nat} {S : Nat → Nat → AV} (hG : β + n < G.length)
include hG
theorem d9o {M : Nat → Nat → Rat} {K i k : Nat} (q : Rat) (hi : i < n) (hk : k < n) (hik : π k ≠ π i) (hπ : ∀ a, a < n → π a < n) (hS : ∀ a b, a < n → b < c → S (π a) b = Rv (M a b)) (hcl : ∀ a b, Cl (S a b))
    (hMs : ∀ a b, a < n → b < c → Rok K (M a b)) (hq : Rok K q) (hK : K + (K + K) < 17592186043000) (hc : c ≤ 2097152) (hn : n ≤ 2097152) :
    a0k Pr a6I [.mu β 0 n oc', .int .i64 i, .int .i64 k, Rv q] (hM G β n 4 c oc π S) fun r' H' => r' = .tup [] ∧ H' = hM G β n 4 c oc π (a4M S (π i) (fun b => Rv (M i b - q * M k b)) c) := by
  refine a0k.eff c9F c9D (Nat.le_of_ble_eq_true rfl) fun hH => ?_
  have hpi := hπ i hi
  have hpk := hπ k hk
  refine Safe.rg rfl ?_
  simp only [b5y, a1B, a0y, a0J, a0L, a3g, a0H, a0z, E3, seval]
  refine Safe.rg rfl ?_
  simp only [b5x, E3, seval]
  refine Safe.lp rfl ?_
  refine Safe.keep [0, 1, 2, 7, 8] ?_
  try simp only [E3, seval]
  refine Safe.loopN c (fun t => [(0, .mu β 0 n oc'), (1, .int .i64 i), (2, .int .i64 k), (7, .loc (lid G 0) 0 0), (8, .int .i64 t)]) (fun t => hap (hM G β n 4 c oc π (a4M S (π i) (fun b => Rv (M i b - q * M k b)) t)) [some ⟨4, [Rv q]⟩]) rfl ?_ (fun t ht ih => ?_) ?_
  · rw [c8Q]
  · have hlt : ((t : Int) < (c : Int)) = True := eq_true (by omega)
    have htw : IntKind.wrap .i64 ((t : Int) + 1) = ((t + 1 : Nat) : Int) := by rw [a0a] <;> omega
    have v1 : a4M S (π i) (fun b => Rv (M i b - q * M k b)) t (π i) t = Rv (M i t) := by rw [d7c, hS i t hi ht]
    have v2 : a4M S (π i) (fun b => Rv (M i b - q * M k b)) t (π k) t = Rv (M k t) := by rw [d0x hik, hS k t hk ht]
    have hsucc := c8R S (π i) (fun b => Rv (M i b - q * M k b)) t
    generalize a4M S (π i) (fun b => Rv (M i b - q * M k b)) t = St at *
    refine Safe.inLoop ?_
    refine Safe.rg rfl ?_
    simp only [a8g, a4f hG hi, M_at hG hi, e2V hG hpi, hlt, E3, seval]
    refine Safe.cd rfl ?_
    simp only [E3, seval]
    refine Safe.rg rfl ?_
    simp only [b5w, a1B, a0y, a0J, a0L, a4f hG hi, M_at hG hi, a4f hG hk, M_at hG hk, a6a hG hpi ht, E_at hG hpi ht, a6a hG hpk ht, E_at hG hpk ht, v1, v2, a0H, E3, seval]
    refine (c7x q (M k t) hq (hMs k t hk ht) (by omega)).dcall ?_
    simp only [E3, seval]
    refine (d8x (M i t) (q * M k t) (hMs i t hi ht) (e6s hq (hMs k t hk ht)) (by omega)).dcall ?_
    simp only [a6a hG hpi ht, E3, seval]
    simp only [E_st hG hpi ht (a3g _) (show (Rv _).cells.length = 4 from rfl), hsucc, E3, seval]
    refine Safe.rg rfl ?_
    simp only [b5v, htw, E3, seval]
    refine Safe.keep [0, 1, 2, 7, 8] ?_
    simp only [E3, seval]
    exact ih
  · refine Safe.inLoop ?_
    refine Safe.rg rfl ?_
    simp only [a8g, a4f hG hi, M_at hG hi, e2V hG hpi, Int.lt_irrefl, E3, seval]
    refine Safe.cd rfl ?_
    simp only [E3, seval]
    refine Safe.stl 40 _ ?_
    refine Safe.done rfl ?_
    exact ⟨_, _, rfl, by rw [a7K, a7K], c6a hG hH hπ (fun a b _ _ => d0y hcl (fun b => a5n _) a b), .tup _ (by simp), rfl, rfl⟩
theorem d5J {M : Nat → Nat → Rat} {K i k : Nat} (q : Rat) (hi : i < n) (hk : k < n) (hik : π k ≠ π i) (hπ : ∀ a, a < n → π a < n) (hS : ∀ a b, a < n → b < c → S (π a) b = Rv (M a b)) (hcl : ∀ a b, Cl (S a b))
    (hMs : ∀ a b, a < n → b < c → Rok K (M a b)) (hq : Rok K q) (hK : K + (K + K) < 17592186043000) (hc : c ≤ 2097152) (hn : n ≤ 2097152) (L : Heap) :
    a0k Pr a6I [.mu β 0 n oc', .int .i64 i, .int .i64 k, Rv q] (hap (hM G β n 4 c oc π S) L) fun r' H' => r' = .tup [] ∧ H' = hap (hM G β n 4 c oc π (a4M S (π i) (fun b => Rv (M i b - q * M k b)) c)) L := by
  have h := d9o (G := hap G L) (β := β) (n := n) (c := c) (oc := oc) (oc' := oc') (π := π) (S := S) (by simp [hap]; omega) q hi hk hik hπ hS hcl hMs hq hK hc hn
  rw [e1J _ _ _ _ _ _ _ _ _ hG]
  refine h.mono ?_
  rintro r' H' ⟨rfl, rfl⟩
  exact ⟨rfl, (e1J _ _ _ _ _ _ _ _ _ hG).symm⟩
end
end Go.Abs
namespace Go.Abs
def intV (x : Nat) : AV := .int .i64 (x : Int)
theorem a9f (x : Nat) : Cl (intV x) := .int _ _
/-- Places, as a value. -/
def hsV (cs : List Nat) : AV := .sl 1 (cs.map intV)
theorem b1c (cs : List Nat) : Cl (hsV cs) := e4R 1 intV cs a9f
theorem d7L {G : Heap} {β n w c : Nat} {oc : Option Nat} {π : Nat → Nat} {S : Nat → Nat → AV} {α : Type} (hH : a0F (hM G β n w c oc π S)) {L : Heap} (i : Nat) {n0 : Nat} (hn : n0 ≤ lid G i) {env : Env} {wd bytes : Nat} {f : α → AV} (hf : ∀ x, Cl (f x)) (l : List α) (x : α) {y : AV} {len : Nat}
    (hlen : len = l.length) (hl : L[i]? = some (some ⟨wd, l.map f⟩)) (hL : RC L) (hy : y = f x) (hb : (len + 1) * bytes ≤ 140737488355328) (hbb : len + 1 ≤ 9223372036854775807) :
    appV n0 wd bytes false (.mu (lid G i) 0 len none) (.sl wd [y]) env (hap (hM G β n w c oc π S) L) = some (.mu (lid G i) 0 (len + 1) none, scrub (lid G i) env, hap (hM G β n w c oc π S) (L.set i (some ⟨wd, (l ++ [x]).map f⟩))) := by
  have := b1A (H := hM G β n w c oc π S) hH i (by rw [a1B]; exact hn) (env := env) (bytes := bytes) hf l x (l ++ [x]) hlen hl hL hy rfl hb hbb
  rwa [a1B] at this
theorem e5C (π : Nat → Nat) (p r : Nat) : (fun t => if t = r then π p else (fun t => if t = p then π r else π t) t) = swp π p r := by
  funext t; unfold swp
  by_cases h1 : t = r
  · by_cases h2 : t = p
    · rw [if_pos h1, if_pos h2]; rw [← h1, ← h2]
    · rw [if_pos h1, if_neg h2, if_pos h1]
  · rw [if_neg h1]
    show (if t = p then π r else π t) = _
    by_cases h2 : t = p
    · rw [if_pos h2, if_pos h2]
    · rw [if_neg h2, if_neg h2, if_neg h1]
/-- A matrix's logical entries. -/
structure Lk (n c : Nat) (π : Nat → Nat) (S : Nat → Nat → AV) (F : Nat → Nat → AV) : Prop where
  lt : ∀ a, a < n → π a < n
  inj : ∀ a b, a < n → b < n → π a = π b → a = b
  at_ : ∀ a b, a < n → b < c → S (π a) b = F a b
  cl : ∀ a b, Cl (S a b)
theorem Lk.swap {n c : Nat} {π : Nat → Nat} {S : Nat → Nat → AV} {α : Type} {M : Nat → Nat → α} {f : α → AV} (h : Lk n c π S fun a b => f (M a b)) {p r : Nat} (hp : p < n) (hr : r < n) : Lk n c (swp π p r) S fun a b => f (if a = p then M r b else if a = r then M p b else M a b) := by
  refine ⟨fun a ha => ?_, fun a b ha hb he => ?_, fun a b ha hb => ?_, h.cl⟩
  · unfold swp; split
    · exact h.lt r hr
    · split
      · exact h.lt p hp
      · exact h.lt a ha
  · unfold swp at he
    split at he
    · split at he
      · omega
      · split at he
        · have := h.inj _ _ hr hp he; omega
        · have := h.inj _ _ hr hb he; omega
    · split at he
      · split at he
        · have := h.inj _ _ hp hr he; omega
        · split at he
          · omega
          · have := h.inj _ _ hp hb he; omega
      · split at he
        · have := h.inj _ _ ha hr he; omega
        · split at he
          · have := h.inj _ _ ha hp he; omega
          · exact h.inj _ _ ha hb he
  · unfold swp
    split
    · exact h.at_ r b hr hb
    · split
      · exact h.at_ p b hp hb
      · exact h.at_ a b ha hb
section
variable {G : Heap} {β n c : Nat} {e : Nat} (hG : β + n < G.length) (B : Nat → Nat → Rat) (hB : Bd e B) (hn : n ≤ 64 ∨ c ≤ 64) (hn2 : n ≤ 2097152) (hc : c ≤ 2097152) (hK : KB e + 1 < 2199023255552)
include hG hB hn hn2 hc hK
omit hG hn2 hc hK in
theorem e8C (t i k : Nat) (ht : t ≤ c) : Rok (KB e + 1) ((a0m n B t).M i k) := by
  obtain ⟨h1, h2⟩ := e5V (n := n) hB t i k (by omega)
  have : LB ^ KB e < LB ^ (KB e + 1) := Nat.pow_lt_pow_right (by decide) (by omega)
  exact ⟨by omega, by omega⟩
omit hG hn2 hc hK in
theorem e8B (t : Nat) (ht : t ≤ c) : Rok (KB e + 1) (dv n B t) := by
  obtain ⟨z, hz, hz1⟩ := e9q (n := n) hB t (by omega)
  have : LB ^ KB e < LB ^ (KB e + 1) := Nat.pow_lt_pow_right (by decide) (by omega)
  have h1 : 1 ≤ LB ^ KB e := Nat.one_le_iff_ne_zero.2 (by have := a7H (KB e); omega)
  rw [hz]
  refine ⟨?_, ?_⟩
  · show z.natAbs < _; omega
  · show 1 < _; omega
end
section
variable {G : Heap} {β n c : Nat} {K : Nat} (hG : β + n < G.length) (B : Nat → Nat → Rat) (hrok : ∀ t i k, t ≤ c → Rok K ((a0m n B t).M i k)) (hrdv : ∀ t, t ≤ c → Rok K (dv n B t)) (hn : n ≤ 64 ∨ c ≤ 64) (hn2 : n ≤ 2097152) (hc : c ≤ 2097152) (hK : K < 2199023255552)
include hG hrok hrdv hn hn2 hc hK
/-- For any fractions whose steps are bounded. -/
theorem c6V {S : Nat → Nat → AV} (hS : Lk n c (fun i => i) S fun a b => Rv (B a b)) :
    a0k Pr a1a [.mu β 0 n none, .int .i64 c] (hM G β n 4 c none (fun i => i) S) fun r' H' => ∃ π S', Lk n c π S' (fun a b => Rv ((a0m n B c).M a b)) ∧ H' = hM G β n 4 c none π S' ∧
      r' = .tup [.mu β 0 (gproc n B c).cs.length none, hsV (gproc n B c).cs, Rv (dv n B c)] := by
  refine a0k.eff c3e c3c (Nat.le_of_ble_eq_true rfl) fun hH => ?_
  have hrw : lid (hM G β n 4 c none (fun i => i) S) 0 = lid G 0 := a1B _ _ _ _ _ _ _ _ _
  refine Safe.rg rfl ?_
  simp only [a9M, a1B, a0y, a0J, a0L, a0z, E3, seval]
  refine Safe.rg rfl ?_
  simp only [a9L, a1B, a0y, a0J, a0L, a3g, a0H, a0z, E3, seval]
  first | refine (a0Q 1 (by decide) (by decide)).acall ?_ | refine (a0Q 1 (by decide) (by decide)).dcall ?_
  try simp only [E3, seval]
  refine (a7B (canZ 1) ((a0l (k := 1) (by decide)).mono (by decide))).acall ?_
  rw [a0o]
  simp only [a1B, a0y, a0J, a0L, a3g, a0H, a0z, E3, seval]
  refine Safe.rg rfl ?_
  simp only [a9K, E3, seval]
  refine Safe.nilrow 8 1 (by decide) (by simp only [E3, seval]) ?_
  refine Safe.rg rfl ?_
  simp only [a9J, E3, seval]
  refine Safe.rg rfl ?_
  simp only [a9I, E3, seval]
  refine Safe.lp rfl ?_
  refine Safe.keep [0, 1, 6, 7, 8, 9, 10] ?_
  simp only [a1B, a0y, a0J, a0L, E3, seval]
  refine Safe.loopW (α := Nat × (Nat → Nat) × (Nat → Nat → AV)) (fun s => c - s.1)
    (fun s => [(0, .mu β 0 n none), (1, .int .i64 c), (6, .loc (lid G 0) 0 0), (7, .loc (lid G 1) 0 0), (8, .mu (lid G 2) 0 (gproc n B s.1).cs.length none), (9, .int .i64 (gproc n B s.1).cs.length), (10, .int .i64 s.1)])
    (fun s => hap (hM G β n 4 c none s.2.1 s.2.2) [some ⟨4, [.agg [.bool false, .nil, .bool false, .nil]]⟩, some ⟨4, [Rv (dv n B s.1)]⟩, some ⟨1, (gproc n B s.1).cs.map intV⟩])
    (fun s => s.1 ≤ c ∧ Lk n c s.2.1 s.2.2 fun a b => Rv ((a0m n B s.1).M a b)) (0, fun i => i, S) rfl ?_ ⟨Nat.zero_le _, hS⟩ ?_
  · simp only [d6j]; rfl
  rintro ⟨t, π, S1⟩ ⟨ht, hL⟩ ih
  simp only at ht hL ih ⊢
  have hok := c5X (n := n) (B := B) t
  have hrn := hok.g.len
  have hlow := hok.low
  rw [a0M] at hrn hlow
  have hHr : ∀ {π' : Nat → Nat} {S' : Nat → Nat → AV} {F : Nat → Nat → AV}, Lk n c π' S' F → a0F (hM G β n 4 c none π' S') := fun h => c6a hG hH h.lt fun a b _ _ => h.cl a b
  have hlen : (gproc n B t).cs.length ≤ 64 := by have h1 := (a2R (n := n) (B := B) t).len; have h2 := b7M n B t; omega
  have htlt : t < 9223372036854775807 := by omega
  have htw : IntKind.wrap .i64 ((t : Int) + 1) = ((t + 1 : Nat) : Int) := by rw [a0a] <;> omega
  refine Safe.inLoop ?_
  by_cases htc : t < c
  · have hlt : ((t : Int) < (c : Int)) = True := eq_true (by omega)
    refine Safe.rg rfl ?_
    simp only [a4J, hlt, E3, seval]
    refine Safe.cd rfl ?_
    simp only [E3, seval]
    refine Safe.rg rfl ?_
    simp only [a9H, E3, seval]
    have entry : ∀ q, q < n → S1 (π q) t = Rv ((a0m n B t).M q t) := fun q hq => hL.at_ q t hq htc
    rcases a1P (fun p => (gproc n B t).g p t) (gproc n B t).cs.length n with ⟨p, hf, h1, h2, h3, h4⟩ | ⟨hf, h4⟩
    · have hj := a7I (j := a0m n B t) (c := t) (n := n) (p := p) (by rw [a0M]; exact hf)
      have hdv := d1b hf h1
      have hcs : (gproc n B (t + 1)).cs = (gproc n B t).cs ++ [t] := by
        show (a4N n (gproc n B t) t).cs = _
        rw [a0T hf]
      have hM' : (a0m n B (t + 1)).M = jel (gproc n B t).cs.length t (a0E p (gproc n B t).cs.length (a0m n B t).M) := by
        show (b9u n (a0m n B t) t).M = _
        rw [hj, a0M]
      have hMp : ∀ q, (gproc n B t).cs.length ≤ q → (a0m n B t).M q t = (gproc n B t).g q t := fun q hq => hlow q t hq
      have hrokM : ∀ a b, Rok (K) (a0E p (gproc n B t).cs.length (a0m n B t).M a b) := by
        intro a b; unfold a0E
        split
        · exact hrok _ _ _ ht
        · split <;> exact hrok _ _ _ ht
      have hM0r : a0E p (gproc n B t).cs.length (a0m n B t).M (gproc n B t).cs.length t = (gproc n B t).g p t := by
        unfold a0E
        by_cases e : (gproc n B t).cs.length = p
        · rw [if_pos e, ← e, hMp _ (Nat.le_refl _)]
        · rw [if_neg e, if_pos rfl, hMp _ h1]
      generalize hcsl : (gproc n B t).cs.length = r at *
      have hr : r < n := by omega
      have hgp : (gproc n B t).g p t ≠ 0 := h3
      generalize hM0 : a0E p r (a0m n B t).M = M0 at *
      have main : ∀ π', Lk n c π' S1 (fun a b => Rv (M0 a b)) → Safe ⟨Pr, fun _ _ => false, a1a, 136, [.tmp 4, .tmp 5, .cell 6 (some 4)], (hM G β n 4 c none (fun i => i) S).length⟩
          [.code ((ACode.region a3X false).seq ((ACode.region a3W false).seq (((ACode.region a3V false).seq (.block 4 (.loop a9O))).seq (((ACode.region a3T false).seq (.block 6 (.loop a9N))).seq ((ACode.region a3Q false).seq (.region a3P false)))))),
            .inBlock 1, .code (.region a2H false), .inLoop a9P, .inBlock 0, .code ((ACode.region a3O true).seq .ret)]
          [(0, .mu β 0 n none), (1, .int .i64 c), (6, .loc (lid G 0) 0 0), (7, .loc (lid G 1) 0 0), (8, .mu (lid G 2) 0 r none), (9, .int .i64 r), (10, .int .i64 t)]
          (hap (hM G β n 4 c none π' S1) [some ⟨4, [.agg [.bool false, .nil, .bool false, .nil]]⟩, some ⟨4, [Rv (if p = r then dv n B t else -dv n B t)]⟩, some ⟨1, (gproc n B t).cs.map intV⟩])
          fun r' H' => ∃ H1 L, H' = hap H1 L ∧ H1.length = (hM G β n 4 c none (fun i => i) S).length ∧ a0F H1 ∧ Ref (fun x => x < (hM G β n 4 c none (fun i => i) S).length) r' ∧
            ∃ π S', Lk n c π S' (fun a b => Rv ((a0m n B c).M a b)) ∧ H1 = hM G β n 4 c none π S' ∧ r' = .tup [.mu β 0 (gproc n B c).cs.length none, hsV (gproc n B c).cs, Rv (dv n B c)] := by
        intro π' hL'
        have hpr := hL'.lt r hr
        have hdr : Rok (K) (if p = r then dv n B t else -dv n B t) := by
          split
          · exact (hrdv t ht)
          · exact e0u ((hrdv t ht))
        have v0 : S1 (π' r) t = Rv (M0 r t) := hL'.at_ r t hr htc
        refine Safe.rg rfl ?_
        simp only [a3X, a1B, a0y, a0J, a0L, a4f hG hr, M_at hG hr, a6a hG hpr htc, E_at hG hpr htc, v0, a0H, a3g, a0z, E3, seval]
        refine Safe.rg rfl ?_
        simp only [a3W, a1B, a0y, a0J, a0L, a0H, a3g, E3, seval]
        refine (c7x _ (M0 r t) hdr (hrokM r t) (by omega)).acall ?_
        rw [hM0r, ← hdv]
        simp only [a1B, a0y, a0J, a0L, a0H, a3g, E3, seval]
        have hrokh := hrokM r t
        rw [hM0r] at hrokh
        have hM0rr := hM0r
        generalize (gproc n B t).g p t = h at *
        refine Safe.rg rfl ?_
        simp only [a3V, E3, seval]
        refine Safe.lp rfl ?_
        refine Safe.keep [0, 1, 6, 7, 8, 9, 10, 12, 13] ?_
        try simp only [E3, seval]
        refine Safe.loopN c (fun k => [(0, .mu β 0 n none), (1, .int .i64 c), (6, .loc (lid G 0) 0 0), (7, .loc (lid G 1) 0 0), (8, .mu (lid G 2) 0 r none), (9, .int .i64 r), (10, .int .i64 t), (12, .loc (lid G 3) 0 0), (13, .int .i64 k)])
          (fun k => hap (hM G β n 4 c none π' (a4M S1 (π' r) (fun b => Rv (M0 r b / h)) k)) [some ⟨4, [.agg [.bool false, .nil, .bool false, .nil]]⟩, some ⟨4, [Rv (dv n B (t + 1))]⟩, some ⟨1, (gproc n B t).cs.map intV⟩, some ⟨4, [Rv h]⟩]) rfl ?_ (fun k hk ihk => ?_) ?_
        · rw [c8Q]; rfl
        · have hlt : ((k : Int) < (c : Int)) = True := eq_true (by omega)
          have hkw : IntKind.wrap .i64 ((k : Int) + 1) = ((k + 1 : Nat) : Int) := by rw [a0a] <;> omega
          have v1 : a4M S1 (π' r) (fun b => Rv (M0 r b / h)) k (π' r) k = Rv (M0 r k) := by rw [d7c, hL'.at_ r k hr hk]
          have hsucc := c8R S1 (π' r) (fun b => Rv (M0 r b / h)) k
          generalize a4M S1 (π' r) (fun b => Rv (M0 r b / h)) k = St at *
          refine Safe.inLoop ?_
          refine Safe.rg rfl ?_
          simp only [a3U, hlt, E3, seval]
          refine Safe.cd rfl ?_
          simp only [E3, seval]
          refine Safe.rg rfl ?_
          simp only [a7v, a1B, a0y, a0J, a0L, a4f hG hr, M_at hG hr, a6a hG hpr hk, E_at hG hpr hk, v1, a0H, E3, seval]
          refine (d8y (M0 r k) h (hrokM r k) hrokh (by omega) hgp).dcall ?_
          simp only [a6a hG hpr hk, E3, seval]
          simp only [E_st hG hpr hk (a3g _) (show (Rv _).cells.length = 4 from rfl), hsucc, E3, seval]
          refine Safe.rg rfl ?_
          simp only [a7u, hkw, E3, seval]
          refine Safe.keep [0, 1, 6, 7, 8, 9, 10, 12, 13] ?_
          simp only [E3, seval]
          exact ihk
        · refine Safe.inLoop ?_
          refine Safe.rg rfl ?_
          simp only [a3U, Int.lt_irrefl, E3, seval]
          refine Safe.cd rfl ?_
          simp only [E3, seval]
          have hL2 : Lk n c π' (a4M S1 (π' r) (fun b => Rv (M0 r b / h)) c) (fun a b => Rv (if a = r then M0 r b / h else M0 a b)) := by
            refine ⟨hL'.lt, hL'.inj, fun a b ha hb => ?_, d0y hL'.cl fun _ => a5n _⟩
            by_cases e : a = r
            · subst e; rw [if_pos rfl]; unfold a4M; rw [if_pos ⟨rfl, hb⟩]
            · rw [if_neg e, d0x (fun h => e (hL'.inj _ _ ha hr h)), hL'.at_ a b ha hb]
          generalize a4M S1 (π' r) (fun b => Rv (M0 r b / h)) c = S2 at *
          refine Safe.rg rfl ?_
          simp only [a3T, E3, seval]
          refine Safe.lp rfl ?_
          refine Safe.keep [0, 1, 6, 7, 8, 9, 10, 14] ?_
          try simp only [E3, seval]
          refine Safe.loopW (α := Nat × (Nat → Nat → AV)) (fun s => n - s.1)
            (fun s => [(0, .mu β 0 n none), (1, .int .i64 c), (6, .loc (lid G 0) 0 0), (7, .loc (lid G 1) 0 0), (8, .mu (lid G 2) 0 r none), (9, .int .i64 r), (10, .int .i64 t), (14, .int .i64 s.1)])
            (fun s => hap (hM G β n 4 c none π' s.2) [some ⟨4, [.agg [.bool false, .nil, .bool false, .nil]]⟩, some ⟨4, [Rv (dv n B (t + 1))]⟩, some ⟨1, (gproc n B t).cs.map intV⟩, some ⟨4, [Rv h]⟩])
            (fun s => s.1 ≤ n ∧ Lk n c π' s.2 (fun a b => Rv (if a = r then M0 r b / h else if a < s.1 then M0 a b - M0 a t * (M0 r b / h) else M0 a b))) (0, S2) rfl rfl
            ⟨Nat.zero_le _, by
              refine ⟨hL2.lt, hL2.inj, fun a b ha hb => ?_, hL2.cl⟩
              refine (hL2.at_ a b ha hb).trans ?_; dsimp only; simp⟩ ?_
          rintro ⟨i, S3⟩ ⟨hi, hL3⟩ ih3
          simp only at hi hL3 ih3 ⊢
          refine Safe.inLoop ?_
          by_cases hin : i < n
          · have hlt : ((i : Int) < (n : Int)) = True := eq_true (by omega)
            have hiw : IntKind.wrap .i64 ((i : Int) + 1) = ((i + 1 : Nat) : Int) := by rw [a0a] <;> omega
            have hpi := hL3.lt i hin
            refine Safe.rg rfl ?_
            simp only [a3S, b2c hG, hlt, E3, seval]
            refine Safe.cd rfl ?_
            simp only [E3, seval]
            by_cases hir : i = r
            · subst hir
              refine Safe.rg rfl ?_
              simp only [a3R, E3, seval]
              refine Safe.cd rfl ?_
              simp only [E3, seval]
              refine Safe.rg rfl ?_
              simp only [a2I, hiw, E3, seval]
              refine Safe.keep [0, 1, 6, 7, 8, 9, 10, 14] ?_
              simp only [E3, seval]
              refine ih3 (i + 1, S3) ⟨by omega, hL3.lt, hL3.inj, fun a b ha hb => ?_, hL3.cl⟩ (by show n - (i + 1) < n - i; omega)
              refine (hL3.at_ a b ha hb).trans ?_
              dsimp only
              by_cases e : a = i
              · rw [if_pos e, if_pos e]
              · rw [if_neg e, if_neg e]
                by_cases e2 : a < i
                · rw [if_pos e2, if_pos (show a < i + 1 by omega)]
                · rw [if_neg e2, if_neg (show ¬ a < i + 1 by omega)]
            · have hne : ((i : Int) = (r : Int)) = False := eq_false (by omega)
              have v3 : S3 (π' i) t = Rv (M0 i t) := by rw [hL3.at_ i t hin htc, if_neg hir, if_neg (Nat.lt_irrefl _)]
              refine Safe.rg rfl ?_
              simp only [a3R, hne, a4f hG hin, M_at hG hin, a6a hG hpi htc, E_at hG hpi htc, v3, a0H, E3, seval]
              refine (b1H (M0 i t) (hrokM i t) (by omega)).acall ?_
              by_cases hz : M0 i t = 0
              · simp only [hz, E3, seval]
                refine Safe.cd rfl ?_
                simp only [E3, seval]
                refine Safe.rg rfl ?_
                simp only [a2I, hiw, E3, seval]
                refine Safe.keep [0, 1, 6, 7, 8, 9, 10, 14] ?_
                simp only [E3, seval]
                refine ih3 (i + 1, S3) ⟨by omega, hL3.lt, hL3.inj, fun a b ha hb => ?_, hL3.cl⟩ (by show n - (i + 1) < n - i; omega)
                refine (hL3.at_ a b ha hb).trans ?_
                dsimp only
                by_cases e : a = r
                · rw [if_pos e, if_pos e]
                · rw [if_neg e, if_neg e]
                  by_cases e2 : a < i
                  · rw [if_pos e2, if_pos (show a < i + 1 by omega)]
                  · rw [if_neg e2]
                    by_cases e3 : a = i
                    · subst e3
                      rw [if_pos (show a < a + 1 by omega), hz]
                      congr 1
                      generalize M0 r b / h = y
                      grind
                    · rw [if_neg (show ¬ a < i + 1 by omega)]
              · simp only [hz, E3, seval]
                refine Safe.cd rfl ?_
                simp only [E3, seval]
                have hMs : ∀ a b, a < n → b < c → Rok (K) (if a = r then M0 r b / h else if a < i then M0 a b - M0 a t * (M0 r b / h) else M0 a b) := by
                  intro a b _ _
                  have h0 := hrok (t + 1) a b (by omega)
                  rw [hM'] at h0
                  unfold jel at h0
                  rw [hM0rr] at h0
                  by_cases e : a = r
                  · rw [if_pos e] at h0 ⊢; exact h0
                  · rw [if_neg e] at h0 ⊢
                    split
                    · exact h0
                    · exact hrokM a b
                have hcall := d5J (G := G) (β := β) (n := n) (c := c) (oc := none) (oc' := none) (π := π') (S := S3) hG (M := fun a b => if a = r then M0 r b / h else if a < i then M0 a b - M0 a t * (M0 r b / h) else M0 a b) (M0 i t) hin hr
                  (fun h => hir (hL3.inj _ _ hr hin h).symm) hL3.lt hL3.at_ hL3.cl hMs (hrokM i t) (by omega) hc (by omega)
                  [some ⟨4, [.agg [.bool false, .nil, .bool false, .nil]]⟩, some ⟨4, [Rv (dv n B (t + 1))]⟩, some ⟨1, (gproc n B t).cs.map intV⟩, some ⟨4, [Rv h]⟩]
                obtain ⟨S4, hS4⟩ : ∃ S4, S4 = a4M S3 (π' i) (fun b => Rv ((fun a b => if a = r then M0 r b / h else if a < i then M0 a b - M0 a t * (M0 r b / h) else M0 a b) i b - M0 i t * (fun a b => if a = r then M0 r b / h else if a < i then M0 a b - M0 a t * (M0 r b / h) else M0 a b) r b)) c := ⟨_, rfl⟩
                rw [← hS4] at hcall
                refine Safe.rg rfl ?_
                simp only [a7t, a4f hG hin, M_at hG hin, a6a hG hpi htc, E_at hG hpi htc, v3, a0H, E3, seval]
                refine hcall.mono ?_
                rintro r' H' ⟨rfl, rfl⟩
                simp only [E3, seval]
                refine Safe.rg rfl ?_
                simp only [a2I, hiw, E3, seval]
                refine Safe.keep [0, 1, 6, 7, 8, 9, 10, 14] ?_
                simp only [E3, seval]
                refine ih3 (i + 1, S4) ⟨by omega, hL3.lt, hL3.inj, fun a b ha hb => ?_, by rw [hS4]; exact d0y hL3.cl fun _ => a5n _⟩ (by show n - (i + 1) < n - i; omega)
                show S4 (π' a) b = Rv (if a = r then M0 r b / h else if a < i + 1 then M0 a b - M0 a t * (M0 r b / h) else M0 a b)
                rw [hS4]
                by_cases e3 : a = i
                · subst e3
                  unfold a4M
                  rw [if_pos ⟨rfl, hb⟩]
                  simp only [if_neg hir, Nat.lt_irrefl, if_false, if_true, Nat.lt_succ_self]
                · rw [d0x (fun h => e3 (hL3.inj _ _ ha hin h)), hL3.at_ a b ha hb]
                  by_cases e : a = r
                  · rw [if_pos e, if_pos e]
                  · rw [if_neg e, if_neg e]
                    by_cases e2 : a < i
                    · rw [if_pos e2, if_pos (show a < i + 1 by omega)]
                    · rw [if_neg e2, if_neg (show ¬ a < i + 1 by omega)]
          · have hin' : i = n := by omega
            subst hin'
            refine Safe.rg rfl ?_
            simp only [a3S, b2c hG, Int.lt_irrefl, E3, seval]
            refine Safe.cd rfl ?_
            simp only [E3, seval]
            have hL4 : Lk i c π' S3 fun a b => Rv ((a0m i B (t + 1)).M a b) := by
              refine ⟨hL3.lt, hL3.inj, fun a b ha hb => ?_, hL3.cl⟩
              rw [hL3.at_ a b ha hb, hM']
              unfold jel
              rw [hM0rr]
              by_cases e : a = r
              · rw [if_pos e, if_pos e]
              · rw [if_neg e, if_neg e, if_pos ha]
            have hrw2 : IntKind.wrap .i64 ((r : Int) + 1) = ((r + 1 : Nat) : Int) := by rw [a0a] <;> omega
            have hRC : RC [some ⟨4, [.agg [.bool false, .nil, .bool false, .nil]]⟩, some ⟨4, [Rv (dv i B (t + 1))]⟩, some ⟨1, (gproc i B t).cs.map intV⟩, some ⟨4, [Rv h]⟩] :=
              RC.one d6D (RC.one (a5n _) (RC.row a9f (RC.one (a5n _) RC.nil)))
            have hnb2 : nref (lid G 2) (.mu β 0 i none) = true := a3Z (by unfold lid; omega)
            have hnb3 : nref (lid G 3) (.mu β 0 i none) = true := a3Z (by unfold lid; omega)
            refine Safe.rg rfl ?_
            simp only [a3Q, E3, seval]
            rw [d7L (n0 := (hM G β i 4 c none (fun i => i) S).length) (bytes := 8) (y := .int .i64 (t : Int)) (hHr hL3) 2 (by rw [a7K]; exact a1q G 2) (f := intV) a9f (gproc i B t).cs t hcsl.symm rfl hRC rfl (by omega) (by omega)]
            simp only [hnb2, List.set_cons_succ, List.set_cons_zero, E3, seval]
            refine Safe.rg rfl ?_
            simp only [a3P, hrw2, E3, seval]
            refine Safe.rg rfl ?_
            simp only [a2H, htw, E3, seval]
            refine Safe.keep [0, 1, 6, 7, 8, 9, 10] ?_
            simp only [E3, seval]
            refine Safe.dropM [some ⟨4, [.agg [.bool false, .nil, .bool false, .nil]]⟩, some ⟨4, [Rv (dv i B (t + 1))]⟩, some ⟨1, ((gproc i B t).cs ++ [t]).map intV⟩] (hHr hL4) (by rw [a7K]; exact Nat.le_refl _) (by simp only [List.all_cons, List.all_nil, hnb3, E3, seval]) (RC.one d6D (RC.one (a5n _) (RC.row a9f RC.nil))) ?_
            have hfin := ih (t + 1, π', S3) ⟨htc, hL4⟩ (by show c - (t + 1) < c - t; omega)
            simp only [hcs, a1T, hcsl] at hfin
            exact hfin
      -- the head's row
      refine Safe.lp rfl ?_
      refine Safe.keep [0, 1, 6, 7, 8, 9, 10, 11] ?_
      try simp only [E3, seval]
      refine Safe.loopN (p - r) (fun j => [(0, .mu β 0 n none), (1, .int .i64 c), (6, .loc (lid G 0) 0 0), (7, .loc (lid G 1) 0 0), (8, .mu (lid G 2) 0 r none), (9, .int .i64 r), (10, .int .i64 t), (11, .int .i64 ((r + j : Nat) : Int))])
        (fun _ => hap (hM G β n 4 c none π S1) [some ⟨4, [.agg [.bool false, .nil, .bool false, .nil]]⟩, some ⟨4, [Rv (dv n B t)]⟩, some ⟨1, (gproc n B t).cs.map intV⟩]) rfl rfl (fun j hj2 ihj => ?_) ?_
      · have hq : r + j < n := by omega
        have hlt2 : (((r + j : Nat) : Int) < (n : Int)) = True := eq_true (by omega)
        have hpq := hL.lt (r + j) hq
        have hqw : IntKind.wrap .i64 (((r + j : Nat) : Int) + 1) = ((r + (j + 1) : Nat) : Int) := by rw [a0a] <;> omega
        have hz : (a0m n B t).M (r + j) t = 0 := by rw [hMp _ (by omega)]; exact h4 _ (by omega) (by omega)
        have v4 := entry (r + j) hq
        refine Safe.inLoop ?_
        refine Safe.rg rfl ?_
        simp only [a2d, b2c hG, hlt2, a4f hG hq, M_at hG hq, a6a hG hpq htc, E_at hG hpq htc, v4, a0H, E3, seval]
        refine (b1H _ (hrok t (r + j) t ht) (by omega)).acall ?_
        simp only [hz, E3, seval]
        refine Safe.cd rfl ?_
        simp only [E3, seval]
        refine Safe.rg rfl ?_
        simp only [a4I, hqw, E3, seval]
        refine Safe.keep [0, 1, 6, 7, 8, 9, 10, 11] ?_
        simp only [E3, seval]
        refine Safe.inBlock ?_
        exact ihj
      · have hrp : r + (p - r) = p := by omega
        rw [hrp]
        have hlt2 : ((p : Int) < (n : Int)) = True := eq_true (by omega)
        have hpq := hL.lt p h2
        have hz : ((a0m n B t).M p t = 0) = False := eq_false (by rw [hMp _ h1]; exact hgp)
        have v4 := entry p h2
        have hpn : ((p : Int) = (n : Int)) = False := eq_false (by omega)
        refine Safe.inLoop ?_
        refine Safe.rg rfl ?_
        simp only [a2d, b2c hG, hlt2, a4f hG h2, M_at hG h2, a6a hG hpq htc, E_at hG hpq htc, v4, a0H, E3, seval]
        refine (b1H _ (hrok t p t ht) (by omega)).acall ?_
        simp only [hz, E3, seval]
        refine Safe.cd rfl ?_
        simp only [E3, seval]
        refine Safe.rg rfl ?_
        simp only [a4H, b2c hG, hpn, E3, seval]
        refine Safe.cd rfl ?_
        simp only [E3, seval]
        by_cases hpr : p = r
        · have hpr1 : ((p : Int) = (r : Int)) = True := eq_true (by omega)
          refine Safe.rg rfl ?_
          simp only [a3Y, hpr1, E3, seval]
          refine Safe.cd rfl ?_
          simp only [E3, seval]
          refine Safe.keep [0, 1, 6, 7, 8, 9, 10] ?_
          simp only [E3, seval]
          have hm := main π (by rw [← hM0, hpr, d8k]; exact hL)
          rw [if_pos hpr] at hm
          refine Safe.skip ?_
          exact hm
        · have hpr1 : ((p : Int) = (r : Int)) = False := eq_false (by omega)
          refine Safe.rg rfl ?_
          simp only [a3Y, hpr1, E3, seval]
          refine Safe.cd rfl ?_
          simp only [E3, seval]
          refine Safe.rg rfl ?_
          simp only [a7x, a4f hG h2, M_at hG h2, a4f hG hr, M_at hG hr, E3, seval]
          simp only [M_st hG h2, a4f hG hr, M_st hG hr, e5C, E3, seval]
          refine Safe.rg rfl ?_
          simp only [a7w, a1B, a0y, a0J, a0L, a0H, a3g, E3, seval]
          refine (b8Q (dv n B t) ((hrdv t ht)) (by omega)).acall ?_
          simp only [a1B, a0y, a0J, a0L, a0H, a3g, E3, seval]
          refine Safe.keep [0, 1, 6, 7, 8, 9, 10] ?_
          simp only [E3, seval]
          have hm := main (swp π p r) (by
            have hsw := Lk.swap (f := Rv) hL h2 hr
            refine ⟨hsw.lt, hsw.inj, fun a b ha hb => ?_, hsw.cl⟩
            rw [hsw.at_ a b ha hb, ← hM0]
            unfold a0E
            split
            · rfl
            · split <;> rfl)
          rw [if_neg hpr] at hm
          exact hm
    · -- no head in this column
      have hcs : gproc n B (t + 1) = gproc n B t := a2f hf
      have hj : a0m n B (t + 1) = a0m n B t := a7J (by rw [a0M]; exact hf)
      have hdv := d6k hf
      generalize hcsl : (gproc n B t).cs.length = r at *
      refine Safe.lp rfl ?_
      refine Safe.keep [0, 1, 6, 7, 8, 9, 10, 11] ?_
      try simp only [E3, seval]
      refine Safe.loopN (n - r) (fun j => [(0, .mu β 0 n none), (1, .int .i64 c), (6, .loc (lid G 0) 0 0), (7, .loc (lid G 1) 0 0), (8, .mu (lid G 2) 0 r none), (9, .int .i64 r), (10, .int .i64 t), (11, .int .i64 ((r + j : Nat) : Int))])
        (fun _ => hap (hM G β n 4 c none π S1) [some ⟨4, [.agg [.bool false, .nil, .bool false, .nil]]⟩, some ⟨4, [Rv (dv n B t)]⟩, some ⟨1, (gproc n B t).cs.map intV⟩]) rfl rfl (fun j hj2 ihj => ?_) ?_
      · have hq : r + j < n := by omega
        have hlt2 : (((r + j : Nat) : Int) < (n : Int)) = True := eq_true (by omega)
        have hpq := hL.lt (r + j) hq
        have hqw : IntKind.wrap .i64 (((r + j : Nat) : Int) + 1) = ((r + (j + 1) : Nat) : Int) := by rw [a0a] <;> omega
        have hz : (a0m n B t).M (r + j) t = 0 := by rw [hlow _ _ (by omega)]; exact h4 _ (by omega) (by omega)
        have v4 := entry (r + j) hq
        refine Safe.inLoop ?_
        refine Safe.rg rfl ?_
        simp only [a2d, b2c hG, hlt2, a4f hG hq, M_at hG hq, a6a hG hpq htc, E_at hG hpq htc, v4, a0H, E3, seval]
        refine (b1H _ (hrok t (r + j) t ht) (by omega)).acall ?_
        simp only [hz, E3, seval]
        refine Safe.cd rfl ?_
        simp only [E3, seval]
        refine Safe.rg rfl ?_
        simp only [a4I, hqw, E3, seval]
        refine Safe.keep [0, 1, 6, 7, 8, 9, 10, 11] ?_
        simp only [E3, seval]
        refine Safe.inBlock ?_
        exact ihj
      · have hrp : r + (n - r) = n := by omega
        rw [hrp]
        refine Safe.inLoop ?_
        refine Safe.rg rfl ?_
        simp only [a2d, b2c hG, Int.lt_irrefl, E3, seval]
        refine Safe.cd rfl ?_
        simp only [E3, seval]
        refine Safe.rg rfl ?_
        simp only [a4H, b2c hG, E3, seval]
        refine Safe.cd rfl ?_
        simp only [E3, seval]
        refine Safe.rg rfl ?_
        simp only [a7y, E3, seval]
        first | refine (a0Q 0 (by decide) (by decide)).acall ?_ | refine (a0Q 0 (by decide) (by decide)).dcall ?_
        try simp only [E3, seval]
        refine (a7B (canZ 0) ((a0l (k := 1) (by decide)).mono (by decide))).acall ?_
        rw [a0o]
        simp only [a1B, a0y, a0J, a0L, a3g, a0H, a0z, E3, seval]
        refine Safe.rg rfl ?_
        simp only [a2H, htw, E3, seval]
        refine Safe.keep [0, 1, 6, 7, 8, 9, 10] ?_
        simp only [E3, seval]
        have hfin := ih (t + 1, π, S1) ⟨htc, by rw [hj]; exact hL⟩ (by show c - (t + 1) < c - t; omega)
        simp only [hcs, hcsl, hdv] at hfin
        exact hfin
  · have htc' : t = c := by omega
    subst htc'
    refine Safe.rg rfl ?_
    simp only [a4J, Int.lt_irrefl, E3, seval]
    refine Safe.cd rfl ?_
    simp only [E3, seval]
    have hnb2 : frz (lid G 2) ⟨1, (gproc n B t).cs.map intV⟩ (.mu β 0 n none) = .mu β 0 n none := a7f (.mu _ _ _ _ (by show β ≠ _; unfold lid; omega))
    refine Safe.freezeM 2 (hHr hL) (by rw [a7K]; exact Nat.le_refl _) rfl (a1H 1 intV _ a9f) ?_
    refine Safe.keep [0, 6, 7, 8, 9] ?_
    simp only [hnb2, a9j, List.length_map, a1O, e9F, E3, seval]
    have hcl : frz (lid G 2) ⟨1, (gproc n B t).cs.map intV⟩ (.mu (lid G 2) 0 (gproc n B t).cs.length none) = hsV (gproc n B t).cs := a5t (H := G) 2 1 intV _ none
    refine Safe.rg rfl ?_
    simp only [a3O, a1B, a0y, a0J, a0L, e9Z hG hrn, hcl, a0H, a3g, E3, seval]
    refine Safe.rt rfl ?_
    simp only [a1B, a0y, a0J, a0L, a0H, a3g, E3, seval]
    refine ⟨_, _, rfl, by rw [a7K, a7K], hHr hL, .tup _ ?_, π, S1, hL, rfl, rfl⟩
    intro a ha
    simp only [List.mem_cons, List.not_mem_nil, or_false] at ha
    rcases ha with rfl | rfl | rfl
    · exact .mu _ _ _ _ (by show β < _; rw [a7K]; omega)
    · exact (b1c _).ref
    · exact (a5n _).ref
end
end Go.Abs
namespace Go.Abs
section
variable {G L : Heap} {id w : Nat} {X : List AV}
theorem lst (h : G[id]? = some (some ⟨w, X⟩)) {j : Nat} (hj : j < X.length) {v : AV} (hf : v.fit = true) (hn : v.cells.length = w) (env : Env) : a1L w (.loc id j 0) v env (hap G L) = some (.top, env, hap (G.set id (some ⟨w, X.set j v⟩)) L) := by
  have hid := a0h h
  have hr : hrow (hap G L) id = some ⟨w, X⟩ := by rw [a6B _ _ _ hid]; simp [hrow, h]
  simp only [a1L, hr, Option.bind_some]
  rw [if_pos ⟨hj, hf, hn, by omega⟩, a2o, b8M _ _ _ _ hid]
theorem lcpy (h : G[id]? = some (some ⟨w, X⟩)) {len : Nat} (hlen : X.length = len) {oc : Option Nat} {y : AV} {ys : List AV} (hy : a0S (hap G L) w false y = some ys) (hyl : ys.length = len) (env : Env) :
    cpyV w (.mu id 0 len oc) y env (hap G L) = some (.int .i64 len, env, hap (G.set id (some ⟨w, ys⟩)) L) := by
  have hid := a0h h
  have hr : hrow (hap G L) id = some ⟨w, X⟩ := by rw [a6B _ _ _ hid]; simp [hrow, h]
  simp only [cpyV, hy, hr, Option.bind_some]
  rw [if_pos ⟨trivial, by omega⟩, b8M _ _ _ _ hid]
  simp [hyl, hlen]
  rw [List.take_of_length_le (by omega), List.drop_eq_nil_of_le (by omega), List.append_nil]
end
/-- The copy as it grows. -/
def b4C (β n i w c : Nat) (oc : Option Nat) (S : Nat → Nat → AV) : Heap := some ⟨1, fr n fun a => if a < i then .mu (β + 1 + a) 0 c oc else .nil⟩ :: (List.range i).map fun j => some ⟨w, fr c (S j)⟩
theorem e0X (β n i w c : Nat) (oc : Option Nat) (S : Nat → Nat → AV) : (b4C β n i w c oc S).length = i + 1 := by simp [b4C]
theorem d9j (β n w c : Nat) (oc : Option Nat) (S : Nat → Nat → AV) : b4C β n n w c oc S = a0R β n w c oc S := by
  unfold b4C a0R orow
  rw [a2L fun a ha => by rw [if_pos ha]]
theorem d9i (H : Heap) {n i : Nat} (w c : Nat) (oc : Option Nat) (S : Nat → Nat → AV) :
    hap ((hap H (b4C (lid H 0) n i w c oc S)).set (lid H 0) (some ⟨1, (fr n fun a => if a < i then .mu (lid H 0 + 1 + a) 0 c oc else .nil).set i (.mu (lid H 0 + 1 + i) 0 c oc)⟩)) [some ⟨w, fr c (S i)⟩] = hap H (b4C (lid H 0) n (i + 1) w c oc S) := by
  have e2 : (fr n fun a => if a < i then AV.mu (lid H 0 + 1 + a) 0 c oc else .nil).set i (.mu (lid H 0 + 1 + i) 0 c oc) = fr n fun a => if a < i + 1 then .mu (lid H 0 + 1 + a) 0 c oc else .nil := by
    rw [d7v]
    refine a2L fun a _ => ?_
    by_cases h : a = i
    · subst h; rw [if_pos rfl, if_pos (by omega)]
    · rw [if_neg h]
      by_cases h2 : a < i
      · rw [if_pos h2, if_pos (by omega)]
      · rw [if_neg h2, if_neg (by omega)]
  rw [e2]
  simp only [hap, lid, Nat.add_zero]
  rw [List.set_append_right _ _ (Nat.le_refl _), Nat.sub_self]
  simp only [b4C, List.set_cons_zero, List.append_assoc, List.cons_append]
  congr 2
  rw [List.range_succ, List.map_append]; rfl
def zav (b : List (List ZI)) (j k : Nat) : AV := ((mg b j).getD k ⟨false, []⟩).av
theorem e5Y (b : List (List ZI)) {i c : Nat} (hi : i < b.length) (hc : b[i].length = c) : b[i].map ZI.av = fr c (zav b i) := by
  apply List.ext_getElem?
  intro k
  simp only [fr, zav, a3v hi, List.getElem?_map]
  rcases Nat.lt_or_ge k c with h | h
  · rw [List.getElem?_range h, List.getElem?_eq_getElem (by omega)]
    simp only [Option.map_some, zav, a3v hi]
    simp [List.getD_eq_getElem?_getD, List.getElem?_eq_getElem (show k < b[i].length by omega)]
  · rw [List.getElem?_eq_none (by omega), List.getElem?_eq_none (by simp; omega)]; rfl
theorem d4f (b : List (List ZI)) {c : Nat} (hc : ∀ i, (h : i < b.length) → b[i].length = c) (hnb : b.length ≤ 2097152) (hcb : c ≤ 2097152) (H : Heap) :
    a0k Pr a9D [matV b] H fun r' H' => r' = .mu (lid H 0) 0 b.length (some b.length) ∧ H' = hap H (a0R (lid H 0) b.length 2 c (some c) (zav b)) := by
  refine a0k.introH c7c c7a (Nat.le_of_ble_eq_true rfl) fun hH => ?_
  refine Safe.rg rfl ?_
  simp only [b4a, E3, seval]
  refine Safe.rg rfl ?_
  simp only [b3Z, E3, seval]
  have hmk : ∀ env : Env, c5z 1 24 .nil (.int .i64 b.length) (.int .i64 b.length) env (hap H []) = some (.mu (lid H 0) 0 b.length (some b.length), env, hap H (b4C (lid H 0) b.length 0 2 c (some c) (zav b))) := by
    intro env
    simp only [c5z]
    rw [if_pos ⟨by decide, by omega, by omega, by omega, by omega⟩]
    simp only [Int.toNat_natCast, b9p, List.length_nil, b9J, List.nil_append]
    have : List.replicate b.length AV.nil = fr b.length fun a => if a < 0 then .mu (lid H 0 + 1 + a) 0 c (some c) else .nil := by
      apply List.ext_getElem?
      intro j
      simp only [fr, List.getElem?_map, List.getElem?_replicate]
      rcases Nat.lt_or_ge j b.length with h | h
      · rw [List.getElem?_range h]; simp [h]
      · rw [List.getElem?_eq_none (by simpa using h), if_neg (by omega)]; rfl
    rw [this]; rfl
  simp only [hmk, E3, seval]
  refine Safe.rg rfl ?_
  simp only [b3Y, E3, seval]
  refine Safe.lp rfl ?_
  refine Safe.keep [0, 3, 9, 10, 11] ?_
  try simp only [E3, seval]
  refine Safe.loopN (b.length) (fun i => [(0, matV b), (3, .mu (lid H 0) 0 b.length (some b.length)), (9, matV b), (10, .int .i64 b.length), (11, .int .i64 i)]) (fun i => hap H (b4C (lid H 0) b.length i 2 c (some c) (zav b))) rfl rfl (fun i hi ih => ?_) ?_
  · have hlt : ((i : Int) < (b.length : Int)) = True := eq_true (by omega)
    have hbc := hc i hi
    have hiw : IntKind.wrap .i64 ((i : Int) + 1) = ((i + 1 : Nat) : Int) := by rw [a0a] <;> omega
    refine Safe.inLoop ?_
    refine Safe.rg rfl ?_
    simp only [a7k, hlt, E3, seval]
    refine Safe.cd rfl ?_
    simp only [E3, seval]
    refine Safe.rg rfl ?_
    simp only [b3X, a1W _ b _ i hi, E3, seval]
    have hG0 : (hap H (b4C (lid H 0) b.length i 2 c (some c) (zav b)))[lid H 0]? = some (some ⟨1, fr b.length fun a => if a < i then .mu (lid H 0 + 1 + a) 0 c (some c) else .nil⟩) := by
      simp only [hap, lid]; rw [List.getElem?_append_right (by omega)]; simp [b4C, lid]
    have hGl : (hap H (b4C (lid H 0) b.length i 2 c (some c) (zav b))).length = lid H 0 + 1 + i := by simp [hap, lid, e0X]; omega
    have hsucc := d9i H (n := b.length) (i := i) 2 c (some c) (zav b)
    rw [← a1F (hap H (b4C (lid H 0) b.length i 2 c (some c) (zav b)))]
    generalize hap H (b4C (lid H 0) b.length i 2 c (some c) (zav b)) = G at *
    have hlG : lid G 0 = lid H 0 + 1 + i := hGl
    have hmk2 : ∀ env : Env, c5z 2 32 (.agg [.bool false, .nil]) (.int .i64 c) (.int .i64 c) env (hap G []) = some (.mu (lid G 0) 0 c (some c), env, hap G [some ⟨2, List.replicate c (.agg [.bool false, .nil])⟩]) := by
      intro env
      simp only [c5z]
      rw [if_pos ⟨by decide, by omega, by omega, by omega, by omega⟩]
      simp only [Int.toNat_natCast, b9p, List.length_nil, b9J, List.nil_append]
    have e1 : lid H 0 + 1 + i = lid G 0 := hlG.symm
    rw [e1] at hsucc
    have hXl : (fr b.length fun a => if a < i then AV.mu (lid H 0 + 1 + a) 0 c (some c) else .nil).length = b.length := b7O _ _
    generalize (fr b.length fun a => if a < i then AV.mu (lid H 0 + 1 + a) 0 c (some c) else .nil) = X at *
    refine Safe.rg rfl ?_
    simp only [b3W, hbc, hmk2, lidx hG0 rfl (some b.length) .i64 hi, E3, seval]
    rw [lst hG0 (by omega) rfl rfl]
    simp only [E3, seval]
    rw [← a1F (hap (G.set _ _) _)]
    have h2a : (hap (G.set (lid H 0) (some ⟨1, X.set i (.mu (lid G 0) 0 c (some c))⟩)) [some ⟨2, List.replicate c (.agg [.bool false, .nil])⟩])[lid H 0]? = some (some ⟨1, X.set i (.mu (lid G 0) 0 c (some c))⟩) := by
      simp only [hap]
      rw [List.getElem?_append_left (by rw [List.length_set]; omega), List.getElem?_set]
      simp; omega
    have h2b : (hap (G.set (lid H 0) (some ⟨1, X.set i (.mu (lid G 0) 0 c (some c))⟩)) [some ⟨2, List.replicate c (.agg [.bool false, .nil])⟩])[lid G 0]? = some (some ⟨2, List.replicate c (.agg [.bool false, .nil])⟩) := by
      simp only [hap, lid, Nat.add_zero]
      rw [List.getElem?_append_right (by simp)]; simp
    have h2c : (hap (G.set (lid H 0) (some ⟨1, X.set i (.mu (lid G 0) 0 c (some c))⟩)) [some ⟨2, List.replicate c (.agg [.bool false, .nil])⟩]).set (lid G 0) (some ⟨2, b[i].map ZI.av⟩) = hap H (b4C (lid H 0) b.length (i + 1) 2 c (some c) (zav b)) := by
      rw [← hsucc, e5Y b hi hbc]
      simp only [hap, lid, Nat.add_zero]
      rw [List.set_append_right _ _ (by simp)]
      simp
    generalize hap (G.set (lid H 0) (some ⟨1, X.set i (.mu (lid G 0) 0 c (some c))⟩)) [some ⟨2, List.replicate c (.agg [.bool false, .nil])⟩] = G2 at *
    have hxi : (X.set i (AV.mu (lid G 0) 0 c (some c))).getD i .top = .mu (lid G 0) 0 c (some c) := by
      simp [List.getD_eq_getElem?_getD, hXl, hi]
    refine Safe.rg rfl ?_
    simp only [b3V, lidx h2a rfl (some b.length) .i64 hi, lat h2a (show i < (X.set i (AV.mu (lid G 0) 0 c (some c))).length by rw [List.length_set]; omega), hxi, E3, seval]
    rw [lcpy h2b (by simp) (show a0S (hap G2 []) 2 false (vecV b[i]) = some (b[i].map ZI.av) by simp [a0S, vecV]) (by simpa using hbc), h2c, a1F]
    simp only [E3, seval]
    refine Safe.rg rfl ?_
    simp only [b3U, hiw, E3, seval]
    refine Safe.keep [0, 3, 9, 10, 11] ?_
    simp only [E3, seval]
    exact ih
  · refine Safe.inLoop ?_
    refine Safe.rg rfl ?_
    simp only [a7k, Int.lt_irrefl, E3, seval]
    refine Safe.cd rfl ?_
    simp only [E3, seval]
    refine Safe.rg rfl ?_
    simp only [b3T, E3, seval]
    refine Safe.rt rfl ?_
    simp only [E3, seval]
    rw [d9j]
end Go.Abs

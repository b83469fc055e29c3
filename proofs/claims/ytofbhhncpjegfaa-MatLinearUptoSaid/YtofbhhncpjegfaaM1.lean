/- Limbs: numbers as rows of 32 bits, the lowest first. Plain Lean, no program in sight. -/
set_option linter.unusedVariables false
set_option linter.unusedSimpArgs false
namespace Go.Abs

abbrev LB : Nat := 4294967296

def val : List Nat → Nat
  | [] => 0
  | d :: l => d + LB * val l

def Lim (l : List Nat) : Prop := ∀ d ∈ l, d < LB

/-- The limbs of a number, no nought at the end. -/
def limbs (n : Nat) : List Nat := if h : n = 0 then [] else n % LB :: limbs (n / LB)
termination_by n
decreasing_by exact Nat.div_lt_self (by omega) (by decide)

theorem limbs_zero : limbs 0 = [] := by rw [limbs]; simp
theorem limbs_pos {n : Nat} (h : n ≠ 0) : limbs n = n % LB :: limbs (n / LB) := by rw [limbs]; simp [h]

theorem val_limbs (n : Nat) : val (limbs n) = n := by
  induction n using Nat.strongRecOn with
  | _ n ih =>
    by_cases h : n = 0
    · subst h; rw [limbs_zero]; rfl
    · rw [limbs_pos h, val, ih (n / LB) (Nat.div_lt_self (by omega) (by decide))]
      exact Nat.mod_add_div n LB

theorem lim_limbs (n : Nat) : Lim (limbs n) := by
  induction n using Nat.strongRecOn with
  | _ n ih =>
    by_cases h : n = 0
    · subst h; rw [limbs_zero]; intro d hd; simp at hd
    · rw [limbs_pos h]
      intro d hd
      rcases List.mem_cons.1 hd with rfl | hd
      · exact Nat.mod_lt _ (by decide)
      · exact ih (n / LB) (Nat.div_lt_self (by omega) (by decide)) d hd

theorem lim_nil : Lim [] := fun d hd => by simp at hd
theorem lim_cons {d : Nat} {l : List Nat} : Lim (d :: l) ↔ d < LB ∧ Lim l := by
  constructor
  · intro h; exact ⟨h d (by simp), fun e he => h e (by simp [he])⟩
  · rintro ⟨h1, h2⟩ e he
    rcases List.mem_cons.1 he with rfl | he
    · exact h1
    · exact h2 e he
theorem lim_append {a b : List Nat} : Lim (a ++ b) ↔ Lim a ∧ Lim b := by
  constructor
  · intro h; exact ⟨fun d hd => h d (by simp [hd]), fun d hd => h d (by simp [hd])⟩
  · rintro ⟨h1, h2⟩ d hd
    rcases List.mem_append.1 hd with hd | hd
    · exact h1 d hd
    · exact h2 d hd
theorem Lim.take {l : List Nat} (h : Lim l) (n : Nat) : Lim (l.take n) := fun d hd => h d (List.mem_of_mem_take hd)
theorem Lim.drop {l : List Nat} (h : Lim l) (n : Nat) : Lim (l.drop n) := fun d hd => h d (List.mem_of_mem_drop hd)

theorem val_append (a b : List Nat) : val (a ++ b) = val a + LB ^ a.length * val b := by
  induction a with
  | nil => simp [val]
  | cons d a ih =>
    simp only [List.cons_append, val, ih, List.length_cons]
    rw [Nat.mul_add, ← Nat.mul_assoc, ← Nat.pow_succ', Nat.add_assoc]

theorem val_lt {l : List Nat} (h : Lim l) : val l < LB ^ l.length := by
  induction l with
  | nil => simp [val]
  | cons d l ih =>
    have h' := lim_cons.1 h
    have := ih h'.2
    simp only [val, List.length_cons, Nat.pow_succ']
    have h1 : LB * (val l + 1) ≤ LB * LB ^ l.length := Nat.mul_le_mul_left _ this
    rw [Nat.mul_add, Nat.mul_one] at h1
    have := h'.1
    omega

theorem val_replicate (n : Nat) : val (List.replicate n 0) = 0 := by
  induction n with
  | zero => rfl
  | succ n ih => simp [List.replicate_succ, val, ih]

/-- A row without a nought at its end is the limbs of its number. -/
theorem limbs_val : ∀ {l : List Nat}, Lim l → (l.getLast?).getD 1 ≠ 0 → limbs (val l) = l
  | [], _, _ => limbs_zero
  | d :: l, h, hl => by
    obtain ⟨h1, h2⟩ := lim_cons.1 h
    have hl' : (l.getLast?).getD 1 ≠ 0 := by
      cases l with
      | nil => simp
      | cons e l => simpa [List.getLast?_cons_cons] using hl
    have hne : val (d :: l) ≠ 0 := by
      intro h0
      simp only [val] at h0
      have hd : d = 0 := by omega
      have hv : val l = 0 := by
        have : LB * val l = 0 := by omega
        rcases Nat.mul_eq_zero.1 this with h | h
        · exact absurd h (by decide)
        · exact h
      have := limbs_val h2 hl'
      rw [hv, limbs_zero] at this
      subst this
      subst hd
      simp at hl
    rw [limbs_pos hne]
    simp only [val]
    rw [Nat.add_mul_mod_self_left, Nat.mod_eq_of_lt h1, Nat.add_mul_div_left _ _ (by decide), Nat.div_eq_of_lt h1, Nat.zero_add, limbs_val h2 hl']

theorem limbs_last (n : Nat) : ((limbs n).getLast?).getD 1 ≠ 0 := by
  induction n using Nat.strongRecOn with
  | _ n ih =>
    by_cases h : n = 0
    · subst h; rw [limbs_zero]; simp
    · rw [limbs_pos h]
      have := ih (n / LB) (Nat.div_lt_self (by omega) (by decide))
      cases hq : limbs (n / LB) with
      | nil =>
        have h0 : n / LB = 0 := by
          have := val_limbs (n / LB)
          rw [hq] at this
          exact this.symm
        have : n % LB = n := Nat.mod_eq_of_lt (by
          rcases Nat.lt_or_ge n LB with h' | h'
          · exact h'
          · have := Nat.div_pos h' (by decide); omega)
        simp [this, h]
      | cons e l =>
        rw [hq] at this
        simpa [List.getLast?_cons_cons] using this

theorem limbs_len_le {n k : Nat} (h : n < LB ^ k) : (limbs n).length ≤ k := by
  induction k generalizing n with
  | zero =>
    have : n = 0 := by simpa using h
    subst this; rw [limbs_zero]; simp
  | succ k ih =>
    by_cases h0 : n = 0
    · subst h0; rw [limbs_zero]; simp
    · rw [limbs_pos h0, List.length_cons]
      have : n / LB < LB ^ k := by
        rw [Nat.div_lt_iff_lt_mul (by decide)]
        rwa [Nat.pow_succ] at h
      have := ih this
      omega

theorem limbs_len_gt {n : Nat} (h : limbs n ≠ []) : LB ^ ((limbs n).length - 1) ≤ n := by
  induction n using Nat.strongRecOn with
  | _ n ih =>
    by_cases h0 : n = 0
    · subst h0; rw [limbs_zero] at h; simp at h
    · rw [limbs_pos h0, List.length_cons, Nat.add_sub_cancel]
      by_cases hq : limbs (n / LB) = []
      · rw [hq]; simp; omega
      · have := ih (n / LB) (Nat.div_lt_self (by omega) (by decide)) hq
        have hl : 0 < (limbs (n / LB)).length := List.length_pos_iff.2 hq
        have h1 : LB ^ (limbs (n / LB)).length = LB ^ ((limbs (n / LB)).length - 1) * LB := by
          rw [← Nat.pow_succ]; congr 1; omega
        rw [h1]
        exact Nat.le_trans (Nat.mul_le_mul_right _ this) (Nat.div_mul_le_self n LB)

theorem limbs_inj {m n : Nat} (h : limbs m = limbs n) : m = n := by rw [← val_limbs m, h, val_limbs]

theorem val_trim0 (l : List Nat) : val (l ++ [0]) = val l := by rw [val_append]; simp [val]

/-- Without the nought at the end. -/
theorem val_dropLast {l : List Nat} (h : l.getLast? = some 0) : val l.dropLast = val l := by
  obtain ⟨hne, hl⟩ := List.getLast?_eq_some_iff.1 h |>.imp fun _ h => h
  subst hl
  rw [List.dropLast_concat, val_trim0]

theorem val_snoc (l : List Nat) (d : Nat) : val (l ++ [d]) = val l + LB ^ l.length * d := by rw [val_append]; simp [val]

theorem val_take_succ {l : List Nat} {i : Nat} (h : i < l.length) : val (l.take (i + 1)) = val (l.take i) + LB ^ i * l[i] := by
  rw [List.take_succ_eq_append_getElem h, val_snoc, List.length_take, Nat.min_eq_left (by omega)]

theorem getD_lt {l : List Nat} (h : Lim l) (i : Nat) : l.getD i 0 < LB := by
  rw [List.getD_eq_getElem?_getD]
  rcases Nat.lt_or_ge i l.length with hi | hi
  · rw [List.getElem?_eq_getElem hi, Option.getD_some]; exact h _ (List.getElem_mem hi)
  · rw [List.getElem?_eq_none hi]; decide

/-- Up to a place; behind the end nothing comes. -/
theorem val_take_getD (l : List Nat) (i : Nat) : val (l.take (i + 1)) = val (l.take i) + LB ^ i * l.getD i 0 := by
  rcases Nat.lt_or_ge i l.length with h | h
  · rw [val_take_succ h, List.getD_eq_getElem?_getD, List.getElem?_eq_getElem h, Option.getD_some]
  · rw [List.take_of_length_le (by omega), List.take_of_length_le h, List.getD_eq_getElem?_getD, List.getElem?_eq_none h]; simp

theorem pow_pos' (i : Nat) : 0 < LB ^ i := Nat.pow_pos (by decide)

/-- Which of two is greater is told from the top. -/
theorem val_lt_of_top {a b : List Nat} {i : Nat} (ha : Lim a) (hb : Lim b) (h : a.drop (i + 1) = b.drop (i + 1)) (hi : i < a.length) (hi' : i < b.length) (hl : a.length = b.length) (hlt : a.getD i 0 < b.getD i 0) : val a < val b := by
  have e1 : a = a.take (i + 1) ++ a.drop (i + 1) := (List.take_append_drop _ _).symm
  have e2 : b = b.take (i + 1) ++ b.drop (i + 1) := (List.take_append_drop _ _).symm
  rw [e1, e2, val_append, val_append, h, val_take_getD, val_take_getD]
  have l1 : (a.take (i + 1)).length = i + 1 := by rw [List.length_take]; omega
  have l2 : (b.take (i + 1)).length = i + 1 := by rw [List.length_take]; omega
  rw [l1, l2]
  have h1 := val_lt (ha.take i)
  rw [List.length_take, Nat.min_eq_left (by omega)] at h1
  have h2 : LB ^ i * (a.getD i 0 + 1) ≤ LB ^ i * b.getD i 0 := Nat.mul_le_mul_left _ hlt
  rw [Nat.mul_add] at h2
  omega

/-! ### Bits -/
def blen (n : Nat) : Nat := if n = 0 then 0 else Nat.log2 n + 1
theorem blen_zero : blen 0 = 0 := rfl
theorem blen_lt (n : Nat) : n < 2 ^ blen n := by
  unfold blen
  split
  · rename_i h; subst h; decide
  · exact Nat.lt_log2_self
theorem blen_ge {n : Nat} (h : n ≠ 0) : 2 ^ (blen n - 1) ≤ n := by
  unfold blen
  rw [if_neg h, Nat.add_sub_cancel]
  exact Nat.log2_self_le h
theorem blen_eq {n k : Nat} (h1 : n < 2 ^ k) (h2 : k = 0 ∨ 2 ^ (k - 1) ≤ n) : blen n = k := by
  by_cases h0 : n = 0
  · subst h0
    rcases h2 with h2 | h2
    · rw [h2]; rfl
    · have := Nat.pow_pos (n := k - 1) (show 0 < 2 by decide); omega
  · have a := blen_lt n
    have b := blen_ge h0
    have c : 0 < blen n := by unfold blen; rw [if_neg h0]; omega
    have d : blen n - 1 < k := (Nat.pow_lt_pow_iff_right (by decide)).1 (Nat.lt_of_le_of_lt b h1)
    have e : k - 1 < blen n := by
      rcases h2 with h2 | h2
      · omega
      · exact (Nat.pow_lt_pow_iff_right (by decide)).1 (Nat.lt_of_le_of_lt h2 a)
    omega
/-- The lowest k bits do not count where others stand above them. -/
theorem blen_add {h k r : Nat} (hh : h ≠ 0) (hr : r < 2 ^ k) : blen (r + 2 ^ k * h) = k + blen h := by
  have a := blen_lt h
  have b := blen_ge hh
  have c : 0 < blen h := by unfold blen; rw [if_neg hh]; omega
  refine blen_eq ?_ (.inr ?_)
  · rw [Nat.pow_add]
    have : 2 ^ k * (h + 1) ≤ 2 ^ k * 2 ^ blen h := Nat.mul_le_mul_left _ a
    rw [Nat.mul_add] at this
    omega
  · rw [show k + blen h - 1 = k + (blen h - 1) by omega, Nat.pow_add]
    have : 2 ^ k * 2 ^ (blen h - 1) ≤ 2 ^ k * h := Nat.mul_le_mul_left _ b
    omega
theorem blen_div {n k : Nat} (h : 2 ^ k ≤ n) : blen n = k + blen (n / 2 ^ k) := by
  have hp : 0 < 2 ^ k := Nat.pow_pos (by decide)
  have h0 : n / 2 ^ k ≠ 0 := by
    have := Nat.div_pos h hp; omega
  have := blen_add (r := n % 2 ^ k) h0 (Nat.mod_lt _ hp)
  rwa [Nat.mod_add_div] at this
theorem lb_pow (i : Nat) : LB ^ i = 2 ^ (32 * i) := by rw [Nat.pow_mul]
theorem blen_limbs {l : List Nat} {d : Nat} (hl : Lim l) (hd : d ≠ 0) : blen (val (l ++ [d])) = 32 * l.length + blen d := by
  rw [val_snoc, lb_pow]
  exact blen_add hd (by rw [← lb_pow]; exact val_lt hl)

theorem limbs_val_len {l : List Nat} (h : Lim l) : (limbs (val l)).length ≤ l.length := limbs_len_le (val_lt h)

/-- A row that may be handed round. -/
structure Nt (l : List Nat) : Prop where
  lim : Lim l
  len : l.length ≤ 17592186044416
theorem Nt.limbs {l : List Nat} (h : Nt l) : Nt (limbs (val l)) := ⟨lim_limbs _, Nat.le_trans (limbs_val_len h.lim) h.len⟩
theorem nt_nil : Nt [] := ⟨lim_nil, Nat.zero_le _⟩

theorem set_rep (x : List Nat) (k d : Nat) : (x ++ List.replicate (k + 1) 0).set x.length d = (x ++ [d]) ++ List.replicate k 0 := by
  rw [List.set_append_right _ _ (Nat.le_refl _), Nat.sub_self, List.replicate_succ, List.set_cons_zero]; simp

/-- One place of a sum. -/
theorem sum_step {vd pa pb B c x y i : Nat} (h : vd + B * c = pa + pb) : (vd + B * ((c + x + y) % LB)) + (B * LB) * ((c + x + y) / LB) = (pa + B * x) + (pb + B * y) := by
  have e : (c + x + y) % LB + LB * ((c + x + y) / LB) = c + x + y := Nat.mod_add_div _ _
  have e2 : B * ((c + x + y) % LB) + (B * LB) * ((c + x + y) / LB) = B * (c + x + y) := by rw [Nat.mul_assoc, ← Nat.mul_add, e]
  have e3 : B * (c + x + y) = B * c + B * x + B * y := by rw [Nat.mul_add, Nat.mul_add]
  omega
theorem val_snoc_lim {x : List Nat} {d : Nat} (h : Lim x) (hd : d < LB) : Lim (x ++ [d]) := lim_append.2 ⟨h, by intro e he; simp at he; omega⟩

theorem val_set {w : List Nat} {k d : Nat} (h : k < w.length) : val (w.set k d) + LB ^ k * w.getD k 0 = val w + LB ^ k * d := by
  induction w generalizing k with
  | nil => simp at h
  | cons e w ih =>
    cases k with
    | zero => simp only [List.set_cons_zero, val, Nat.pow_zero, Nat.one_mul, List.getD_cons_zero]; omega
    | succ k =>
      simp only [List.set_cons_succ, val, List.getD_cons_succ, Nat.pow_succ']
      have := ih (k := k) (by simpa using h)
      have e1 : LB * (val (w.set k d) + LB ^ k * w.getD k 0) = LB * (val w + LB ^ k * d) := by rw [this]
      rw [Nat.mul_add, Nat.mul_add, ← Nat.mul_assoc, ← Nat.mul_assoc] at e1
      omega
theorem lim_set {w : List Nat} {k d : Nat} (h : Lim w) (hd : d < LB) : Lim (w.set k d) := by
  intro e he
  rcases List.mem_or_eq_of_mem_set he with h' | h'
  · exact h e h'
  · rw [h']; exact hd

/-- One place of a difference. -/
theorem less_step {vx va vb B bo bo' d x y : Nat} (h : va + B * bo = vx + vb) (hd : x + LB * bo' = d + bo + y) : (va + B * x) + (B * LB) * bo' = (vx + B * d) + (vb + B * y) := by
  have e : B * (x + LB * bo') = B * (d + bo + y) := by rw [hd]
  rw [Nat.mul_add, Nat.mul_add, Nat.mul_add, ← Nat.mul_assoc] at e
  omega

/-- One place of a product. -/
theorem mul_step {vw vx A B C c x y q vb vs t : Nat} (hC : C = A * B) (h : vw + C * c = vx + A * (x * vb)) (hs : vs + C * q = vw + C * (t % LB)) (ht : t = c + x * y + q) :
    vs + (C * LB) * (t / LB) = vx + A * (x * (vb + B * y)) := by
  have e : t % LB + LB * (t / LB) = t := Nat.mod_add_div _ _
  have e1 : C * (t % LB) + (C * LB) * (t / LB) = C * t := by rw [Nat.mul_assoc, ← Nat.mul_add, e]
  have e2 : C * t = C * c + C * (x * y) + C * q := by rw [ht, Nat.mul_add, Nat.mul_add]
  have e3 : A * (x * (vb + B * y)) = A * (x * vb) + C * (x * y) := by
    rw [hC, Nat.mul_add, Nat.mul_add, Nat.mul_assoc A B, Nat.mul_left_comm B x y]
  omega

theorem mul_fits {c x y q : Nat} (hc : c < LB) (hx : x < LB) (hy : y < LB) (hq : q < LB) : c + x * y + q < LB * LB := by
  have : x * y ≤ (LB - 1) * (LB - 1) := Nat.mul_le_mul (by omega) (by omega)
  have e : (LB - 1) * (LB - 1) + (LB - 1) + (LB - 1) < LB * LB := by decide
  omega

/-! ### Digits, noughts behind the end -/
theorem val_ext : ∀ {a b : List Nat}, (∀ i, a.getD i 0 = b.getD i 0) → val a = val b
  | [], [], _ => rfl
  | [], e :: b, h => by
    have h0 : 0 = e := by simpa using h 0
    have := val_ext (a := []) (b := b) fun i => by simpa using h (i + 1)
    simp only [val] at this ⊢
    rw [← h0, ← this, Nat.mul_zero]
  | d :: a, [], h => by
    have h0 : d = 0 := by simpa using h 0
    have := val_ext (a := a) (b := []) fun i => by simpa using h (i + 1)
    simp only [val] at this ⊢
    rw [h0, this, Nat.mul_zero]
  | d :: a, e :: b, h => by
    have h0 : d = e := by simpa using h 0
    have := val_ext (a := a) (b := b) fun i => by simpa using h (i + 1)
    simp only [val, h0, this]
theorem getD_drop (a : List Nat) (n i : Nat) : (a.drop n).getD i 0 = a.getD (n + i) 0 := by simp [List.getD_eq_getElem?_getD, List.getElem?_drop]
theorem val_split (a : List Nat) (n : Nat) : val a = val (a.take n) + LB ^ n * val (a.drop n) := by
  rcases Nat.lt_or_ge a.length n with h | h
  · rw [List.take_of_length_le (by omega), List.drop_of_length_le (by omega)]; simp [val]
  · have := val_append (a.take n) (a.drop n)
    rwa [List.take_append_drop, List.length_take, Nat.min_eq_left h] at this
theorem val_take_lt {a : List Nat} (h : Lim a) (n : Nat) : val (a.take n) < LB ^ n := by
  have h1 := val_lt (h.take n)
  have h2 : LB ^ (a.take n).length ≤ LB ^ n := Nat.pow_le_pow_right (by decide) (by rw [List.length_take]; omega)
  omega
theorem val_lt_of_digit {a b : List Nat} {i : Nat} (ha : Lim a) (hb : Lim b) (h : ∀ j, i < j → a.getD j 0 = b.getD j 0) (hlt : a.getD i 0 < b.getD i 0) : val a < val b := by
  have e : val (a.drop (i + 1)) = val (b.drop (i + 1)) := val_ext fun j => by rw [getD_drop, getD_drop]; exact h _ (by omega)
  rw [val_split a (i + 1), val_split b (i + 1), e, val_take_getD, val_take_getD]
  have h1 := val_take_lt ha i
  have h2 : LB ^ i * (a.getD i 0 + 1) ≤ LB ^ i * b.getD i 0 := Nat.mul_le_mul_left _ hlt
  rw [Nat.mul_add] at h2
  omega
theorem getD_out {a : List Nat} {i : Nat} (h : a.length ≤ i) : a.getD i 0 = 0 := by rw [List.getD_eq_getElem?_getD, List.getElem?_eq_none h]; rfl
theorem take_snoc {l : List Nat} {i : Nat} (h : i < l.length) : l.take (i + 1) = l.take i ++ [l.getD i 0] := by
  rw [List.take_succ_eq_append_getElem h, List.getD_eq_getElem?_getD, List.getElem?_eq_getElem h, Option.getD_some]

end Go.Abs

/- Part 3 of the proof of ElimInverses: M1, D1, D2, D3, D4, D5, D9, D10, D11, L1, L2, L3, L4, L5, L6, L7, L8, L9, L10, L11, L12, L13, Num. -/
import Derived.Test.YtkljokmnimblnaaElimInversesK2
import Derived.Test.YtkljokmnimblnaaProg
set_option linter.unusedVariables false
set_option linter.unusedSimpArgs false
namespace Go.Abs
abbrev LB : Nat := 4294967296
def val : List Nat → Nat
  | [] => 0
  | d :: l => d + LB * val l
def Lim (l : List Nat) : Prop := ∀ d ∈ l, d < LB
/-- The limbs of a number, no nought at the end. -/
def limbs (n : Nat) : List Nat := if h : n = 0 then [] else n % LB :: limbs (n / LB)
termination_by n
decreasing_by exact Nat.div_lt_self (by omega) (by decide)
theorem a0D : limbs 0 = [] := by rw [limbs]; simp
theorem a5B {n : Nat} (h : n ≠ 0) : limbs n = n % LB :: limbs (n / LB) := by rw [limbs]; simp [h]
theorem a0b (n : Nat) : val (limbs n) = n := by
  induction n using Nat.strongRecOn with
  | _ n ih =>
    by_cases h : n = 0
    · subst h; rw [a0D]; rfl
    · rw [a5B h, val, ih (n / LB) (Nat.div_lt_self (by omega) (by decide))]
      exact Nat.mod_add_div n LB
theorem a0c (n : Nat) : Lim (limbs n) := by
  induction n using Nat.strongRecOn with
  | _ n ih =>
    by_cases h : n = 0
    · subst h; rw [a0D]; intro d hd; simp at hd
    · rw [a5B h]
      intro d hd
      rcases List.mem_cons.1 hd with rfl | hd
      · exact Nat.mod_lt _ (by decide)
      · exact ih (n / LB) (Nat.div_lt_self (by omega) (by decide)) d hd
theorem b7M : Lim [] := fun d hd => by simp at hd
theorem c7X {d : Nat} {l : List Nat} : Lim (d :: l) ↔ d < LB ∧ Lim l := by
  constructor
  · intro h; exact ⟨h d (by simp), fun e he => h e (by simp [he])⟩
  · rintro ⟨h1, h2⟩ e he
    rcases List.mem_cons.1 he with rfl | he
    · exact h1
    · exact h2 e he
theorem b7O {a b : List Nat} : Lim (a ++ b) ↔ Lim a ∧ Lim b := by
  constructor
  · intro h; exact ⟨fun d hd => h d (by simp [hd]), fun d hd => h d (by simp [hd])⟩
  · rintro ⟨h1, h2⟩ d hd
    rcases List.mem_append.1 hd with hd | hd
    · exact h1 d hd
    · exact h2 d hd
theorem Lim.take {l : List Nat} (h : Lim l) (n : Nat) : Lim (l.take n) := fun d hd => h d (List.mem_of_mem_take hd)
theorem Lim.drop {l : List Nat} (h : Lim l) (n : Nat) : Lim (l.drop n) := fun d hd => h d (List.mem_of_mem_drop hd)
theorem a6V (a b : List Nat) : val (a ++ b) = val a + LB ^ a.length * val b := by
  induction a with
  | nil => simp [val]
  | cons d a ih =>
    simp only [List.cons_append, val, ih, List.length_cons]
    rw [Nat.mul_add, ← Nat.mul_assoc, ← Nat.pow_succ', Nat.add_assoc]
theorem a0W {l : List Nat} (h : Lim l) : val l < LB ^ l.length := by
  induction l with
  | nil => simp [val]
  | cons d l ih =>
    have h' := c7X.1 h
    have := ih h'.2
    simp only [val, List.length_cons, Nat.pow_succ']
    have h1 : LB * (val l + 1) ≤ LB * LB ^ l.length := Nat.mul_le_mul_left _ this
    rw [Nat.mul_add, Nat.mul_one] at h1
    have := h'.1
    omega
theorem b4i (n : Nat) : val (List.replicate n 0) = 0 := by
  induction n with
  | zero => rfl
  | succ n ih => simp [List.replicate_succ, val, ih]
/-- A row without a nought at its end is the limbs of its number. -/
theorem a7B : ∀ {l : List Nat}, Lim l → (l.getLast?).getD 1 ≠ 0 → limbs (val l) = l
  | [], _, _ => a0D
  | d :: l, h, hl => by
    obtain ⟨h1, h2⟩ := c7X.1 h
    have hl' : (l.getLast?).getD 1 ≠ 0 := by
      cases l with
      | nil => simp
      | cons e l => simpa [List.getLast?_cons_cons] using hl
    have hne : val (d :: l) ≠ 0 := by
      intro h0
      simp only [val] at h0
      have hd : d = 0 := by omega
      have hv : val l = 0 := by
        have : LB * val l = 0 := by omega
        rcases Nat.mul_eq_zero.1 this with h | h
        · exact absurd h (by decide)
        · exact h
      have := a7B h2 hl'
      rw [hv, a0D] at this
      subst this
      subst hd
      simp at hl
    rw [a5B hne]
    simp only [val]
    rw [Nat.add_mul_mod_self_left, Nat.mod_eq_of_lt h1, Nat.add_mul_div_left _ _ (by decide), Nat.div_eq_of_lt h1, Nat.zero_add, a7B h2 hl']
theorem a5k (n : Nat) : ((limbs n).getLast?).getD 1 ≠ 0 := by
  induction n using Nat.strongRecOn with
  | _ n ih =>
    by_cases h : n = 0
    · subst h; rw [a0D]; simp
    · rw [a5B h]
      have := ih (n / LB) (Nat.div_lt_self (by omega) (by decide))
      cases hq : limbs (n / LB) with
      | nil =>
        have h0 : n / LB = 0 := by
          have := a0b (n / LB)
          rw [hq] at this
          exact this.symm
        have : n % LB = n := Nat.mod_eq_of_lt (by
          rcases Nat.lt_or_ge n LB with h' | h'
          · exact h'
          · have := Nat.div_pos h' (by decide); omega)
        simp [this, h]
      | cons e l =>
        rw [hq] at this
        simpa [List.getLast?_cons_cons] using this
theorem a0h {n k : Nat} (h : n < LB ^ k) : (limbs n).length ≤ k := by
  induction k generalizing n with
  | zero =>
    have : n = 0 := by simpa using h
    subst this; rw [a0D]; simp
  | succ k ih =>
    by_cases h0 : n = 0
    · subst h0; rw [a0D]; simp
    · rw [a5B h0, List.length_cons]
      have : n / LB < LB ^ k := by
        rw [Nat.div_lt_iff_lt_mul (by decide)]
        rwa [Nat.pow_succ] at h
      have := ih this
      omega
theorem d0H {n : Nat} (h : limbs n ≠ []) : LB ^ ((limbs n).length - 1) ≤ n := by
  induction n using Nat.strongRecOn with
  | _ n ih =>
    by_cases h0 : n = 0
    · subst h0; rw [a0D] at h; simp at h
    · rw [a5B h0, List.length_cons, Nat.add_sub_cancel]
      by_cases hq : limbs (n / LB) = []
      · rw [hq]; simp; omega
      · have := ih (n / LB) (Nat.div_lt_self (by omega) (by decide)) hq
        have hl : 0 < (limbs (n / LB)).length := List.length_pos_iff.2 hq
        have h1 : LB ^ (limbs (n / LB)).length = LB ^ ((limbs (n / LB)).length - 1) * LB := by
          rw [← Nat.pow_succ]; congr 1; omega
        rw [h1]
        exact Nat.le_trans (Nat.mul_le_mul_right _ this) (Nat.div_mul_le_self n LB)
theorem d6J (l : List Nat) : val (l ++ [0]) = val l := by rw [a6V]; simp [val]
theorem a2n (l : List Nat) (d : Nat) : val (l ++ [d]) = val l + LB ^ l.length * d := by rw [a6V]; simp [val]
theorem c6O {l : List Nat} {i : Nat} (h : i < l.length) : val (l.take (i + 1)) = val (l.take i) + LB ^ i * l[i] := by
  rw [List.take_succ_eq_append_getElem h, a2n, List.length_take, Nat.min_eq_left (by omega)]
theorem a0I {l : List Nat} (h : Lim l) (i : Nat) : l.getD i 0 < LB := by
  rw [List.getD_eq_getElem?_getD]
  rcases Nat.lt_or_ge i l.length with hi | hi
  · rw [List.getElem?_eq_getElem hi, Option.getD_some]; exact h _ (List.getElem_mem hi)
  · rw [List.getElem?_eq_none hi]; decide
/-- Up to a place; behind the end nothing comes. -/
theorem a0g (l : List Nat) (i : Nat) : val (l.take (i + 1)) = val (l.take i) + LB ^ i * l.getD i 0 := by
  rcases Nat.lt_or_ge i l.length with h | h
  · rw [c6O h, List.getD_eq_getElem?_getD, List.getElem?_eq_getElem h, Option.getD_some]
  · rw [List.take_of_length_le (by omega), List.take_of_length_le h, List.getD_eq_getElem?_getD, List.getElem?_eq_none h]; simp
theorem a4V (i : Nat) : 0 < LB ^ i := Nat.pow_pos (by decide)
/-- Which of two is greater is told from the top. -/
theorem b4j {a b : List Nat} {i : Nat} (ha : Lim a) (hb : Lim b) (h : a.drop (i + 1) = b.drop (i + 1)) (hi : i < a.length) (hi' : i < b.length) (hl : a.length = b.length) (hlt : a.getD i 0 < b.getD i 0) : val a < val b := by
  have e1 : a = a.take (i + 1) ++ a.drop (i + 1) := (List.take_append_drop _ _).symm
  have e2 : b = b.take (i + 1) ++ b.drop (i + 1) := (List.take_append_drop _ _).symm
  rw [e1, e2, a6V, a6V, h, a0g, a0g]
  have l1 : (a.take (i + 1)).length = i + 1 := by rw [List.length_take]; omega
  have l2 : (b.take (i + 1)).length = i + 1 := by rw [List.length_take]; omega
  rw [l1, l2]
  have h1 := a0W (ha.take i)
  rw [List.length_take, Nat.min_eq_left (by omega)] at h1
  have h2 : LB ^ i * (a.getD i 0 + 1) ≤ LB ^ i * b.getD i 0 := Nat.mul_le_mul_left _ hlt
  rw [Nat.mul_add] at h2
  omega
def blen (n : Nat) : Nat := if n = 0 then 0 else Nat.log2 n + 1
theorem d1u : blen 0 = 0 := rfl
theorem c8D (n : Nat) : n < 2 ^ blen n := by
  unfold blen
  split
  · rename_i h; subst h; decide
  · exact Nat.lt_log2_self
theorem b8f {n : Nat} (h : n ≠ 0) : 2 ^ (blen n - 1) ≤ n := by
  unfold blen
  rw [if_neg h, Nat.add_sub_cancel]
  exact Nat.log2_self_le h
theorem e3A {n k : Nat} (h1 : n < 2 ^ k) (h2 : k = 0 ∨ 2 ^ (k - 1) ≤ n) : blen n = k := by
  by_cases h0 : n = 0
  · subst h0
    rcases h2 with h2 | h2
    · rw [h2]; rfl
    · have := Nat.pow_pos (n := k - 1) (show 0 < 2 by decide); omega
  · have a := c8D n
    have b := b8f h0
    have c : 0 < blen n := by unfold blen; rw [if_neg h0]; omega
    have d : blen n - 1 < k := (Nat.pow_lt_pow_iff_right (by decide)).1 (Nat.lt_of_le_of_lt b h1)
    have e : k - 1 < blen n := by
      rcases h2 with h2 | h2
      · omega
      · exact (Nat.pow_lt_pow_iff_right (by decide)).1 (Nat.lt_of_le_of_lt h2 a)
    omega
/-- The lowest k bits do not count where others stand above them. -/
theorem d4x {h k r : Nat} (hh : h ≠ 0) (hr : r < 2 ^ k) : blen (r + 2 ^ k * h) = k + blen h := by
  have a := c8D h
  have b := b8f hh
  have c : 0 < blen h := by unfold blen; rw [if_neg hh]; omega
  refine e3A ?_ (.inr ?_)
  · rw [Nat.pow_add]
    have : 2 ^ k * (h + 1) ≤ 2 ^ k * 2 ^ blen h := Nat.mul_le_mul_left _ a
    rw [Nat.mul_add] at this
    omega
  · rw [show k + blen h - 1 = k + (blen h - 1) by omega, Nat.pow_add]
    have : 2 ^ k * 2 ^ (blen h - 1) ≤ 2 ^ k * h := Nat.mul_le_mul_left _ b
    omega
theorem c8E {n k : Nat} (h : 2 ^ k ≤ n) : blen n = k + blen (n / 2 ^ k) := by
  have hp : 0 < 2 ^ k := Nat.pow_pos (by decide)
  have h0 : n / 2 ^ k ≠ 0 := by
    have := Nat.div_pos h hp; omega
  have := d4x (r := n % 2 ^ k) h0 (Nat.mod_lt _ hp)
  rwa [Nat.mod_add_div] at this
theorem d7T (i : Nat) : LB ^ i = 2 ^ (32 * i) := by rw [Nat.pow_mul]
theorem b8e {l : List Nat} {d : Nat} (hl : Lim l) (hd : d ≠ 0) : blen (val (l ++ [d])) = 32 * l.length + blen d := by
  rw [a2n, d7T]
  exact d4x hd (by rw [← d7T]; exact a0W hl)
theorem a0Q {l : List Nat} (h : Lim l) : (limbs (val l)).length ≤ l.length := a0h (a0W h)
/-- A row that may be handed round. -/
structure Nt (l : List Nat) : Prop where
  lim : Lim l
  len : l.length ≤ 17592186044416
theorem Nt.limbs {l : List Nat} (h : Nt l) : Nt (limbs (val l)) := ⟨a0c _, Nat.le_trans (a0Q h.lim) h.len⟩
theorem c2k (x : List Nat) (k d : Nat) : (x ++ List.replicate (k + 1) 0).set x.length d = (x ++ [d]) ++ List.replicate k 0 := by
  rw [List.set_append_right _ _ (Nat.le_refl _), Nat.sub_self, List.replicate_succ, List.set_cons_zero]; simp
/-- One place of a sum. -/
theorem c6S {vd pa pb B c x y i : Nat} (h : vd + B * c = pa + pb) : (vd + B * ((c + x + y) % LB)) + (B * LB) * ((c + x + y) / LB) = (pa + B * x) + (pb + B * y) := by
  have e : (c + x + y) % LB + LB * ((c + x + y) / LB) = c + x + y := Nat.mod_add_div _ _
  have e2 : B * ((c + x + y) % LB) + (B * LB) * ((c + x + y) / LB) = B * (c + x + y) := by rw [Nat.mul_assoc, ← Nat.mul_add, e]
  have e3 : B * (c + x + y) = B * c + B * x + B * y := by rw [Nat.mul_add, Nat.mul_add]
  omega
theorem a1m {x : List Nat} {d : Nat} (h : Lim x) (hd : d < LB) : Lim (x ++ [d]) := b7O.2 ⟨h, by intro e he; simp at he; omega⟩
theorem d6K {w : List Nat} {k d : Nat} (h : k < w.length) : val (w.set k d) + LB ^ k * w.getD k 0 = val w + LB ^ k * d := by
  induction w generalizing k with
  | nil => simp at h
  | cons e w ih =>
    cases k with
    | zero => simp only [List.set_cons_zero, val, Nat.pow_zero, Nat.one_mul, List.getD_cons_zero]; omega
    | succ k =>
      simp only [List.set_cons_succ, val, List.getD_cons_succ, Nat.pow_succ']
      have := ih (k := k) (by simpa using h)
      have e1 : LB * (val (w.set k d) + LB ^ k * w.getD k 0) = LB * (val w + LB ^ k * d) := by rw [this]
      rw [Nat.mul_add, Nat.mul_add, ← Nat.mul_assoc, ← Nat.mul_assoc] at e1
      omega
theorem d7R {w : List Nat} {k d : Nat} (h : Lim w) (hd : d < LB) : Lim (w.set k d) := by
  intro e he
  rcases List.mem_or_eq_of_mem_set he with h' | h'
  · exact h e h'
  · rw [h']; exact hd
/-- One place of a difference. -/
theorem d0I {vx va vb B bo bo' d x y : Nat} (h : va + B * bo = vx + vb) (hd : x + LB * bo' = d + bo + y) : (va + B * x) + (B * LB) * bo' = (vx + B * d) + (vb + B * y) := by
  have e : B * (x + LB * bo') = B * (d + bo + y) := by rw [hd]
  rw [Nat.mul_add, Nat.mul_add, Nat.mul_add, ← Nat.mul_assoc] at e
  omega
/-- One place of a product. -/
theorem d3W {vw vx A B C c x y q vb vs t : Nat} (hC : C = A * B) (h : vw + C * c = vx + A * (x * vb)) (hs : vs + C * q = vw + C * (t % LB)) (ht : t = c + x * y + q) :
    vs + (C * LB) * (t / LB) = vx + A * (x * (vb + B * y)) := by
  have e : t % LB + LB * (t / LB) = t := Nat.mod_add_div _ _
  have e1 : C * (t % LB) + (C * LB) * (t / LB) = C * t := by rw [Nat.mul_assoc, ← Nat.mul_add, e]
  have e2 : C * t = C * c + C * (x * y) + C * q := by rw [ht, Nat.mul_add, Nat.mul_add]
  have e3 : A * (x * (vb + B * y)) = A * (x * vb) + C * (x * y) := by
    rw [hC, Nat.mul_add, Nat.mul_add, Nat.mul_assoc A B, Nat.mul_left_comm B x y]
  omega
theorem d3X {c x y q : Nat} (hc : c < LB) (hx : x < LB) (hy : y < LB) (hq : q < LB) : c + x * y + q < LB * LB := by
  have : x * y ≤ (LB - 1) * (LB - 1) := Nat.mul_le_mul (by omega) (by omega)
  have e : (LB - 1) * (LB - 1) + (LB - 1) + (LB - 1) < LB * LB := by decide
  omega
theorem c2c : ∀ {a b : List Nat}, (∀ i, a.getD i 0 = b.getD i 0) → val a = val b
  | [], [], _ => rfl
  | [], e :: b, h => by
    have h0 : 0 = e := by simpa using h 0
    have := c2c (a := []) (b := b) fun i => by simpa using h (i + 1)
    simp only [val] at this ⊢
    rw [← h0, ← this, Nat.mul_zero]
  | d :: a, [], h => by
    have h0 : d = 0 := by simpa using h 0
    have := c2c (a := a) (b := []) fun i => by simpa using h (i + 1)
    simp only [val] at this ⊢
    rw [h0, this, Nat.mul_zero]
  | d :: a, e :: b, h => by
    have h0 : d = e := by simpa using h 0
    have := c2c (a := a) (b := b) fun i => by simpa using h (i + 1)
    simp only [val, h0, this]
theorem c3N (a : List Nat) (n i : Nat) : (a.drop n).getD i 0 = a.getD (n + i) 0 := by simp [List.getD_eq_getElem?_getD, List.getElem?_drop]
theorem a2Y (a : List Nat) (n : Nat) : val a = val (a.take n) + LB ^ n * val (a.drop n) := by
  rcases Nat.lt_or_ge a.length n with h | h
  · rw [List.take_of_length_le (by omega), List.drop_of_length_le (by omega)]; simp [val]
  · have := a6V (a.take n) (a.drop n)
    rwa [List.take_append_drop, List.length_take, Nat.min_eq_left h] at this
theorem a2J {a : List Nat} (h : Lim a) (n : Nat) : val (a.take n) < LB ^ n := by
  have h1 := a0W (h.take n)
  have h2 : LB ^ (a.take n).length ≤ LB ^ n := Nat.pow_le_pow_right (by decide) (by rw [List.length_take]; omega)
  omega
theorem b0l {a b : List Nat} {i : Nat} (ha : Lim a) (hb : Lim b) (h : ∀ j, i < j → a.getD j 0 = b.getD j 0) (hlt : a.getD i 0 < b.getD i 0) : val a < val b := by
  have e : val (a.drop (i + 1)) = val (b.drop (i + 1)) := c2c fun j => by rw [c3N, c3N]; exact h _ (by omega)
  rw [a2Y a (i + 1), a2Y b (i + 1), e, a0g, a0g]
  have h1 := a2J ha i
  have h2 : LB ^ i * (a.getD i 0 + 1) ≤ LB ^ i * b.getD i 0 := Nat.mul_le_mul_left _ hlt
  rw [Nat.mul_add] at h2
  omega
theorem a6p {a : List Nat} {i : Nat} (h : a.length ≤ i) : a.getD i 0 = 0 := by rw [List.getD_eq_getElem?_getD, List.getElem?_eq_none h]; rfl
theorem a6W {l : List Nat} {i : Nat} (h : i < l.length) : l.take (i + 1) = l.take i ++ [l.getD i 0] := by
  rw [List.take_succ_eq_append_getElem h, List.getD_eq_getElem?_getD, List.getElem?_eq_getElem h, Option.getD_some]
end Go.Abs
set_option linter.unusedVariables false
set_option linter.unusedSimpArgs false
set_option linter.defProp false
namespace Go.Abs
def u32s (l : List Nat) : List AV := l.map fun n : Nat => .int .u32 (n : Int)
def natV (l : List Nat) : AV := .sl 1 (u32s l)
theorem a0u (l : List Nat) : (u32s l).length = l.length := by simp [u32s]
theorem b3e (a b : List Nat) : u32s (a ++ b) = u32s a ++ u32s b := by simp [u32s]
theorem d9t : u32s [] = [] := rfl
theorem c2d (d : Nat) (l : List Nat) : u32s (d :: l) = .int .u32 (d : Int) :: u32s l := rfl
theorem b4k (l : List Nat) (n : Nat) : (u32s l).take n = u32s (l.take n) := by simp [u32s, List.map_take]
theorem c1s (l : List Nat) (i d : Nat) : (u32s l).set i (.int .u32 (d : Int)) = u32s (l.set i d) := by simp [u32s, List.map_set]
theorem b0m {l : List Nat} {i : Nat} (h : i < l.length) : (u32s l).getD i .top = .int .u32 (l.getD i 0 : Nat) := by
  simp [u32s, h]
theorem d6M (l : List Nat) : (u32s l).flatMap AV.cells = u32s l := by
  induction l with
  | nil => rfl
  | cons d l ih => rw [c2d, List.flatMap_cons, ih]; rfl
theorem d9s (n : Nat) : List.replicate n (AV.int .u32 0) = u32s (List.replicate n 0) := by simp [u32s]
theorem d6N {l : List Nat} {a : AV} (h : a ∈ u32s l) : Cl a := by
  obtain ⟨n, _, rfl⟩ := List.mem_map.1 h; exact .int _ _
theorem a7U {l : List Nat} {a : AV} (h : a ∈ (u32s l).flatMap AV.cells) : Cl a := by rw [d6M] at h; exact d6N h
theorem a0j (l : List Nat) : ∀ a ∈ (Blk.mk 1 (u32s l)).flat, Cl a := fun a h => a7U h
theorem a0P (l : List Nat) : Cl (natV l) := .sl 1 _ fun c h => a7U h
theorem d5T (l : List Nat) : (natV l).cells = [natV l] := rfl
theorem e0d (l : List Nat) : (natV l).fit = true := rfl
theorem d0D (id : Nat) (l : List Nat) : nref id (natV l) = true := a2c (a0P l)
theorem c7T (l : List Nat) : clb (natV l) = true := c4s (a0P l)
theorem e0c (id : Nat) (b : Blk) (l : List Nat) : frz id b (natV l) = natV l := b1d (a0P l)
theorem d7F (id : Nat) (b : Blk) (l : List Nat) : (u32s l).map (frz id b) = u32s l := by
  rw [List.map_congr_left (g := fun x => x) fun a h => b1d (d6N h)]; simp
theorem a6e (H : Heap) (l : List Nat) : lenV H (natV l) = some (.int .i64 l.length) := by simp [natV, d2R, a0u]
theorem b6o (H : Heap) (l : List Nat) : a0V H 1 false (natV l) = some (u32s l) := a1X H 1 _
theorem a0z (H : Heap) (l : List Nat) (k : IntKind) (i : Nat) (h : i < l.length) : idxV H 1 (natV l) (.int k i) = some (.ro (.int .u32 (l.getD i 0 : Nat)) 0) := by
  rw [natV, d8f _ _ _ _ _ (by omega) (by rw [a0u]; omega)]
  rw [Int.toNat_natCast, b0m h]
theorem e0b (H : Heap) (l : List Nat) (k : IntKind) (n : Nat) (h : n ≤ l.length) : slcV H 1 (natV l) none (some (.int k n)) none = some (natV (l.take n)) := by
  simp only [natV, slcV, a2t, Option.bind_some, a0u]
  rw [if_pos ⟨trivial, by omega, by omega, by omega⟩]
  simp [b4k]
theorem e4w (H L : Heap) (i off len : Nat) (oc : Option Nat) {b : Blk} (h : L[i]? = some (some b)) : lenV (hap H L) (.mu (lid H i) off len oc) = some (.int .i64 len) := by
  rw [c3D, a1y, h]; simp
theorem d7G (H L : Heap) (wd i off len : Nat) (oc : Option Nat) (k : IntKind) (j : Nat) {b : Blk} (h : L[i]? = some (some b)) (hw : b.wd = wd) (hj : j < len) :
    idxV (hap H L) wd (.mu (lid H i) off len oc) (.int k j) = some (.loc (lid H i) (off + j) 0) := by
  rw [b7S _ _ _ _ _ _ _ _ (by omega) (by omega), a1y, h]; simp [hw]
theorem d4b (H L : Heap) (i k : Nat) {b : Blk} (h : L[i]? = some (some b)) (hk : k < b.xs.length) : atV (hap H L) (.loc (lid H i) k 0) = some (b.xs.getD k .top).cells := by
  rw [b1v, a1y, h]; simp [hk]
theorem a2X {n : Int} (h0 : 0 ≤ n) (h1 : n < 4294967296) : IntKind.wrap .u32 n = n := by
  simp [IntKind.wrap, IntKind.bits, IntKind.signed]; omega
theorem a0B {n : Int} (h0 : 0 ≤ n) (h1 : n < 18446744073709551616) : IntKind.wrap .u64 n = n := by
  simp [IntKind.wrap, IntKind.bits, IntKind.signed]; omega
theorem a0a {n : Int} (h0 : -9223372036854775808 ≤ n) (h1 : n < 9223372036854775808) : IntKind.wrap .i64 n = n := by
  simp [IntKind.wrap, IntKind.bits, IntKind.signed]; omega
theorem a1E (n : Nat) : IntKind.wrap .u32 (n : Int) = ((n % LB : Nat) : Int) := by
  simp [IntKind.wrap, IntKind.bits, IntKind.signed]
theorem a1b (n : Int) : IntKind.wrap .u64 n = n % 18446744073709551616 := by
  simp [IntKind.wrap, IntKind.bits, IntKind.signed]
theorem b3L (n0 : Nat) (env : Env) (H L : Heap) (l : List Nat) (h : l.length ≤ 17592186044416) :
    appV n0 1 4 false .nil (natV l) env (hap H L) = some (.mu (lid H L.length) 0 l.length none, env, hap H (L ++ [some ⟨1, u32s l⟩])) := by
  have := d4D n0 env H L 1 4 false (natV l) (u32s l) (b6o _ l) (by decide) (by rw [a0u]; omega) (by rw [a0u]; omega)
  rwa [a0u] at this
theorem c4w (n0 : Nat) (env : Env) (H L : Heap) (i len : Nat) (oc : Option Nat) (y : AV) (xs l : List Nat) (hH : a0L H) (hl : L[i]? = some (some ⟨1, u32s xs⟩)) (hlen : len = xs.length) (hn : n0 ≤ lid H i) (ha : d9l H L i)
    (hy : a0V (hap H L) 1 false y = some (u32s l)) (hb : xs.length + l.length ≤ 35184372088832) (hoc : (oc.any fun c => decide (len + l.length ≤ c)) = false := by rfl) :
    appV n0 1 4 false (.mu (lid H i) 0 len oc) y env (hap H L) = some (.mu (lid H i) 0 (len + l.length) (a0S oc (len + l.length)), scrub (lid H i) env, hap H (L.set i (some ⟨1, u32s (xs ++ l)⟩))) := by
  have := a5g n0 env H L 1 4 false i len oc y (u32s xs) (u32s l) hH hl (by rw [a0u]; exact hlen) hn hy ha (fun a h => (a7U h).ref) (by rw [a0u]; omega) (by rw [a0u]; omega) (by rw [a0u]; exact hoc)
  rwa [a0u, ← b3e] at this
theorem a7E (H : Heap) (i : Nat) (l : List Nat) (oc : Option Nat) : frz (lid H i) ⟨1, u32s l⟩ (.mu (lid H i) 0 l.length oc) = natV l := by
  rw [a8U _ _ _ _ _ (by rw [a0u])]; rfl
/-- The rules for numbers. -/
def EN := And.intro @a6e (And.intro @a7E (And.intro @d7F (And.intro @d0D (And.intro @c7T (And.intro @d5T (And.intro @e0d (And.intro @e0c (And.intro @b6o @a0u))))))))
theorem e2u (H : Heap) (X : Blk) (len : Nat) (oc : Option Nat) : lenV (hap H [some X]) (.mu (lid H 0) 0 len oc) = some (.int .i64 len) := e4w H [some X] 0 0 len oc rfl
theorem a8D (H : Heap) (X : List AV) (wd len : Nat) (oc : Option Nat) (k : IntKind) (j : Nat) (h : j < len) : idxV (hap H [some ⟨wd, X⟩]) wd (.mu (lid H 0) 0 len oc) (.int k j) = some (.loc (lid H 0) j 0) := by
  rw [d7G H [some ⟨wd, X⟩] wd 0 0 len oc k j rfl rfl h, Nat.zero_add]
theorem e1x (H : Heap) (x : List Nat) (j : Nat) (h : j < x.length) : atV (hap H [some ⟨1, u32s x⟩]) (.loc (lid H 0) j 0) = some [.int .u32 (x.getD j 0 : Nat)] := by
  rw [d4b H [some ⟨1, u32s x⟩] 0 j rfl (by simpa [a0u] using h)]
  simp only [b0m h, AV.cells]
theorem c2E (H : Heap) (env : Env) (x : List Nat) (j d : Nat) (h : j < x.length) : a2r 1 (.loc (lid H 0) j 0) (.int .u32 (d : Int)) env (hap H [some ⟨1, u32s x⟩]) = some (.top, env, hap H [some ⟨1, u32s (x.set j d)⟩]) := by
  rw [b7n env H [some ⟨1, u32s x⟩] 1 0 j 0 _ rfl (by simpa [a0u] using h) rfl rfl (Nat.le_refl 1)]
  simp only [a2Z, c1s, List.set_cons_zero]
theorem b1H (env : Env) (H L : Heap) (k k' : IntKind) (n : Nat) (h : n ≤ 35184372088832) : c4L 1 4 (.int .u32 0) (.int k n) (.int k' n) env (hap H L) = some (.mu (lid H L.length) 0 n (some n), env, hap H (L ++ [some ⟨1, u32s (List.replicate n 0)⟩])) := by
  rw [d7L env H L 1 4 _ k k' n n (by decide) (Nat.le_refl _) (by omega) (by omega), d9s]
theorem b4h (n : Int) : IntKind.wrap .u32 n = n % 4294967296 := by
  simp [IntKind.wrap, IntKind.bits, IntKind.signed]
theorem e2a (t : Nat) : Int.fdiv (t : Int) (2 ^ min (Int.toNat 32) IntKind.u64.bits) = ((t / LB : Nat) : Int) := by
  rw [show (2 : Int) ^ min (Int.toNat 32) IntKind.u64.bits = (LB : Int) by decide, Int.fdiv_eq_ediv_of_nonneg _ (by decide)]; rfl
theorem c2F (H : Heap) (hH : a0L H) (n0 : Nat) (hn : n0 ≤ lid H 0) (env : Env) (x : List Nat) (d : Nat) (hb : x.length < 35184372088832) :
    appV n0 1 4 false (.mu (lid H 0) 0 x.length none) (.sl 1 [.int .u32 (d : Int)]) env (hap H [some ⟨1, u32s x⟩]) = some (.mu (lid H 0) 0 (x.length + 1) none, scrub (lid H 0) env, hap H [some ⟨1, u32s (x ++ [d])⟩]) := by
  have := c4w n0 env H [some ⟨1, u32s x⟩] 0 x.length none (.sl 1 [.int .u32 (d : Int)]) x [d] hH rfl rfl hn (a5f fun b hb a ha => by
    simp at hb; subst hb; exact a0j x a ha) (a1X _ 1 _) (by simp; omega)
  simpa [a0S] using this
theorem d7l (t : Nat) : binV .rem (.int .u64 (t : Int)) (.int .u64 4294967296) = some (.int .u64 ((t % LB : Nat) : Int)) := by
  rw [c8F _ _ _ (by decide), Int.tmod_eq_emod_of_nonneg (by omega)]; rfl
theorem e1v (t : Nat) (h : t < 18446744073709551616) : binV .quo (.int .u64 (t : Int)) (.int .u64 4294967296) = some (.int .u64 ((t / LB : Nat) : Int)) := by
  have hLB : LB = 4294967296 := rfl
  rw [c1G _ _ _ (by decide), Int.tdiv_eq_ediv_of_nonneg (by omega)]
  have : (t : Int) / 4294967296 = ((t / LB : Nat) : Int) := rfl
  rw [this, a0B (by omega) (by omega)]
def E1 := And.intro EV (And.intro EVC EN)
end Go.Abs
set_option linter.unusedVariables false
set_option linter.unusedSimpArgs false
set_option linter.defProp false
namespace Go.Abs
def sgn (neg : Bool) (n : Nat) : Int := if neg then -(n : Int) else n
/-- A number as it is handed round: a sign, limbs. -/
structure ZI where
  neg : Bool
  mag : List Nat
def ZI.av (x : ZI) : AV := .agg [.bool x.neg, natV x.mag]
def ZI.z (x : ZI) : Int := sgn x.neg (val x.mag)
/-- The number in its one form. -/
def canZ (z : Int) : ZI := ⟨decide (z < 0), limbs z.natAbs⟩
def Z (z : Int) : AV := .agg [.bool (decide (z < 0)), natV (limbs z.natAbs)]
theorem a2O (z : Int) : (canZ z).av = Z z := rfl
theorem a0s (z : Int) : (canZ z).z = z := by
  unfold canZ ZI.z sgn
  simp only [a0b, decide_eq_true_eq]
  split <;> omega
theorem e3L (neg : Bool) (n : Nat) : .agg [.bool (neg && decide (0 < n)), natV (limbs n)] = Z (sgn neg n) := by
  unfold Z sgn
  cases neg
  · simp <;> omega
  · rcases Nat.eq_zero_or_pos n with h | h
    · subst h; simp
    · simp [h]
theorem a4P (neg : Bool) : sgn neg 0 = 0 := by cases neg <;> rfl
theorem b3i (neg : Bool) (n : Nat) : (sgn neg n).natAbs = n := by cases neg <;> simp [sgn]
theorem Z_cl (z : Int) : Cl (Z z) := .agg _ (by intro c hc; simp at hc; rcases hc with rfl | rfl; exact .bool _; exact a0P _)
theorem ZI.cl (x : ZI) : Cl x.av := .agg _ (by intro c hc; simp at hc; rcases hc with rfl | rfl; exact .bool _; exact a0P _)
theorem e4X : Z 0 = .agg [.bool false, natV []] := by unfold Z; simp [a0D]
theorem le_zero : Le (.agg [.bool false, .nil]) (Z 0) := by rw [e4X]; exact Le.agg2 (Le.refl _) (Le.nil 1 (by decide))
/-- The number's limbs. -/
structure Zok (k : Nat) (x : ZI) : Prop where
  lim : Lim x.mag
  len : x.mag.length ≤ k
theorem Zok.mono {k m : Nat} {x : ZI} (h : Zok k x) (hk : k ≤ m) : Zok m x := ⟨h.lim, Nat.le_trans h.len hk⟩
theorem Zok.lt {k : Nat} {x : ZI} (h : Zok k x) : val x.mag < LB ^ k := by
  have h1 := a0W h.lim
  have h2 : LB ^ x.mag.length ≤ LB ^ k := Nat.pow_le_pow_right (by decide) h.len
  omega
theorem Zok.abs {k : Nat} {x : ZI} (h : Zok k x) : x.z.natAbs < LB ^ k := by unfold ZI.z; rw [b3i]; exact h.lt
theorem a0k {k : Nat} {z : Int} (h : z.natAbs < LB ^ k) : Zok k (canZ z) := ⟨a0c _, a0h h⟩
section
variable (n0 : Nat) (env : Env) (H L : Heap)
def cpyV (wd : Nat) (x y : AV) (env : Env) (H : Heap) : Option (AV × Env × Heap) := (a0V H wd false y).bind fun ys => match x with
      | .mu id off len _ => (hrow H id).bind fun r =>
          if r.wd = wd ∧ off + len ≤ r.xs.length then
            some (.int .i64 (min ys.length len : Nat), env, H.set id (some ⟨wd, r.xs.take off ++ ys.take (min ys.length len) ++ r.xs.drop (off + min ys.length len)⟩)) else none
      | _ => none
theorem e4J (wd : Nat) (a b : Src) : ev n0 (.cpy wd a b) env H = cpyV wd (a.ev env) (b.ev env) env H := by
  simp only [ev, cpyV]; cases a0V H wd false (b.ev env) <;> simp only [Option.bind_none, Option.bind_some]; split <;> simp_all
theorem d4s (wd i len : Nat) (oc : Option Nat) (y : AV) (xs ys : List AV) (hl : L[i]? = some (some ⟨wd, xs⟩)) (hlen : len = xs.length) (hy : a0V (hap H L) wd false y = some ys) (hle : len ≤ ys.length) :
    cpyV wd (.mu (lid H i) 0 len oc) y env (hap H L) = some (.int .i64 len, env, hap H (L.set i (some ⟨wd, ys.take len⟩))) := by
  subst hlen
  simp only [cpyV, hy, Option.bind_some, a1y, hl, Option.join_some, a5n]
  rw [if_pos ⟨trivial, by omega⟩]
  simp [Nat.min_eq_right hle]
end
def EI := @e4J
def E2 := And.intro @EV2 (And.intro @EI @E1)
end Go.Abs
set_option linter.unusedVariables false
set_option linter.unusedSimpArgs false
set_option linter.defProp false
namespace Go.Abs
theorem ZI.av_fit (x : ZI) : x.av.fit = true := rfl
theorem ZI.av_cells (x : ZI) : x.av.cells = [.bool x.neg, natV x.mag] := rfl
theorem ZI.av_nref (id : Nat) (x : ZI) : nref id x.av = true := a2c x.cl
theorem ZI.av_frz (id : Nat) (b : Blk) (x : ZI) : frz id b x.av = x.av := b1d x.cl
theorem e3M (z : Int) : (Z z).cells = [.bool (decide (z < 0)), natV (limbs z.natAbs)] := rfl
theorem e4Z (z : Int) : (Z z).fit = true := rfl
theorem e4Y (id : Nat) (z : Int) : nref id (Z z) = true := a2c (Z_cl z)
theorem e5q (id : Nat) (b : Blk) (z : Int) : frz id b (Z z) = Z z := b1d (Z_cl z)
def vecV (v : List ZI) : AV := .sl 2 (v.map ZI.av)
def matV (b : List (List ZI)) : AV := .sl 1 (b.map vecV)
theorem b3J {a : AV} (h : Cl a) : ∀ c ∈ a.cells, Cl c := by
  intro c hc
  cases a with
  | agg cs => cases h with | agg _ h => exact h c hc
  | _ => simp [AV.cells] at hc; subst hc; exact h
theorem e0O {α : Type} (wd : Nat) (f : α → AV) (l : List α) (h : ∀ x, Cl (f x)) : Cl (.sl wd (l.map f)) := by
  refine .sl wd _ fun c hc => ?_
  obtain ⟨x, hx, hc⟩ := List.mem_flatMap.1 hc
  obtain ⟨y, _, rfl⟩ := List.mem_map.1 hx
  exact b3J (h y) c hc
theorem a0e (v : List ZI) : Cl (vecV v) := e0O 2 _ v ZI.cl
theorem b3F (b : List (List ZI)) : Cl (matV b) := e0O 1 _ b a0e
theorem d4T (v : List ZI) : (vecV v).cells = [vecV v] := rfl
theorem d9p (v : List ZI) : (vecV v).fit = true := rfl
theorem d6I (id : Nat) (v : List ZI) : nref id (vecV v) = true := a2c (a0e v)
theorem d9q (v : List ZI) : clb (vecV v) = true := c4s (a0e v)
theorem d9o (id : Nat) (b : Blk) (v : List ZI) : frz id b (vecV v) = vecV v := b1d (a0e v)
theorem d5Y (v : List (List ZI)) : (matV v).cells = [matV v] := rfl
theorem e0g (v : List (List ZI)) : (matV v).fit = true := rfl
theorem d7M (id : Nat) (v : List (List ZI)) : nref id (matV v) = true := a2c (b3F v)
theorem e0h (v : List (List ZI)) : clb (matV v) = true := c4s (b3F v)
theorem e0f (id : Nat) (b : Blk) (v : List (List ZI)) : frz id b (matV v) = matV v := b1d (b3F v)
section
variable (H : Heap)
theorem d3I {α : Type} (wd : Nat) (f : α → AV) (l : List α) : lenV H (.sl wd (l.map f)) = some (.int .i64 l.length) := by rw [d2R, List.length_map]
theorem d6U {α : Type} (wd : Nat) (f : α → AV) (l : List α) (k : IntKind) (i : Nat) (h : i < l.length) : idxV H wd (.sl wd (l.map f)) (.int k i) = some (.ro (f l[i]) 0) := by
  rw [d8f _ _ _ _ _ (by omega) (by rw [List.length_map]; omega)]
  simp [h]
theorem d1T (v : List ZI) : lenV H (vecV v) = some (.int .i64 v.length) := d3I H 2 _ v
theorem c2b (v : List ZI) (k : IntKind) (i : Nat) (h : i < v.length) : idxV H 2 (vecV v) (.int k i) = some (.ro v[i].av 0) := d6U H 2 _ v k i h
theorem e2D (v : List (List ZI)) : lenV H (matV v) = some (.int .i64 v.length) := d3I H 1 _ v
theorem a2u (v : List (List ZI)) (k : IntKind) (i : Nat) (h : i < v.length) : idxV H 1 (matV v) (.int k i) = some (.ro (vecV v[i]) 0) := d6U H 1 _ v k i h
/-- The elements of a row of the call's own, each closed. -/
theorem a1T {α : Type} (wd : Nat) (f : α → AV) (l : List α) (h : ∀ x, Cl (f x)) : ∀ a ∈ (Blk.mk wd (l.map f)).flat, Cl a := by
  intro a ha
  obtain ⟨x, hx, hc⟩ := List.mem_flatMap.1 ha
  obtain ⟨y, _, rfl⟩ := List.mem_map.1 hx
  exact b3J (h y) a hc
theorem d8o {α : Type} (id : Nat) (b : Blk) (f : α → AV) (l : List α) (h : ∀ x, Cl (f x)) : (l.map f).map (frz id b) = l.map f := by
  rw [List.map_map]
  exact List.map_congr_left fun x _ => b1d (h x)
theorem a7F {α : Type} (i : Nat) (wd : Nat) (f : α → AV) (l : List α) (oc : Option Nat) : frz (lid H i) ⟨wd, l.map f⟩ (.mu (lid H i) 0 l.length oc) = .sl wd (l.map f) := by
  rw [a8U _ _ _ _ _ (by rw [List.length_map])]
theorem e3I {α : Type} (hH : a0L H) (L : Heap) (i : Nat) (n0 : Nat) (hn : n0 ≤ lid H i) (env : Env) (wd bytes : Nat) (f : α → AV) (hf : ∀ x, Cl (f x)) (l : List α) (x : α) (hl : L[i]? = some (some ⟨wd, l.map f⟩)) (hL : ∀ b, some b ∈ L → ∀ a ∈ b.flat, Cl a)
    (hb : (l.length + 1) * bytes ≤ 140737488355328) (hb' : l.length + 1 ≤ 9223372036854775807) :
    appV n0 wd bytes false (.mu (lid H i) 0 l.length none) (.sl wd [f x]) env (hap H L) = some (.mu (lid H i) 0 (l.length + 1) none, scrub (lid H i) env, hap H (L.set i (some ⟨wd, (l ++ [x]).map f⟩))) := by
  have := a5g n0 env H L wd bytes false i l.length none (.sl wd [f x]) (l.map f) [f x] hH hl (by rw [List.length_map]) hn (a1X _ wd _) (a5f hL) (by
    intro a ha
    simp at ha
    exact (b3J (hf x) a ha).ref) (by simpa using hb) (by simpa using hb') rfl
  simpa [a0S] using this
/-- One row alone. -/
theorem d4C {α : Type} (hH : a0L H) (n0 : Nat) (hn : n0 ≤ lid H 0) (env : Env) (wd bytes : Nat) (f : α → AV) (hf : ∀ x, Cl (f x)) (l : List α) (x : α) (hb : (l.length + 1) * bytes ≤ 140737488355328) (hb' : l.length + 1 ≤ 9223372036854775807) :
    appV n0 wd bytes false (.mu (lid H 0) 0 l.length none) (.sl wd [f x]) env (hap H [some ⟨wd, l.map f⟩]) = some (.mu (lid H 0) 0 (l.length + 1) none, scrub (lid H 0) env, hap H [some ⟨wd, (l ++ [x]).map f⟩]) := by
  have := e3I H hH [some ⟨wd, l.map f⟩] 0 n0 hn env wd bytes f hf l x rfl (by intro b hb; simp at hb; subst hb; exact a1T wd f l hf) hb hb'
  simpa using this
end
structure Vok (k : Nat) (v : List ZI) : Prop where
  len : v.length ≤ 2097152
  el : ∀ x ∈ v, Zok k x
structure Mok (k : Nat) (b : List (List ZI)) : Prop where
  len : b.length ≤ 2097152
  el : ∀ v ∈ b, Vok k v
theorem Vok.mono {k m : Nat} {v : List ZI} (h : Vok k v) (hk : k ≤ m) : Vok m v := ⟨h.len, fun x hx => (h.el x hx).mono hk⟩
theorem Mok.mono {k m : Nat} {b : List (List ZI)} (h : Mok k b) (hk : k ≤ m) : Mok m b := ⟨h.len, fun x hx => (h.el x hx).mono hk⟩
theorem Vok.get {k : Nat} {v : List ZI} (h : Vok k v) {i : Nat} (hi : i < v.length) : Zok k v[i] := h.el _ (List.getElem_mem hi)
theorem Mok.get {k : Nat} {v : List (List ZI)} (h : Mok k v) {i : Nat} (hi : i < v.length) : Vok k v[i] := h.el _ (List.getElem_mem hi)
theorem c8S : (0 < 2) = True := by decide
/-- The rules for vectors. -/
def EM := And.intro c8S <| And.intro @d1T (And.intro @e2D (And.intro @d4T (And.intro @d9p (And.intro @d6I (And.intro @d9q (And.intro @d9o (And.intro @d5Y (And.intro @e0g (And.intro @d7M (And.intro @e0h (And.intro @e0f
  (And.intro @ZI.av_fit (And.intro @ZI.av_cells (And.intro @ZI.av_nref (And.intro @ZI.av_frz (And.intro @e3M (And.intro @e4Z (And.intro @e4Y @e5q))))))))))))))))))
def zs (v : List ZI) : List Int := v.map ZI.z
def E3 := And.intro EM @E2
end Go.Abs
set_option linter.unusedVariables false
set_option linter.unusedSimpArgs false
set_option linter.defProp false
namespace Go.Abs
/-- The i-th entry of a vector, a matrix. -/
def zg (v : List ZI) (i : Nat) : Int := (v.getD i ⟨false, []⟩).z
def mg (b : List (List ZI)) (i : Nat) : List ZI := b.getD i []
theorem e1Q {v : List ZI} {i : Nat} (h : i < v.length) : zg v i = v[i].z := by simp [zg, h]
theorem a3H {b : List (List ZI)} {i : Nat} (h : i < b.length) : mg b i = b[i] := by simp [mg, h]
/-- The vector in the one form of these entries. -/
def vec (n : Nat) (f : Nat → Int) : List ZI := (List.range n).map fun i => canZ (f i)
def mat (n : Nat) (f : Nat → List ZI) : List (List ZI) := (List.range n).map f
theorem a0l (n : Nat) (f : Nat → Int) : (vec n f).length = n := by simp [vec]
theorem a0i (n : Nat) (f : Nat → List ZI) : (mat n f).length = n := by simp [mat]
theorem a7T (n : Nat) (f : Nat → Int) : vec (n + 1) f = vec n f ++ [canZ (f n)] := by simp [vec, List.range_succ]
theorem a3U (n : Nat) (f : Nat → List ZI) : mat (n + 1) f = mat n f ++ [f n] := by simp [mat, List.range_succ]
theorem d1U {n : Nat} {f : Nat → Int} {i : Nat} (h : i < (vec n f).length) : (vec n f)[i] = canZ (f i) := by simp [vec]
theorem d2N {n : Nat} {f : Nat → List ZI} {i : Nat} (h : i < (mat n f).length) : (mat n f)[i] = f i := by simp [mat]
theorem e3S {n : Nat} {f : Nat → Int} {i : Nat} (h : i < n) : zg (vec n f) i = f i := by
  rw [e1Q (by rw [a0l]; exact h), d1U, a0s]
theorem d3Z {n : Nat} {f : Nat → List ZI} {i : Nat} (h : i < n) : mg (mat n f) i = f i := by
  rw [a3H (by rw [a0i]; exact h), d2N]
theorem d1C {k n : Nat} {f : Nat → Int} (hn : n ≤ 2097152) (h : ∀ i, i < n → (f i).natAbs < LB ^ k) : Vok k (vec n f) := by
  refine ⟨by rw [a0l]; exact hn, fun x hx => ?_⟩
  obtain ⟨i, hi, rfl⟩ := List.mem_map.1 hx
  exact a0k (h i (List.mem_range.1 hi))
theorem c7U {k n : Nat} {f : Nat → List ZI} (hn : n ≤ 2097152) (h : ∀ i, i < n → Vok k (f i)) : Mok k (mat n f) := by
  refine ⟨by rw [a0i]; exact hn, fun x hx => ?_⟩
  obtain ⟨i, hi, rfl⟩ := List.mem_map.1 hx
  exact h i (List.mem_range.1 hi)
theorem Vok.abs {k : Nat} {v : List ZI} (h : Vok k v) (i : Nat) : (zg v i).natAbs < LB ^ k := by
  rcases Nat.lt_or_ge i v.length with hi | hi
  · rw [e1Q hi]; exact (h.get hi).abs
  · simp [zg, hi, ZI.z, sgn, val]
    exact Nat.pow_pos (by decide)
theorem Mok.row {k : Nat} {b : List (List ZI)} (h : Mok k b) (i : Nat) : Vok k (mg b i) := by
  rcases Nat.lt_or_ge i b.length with hi | hi
  · rw [a3H hi]; exact h.get hi
  · simp [mg, hi]
    exact ⟨by simp, by simp⟩
theorem d7U (a b : Nat) : LB ^ (a + b) = LB ^ a * LB ^ b := Nat.pow_add _ _ _
theorem c3E (a : Nat) : 0 < LB ^ a := Nat.pow_pos (by decide)
theorem d2S {a b : Nat} (h : a ≤ b) : LB ^ a ≤ LB ^ b := Nat.pow_le_pow_right (by decide) h
theorem a5v {x y : Int} {k l : Nat} (hx : x.natAbs < LB ^ k) (hy : y.natAbs < LB ^ l) : (x * y).natAbs < LB ^ (k + l) := by
  rw [Int.natAbs_mul, d7U]
  exact Nat.mul_lt_mul'' hx hy
theorem d9f {x y : Int} {k : Nat} (hx : x.natAbs < LB ^ k) (hy : y.natAbs < LB ^ k) : (x + y).natAbs < LB ^ (k + 1) := by
  have h := Int.natAbs_add_le x y
  rw [d7U]
  have : LB = 4294967296 := rfl
  have := c3E k
  rw [Nat.pow_one]
  generalize LB ^ k = c at *
  calc (x + y).natAbs ≤ x.natAbs + y.natAbs := h
    _ < c * 2 := by omega
    _ ≤ c * LB := Nat.mul_le_mul_left _ (by decide)
theorem e1W {x y : Int} {k : Nat} (hx : x.natAbs < LB ^ k) (hy : y.natAbs < LB ^ k) : (x - y).natAbs < LB ^ (k + 1) := by
  rw [Int.sub_eq_add_neg]
  exact d9f hx (by rwa [Int.natAbs_neg])
section
variable {H : Heap}
/-- c6H rows. -/
def RC (L : Heap) : Prop := ∀ b, some b ∈ L → ∀ a ∈ b.flat, Cl a
theorem RC.nil : RC [] := fun b h => by cases h
theorem RC.none {L : Heap} (h : RC L) : RC (none :: L) := fun b hb a ha => by
  rcases List.mem_cons.1 hb with e | e
  · cases e
  · exact h b e a ha
theorem RC.cons {b : Blk} {L : Heap} (hb : ∀ a ∈ b.flat, Cl a) (h : RC L) : RC (some b :: L) := fun c hc a ha => by
  rcases List.mem_cons.1 hc with e | e
  · cases e; exact hb a ha
  · exact h c e a ha
theorem RC.row {α : Type} {wd : Nat} {f : α → AV} {l : List α} {L : Heap} (hf : ∀ x, Cl (f x)) (h : RC L) : RC (some ⟨wd, l.map f⟩ :: L) := .cons (a1T wd f l hf) h
theorem RC.one {wd : Nat} {x : AV} {L : Heap} (hx : Cl x) (h : RC L) : RC (some ⟨wd, [x]⟩ :: L) := .cons (fun a ha => by
  simp only [Blk.flat, List.flatMap_cons, List.flatMap_nil, List.append_nil] at ha
  exact b3J hx a ha) h
theorem RC.emp {wd : Nat} {L : Heap} (h : RC L) : RC (some ⟨wd, []⟩ :: L) := .cons (fun a ha => by cases ha) h
theorem RC.zero {L : Heap} (h : RC L) : RC (some ⟨2, [.agg [.bool false, .nil]]⟩ :: L) := .one (.agg _ (by
  intro c hc
  simp only [List.mem_cons, List.not_mem_nil, or_false] at hc
  rcases hc with rfl | rfl
  · exact .bool _
  · exact .nil)) h
theorem a6T {α : Type} (hH : a0L H) {L : Heap} (i : Nat) {n0 : Nat} (hn : n0 ≤ lid H i) {env : Env} {wd bytes : Nat} {f : α → AV} (hf : ∀ x, Cl (f x)) (l : List α) (x : α) (l' : List α) {y : AV} {len : Nat}
    (hlen : len = l.length) (hl : L[i]? = some (some ⟨wd, l.map f⟩)) (hL : RC L) (hy : y = f x) (hl' : l' = l ++ [x]) (hb : (len + 1) * bytes ≤ 140737488355328) (hbb : len + 1 ≤ 9223372036854775807) :
    appV n0 wd bytes false (.mu (lid H i) 0 len none) (.sl wd [y]) env (hap H L) = some (.mu (lid H i) 0 (len + 1) none, scrub (lid H i) env, hap H (L.set i (some ⟨wd, l'.map f⟩))) := by
  subst hy
  subst hl'
  have := a5g n0 env H L wd bytes false i len none (.sl wd [f x]) (l.map f) [f x] hH hl (by rw [List.length_map]; exact hlen) hn (a1X _ wd _) (a5f hL) (by
    intro a ha
    simp at ha
    exact (b3J (hf x) a ha).ref) (by simpa using hb) (by simpa using hbb) rfl
  simpa [a0S] using this
theorem d3h {α : Type} (i wd : Nat) (f : α → AV) (l : List α) (len : Nat) (oc : Option Nat) (h : len = l.length) : frz (lid H i) ⟨wd, l.map f⟩ (.mu (lid H i) 0 len oc) = .sl wd (l.map f) := by
  subst h; exact a7F H i wd f l oc
section
variable {x : Cx} {todo : List AItem} {env : Env} {R : AV → Heap → Prop} {a b c d e : Option Blk}
theorem Safe.drop1 (hH : a0L H) (hx : x.n0 = H.length) (he : env.all (fun p => nref (lid H 1) p.2) = true) (hL : RC [a]) (h : Safe x todo env (hap H [a]) R) : Safe x todo env (hap H [a, b]) R := Safe.dropC (L := [a]) hH hx he hL h
theorem Safe.drop2 (hH : a0L H) (hx : x.n0 = H.length) (he : env.all (fun p => nref (lid H 2) p.2) = true) (hL : RC [a, b]) (h : Safe x todo env (hap H [a, b]) R) : Safe x todo env (hap H [a, b, c]) R := Safe.dropC (L := [a, b]) hH hx he hL h
theorem Safe.drop3 (hH : a0L H) (hx : x.n0 = H.length) (he : env.all (fun p => nref (lid H 3) p.2) = true) (hL : RC [a, b, c]) (h : Safe x todo env (hap H [a, b, c]) R) : Safe x todo env (hap H [a, b, c, d]) R := Safe.dropC (L := [a, b, c]) hH hx he hL h
theorem Safe.drop4 (hH : a0L H) (hx : x.n0 = H.length) (he : env.all (fun p => nref (lid H 4) p.2) = true) (hL : RC [a, b, c, d]) (h : Safe x todo env (hap H [a, b, c, d]) R) : Safe x todo env (hap H [a, b, c, d, e]) R := Safe.dropC (L := [a, b, c, d]) hH hx he hL h
end
end
end Go.Abs
set_option linter.unusedVariables false
set_option linter.unusedSimpArgs false
set_option linter.defProp false
namespace Go.Abs
section
variable {x : Cx} {todo : List AItem} {env : Env} {R : AV → Heap → Prop} {H : Heap} {b : Option Blk}
theorem Safe.drop0 (hH : a0L H) (hx : x.n0 = H.length) (he : env.all (fun p => nref (lid H 0) p.2) = true) (hL : RC []) (h : Safe x todo env (hap H []) R) : Safe x todo env (hap H [b]) R := Safe.dropC (L := []) hH hx he hL h
end
/-- One entry written. -/
def updF (f : Nat → Int) (i : Nat) (z : Int) : Nat → Int := fun k => if k = i then z else f k
theorem d1i (p : Nat → Prop) [DecidablePred p] : ∀ (n : Nat), (∀ i, i < n → p i) ∨ ∃ i, i < n ∧ ¬ p i ∧ ∀ j, j < i → p j
  | 0 => .inl fun i hi => absurd hi (by omega)
  | n + 1 => by
    rcases d1i p n with h | ⟨i, hi, h1, h2⟩
    · by_cases hp : p n
      · exact .inl fun i hi => by
          rcases Nat.lt_or_ge i n with h' | h'
          · exact h i h'
          · rw [show i = n by omega]; exact hp
      · exact .inr ⟨n, by omega, hp, h⟩
    · exact .inr ⟨i, by omega, h1, h2⟩
def Rect (b : List (List ZI)) : Prop := ∀ i, i < b.length → (mg b i).length = (mg b 0).length
def wid (b : List (List ZI)) : Nat := (mg b 0).length
theorem c5i (b : List (List ZI)) : Rect b ∨ ∃ i, i < b.length ∧ (mg b i).length ≠ (mg b 0).length ∧ ∀ j, j < i → (mg b j).length = (mg b 0).length :=
  d1i (fun i => (mg b i).length = (mg b 0).length) b.length
theorem a6j (H : Heap) (v : List (List ZI)) (k : IntKind) (h : 0 < v.length) : idxV H 1 (matV v) (.int k 0) = some (.ro (vecV v[0]) 0) := a2u H v k 0 h
theorem b1b (H : Heap) (i : Nat) (v : List ZI) (len : Nat) (oc : Option Nat) (h : len = v.length) : frz (lid H i) ⟨2, v.map ZI.av⟩ (.mu (lid H i) 0 len oc) = vecV v := d3h i 2 ZI.av v len oc h
theorem c8j (H : Heap) (i : Nat) (v : List (List ZI)) (len : Nat) (oc : Option Nat) (h : len = v.length) : frz (lid H i) ⟨1, v.map vecV⟩ (.mu (lid H i) 0 len oc) = matV v := d3h i 1 vecV v len oc h
theorem a5z (id : Nat) (b : Blk) (v : List ZI) : (v.map ZI.av).map (frz id b) = v.map ZI.av := d8o id b ZI.av v ZI.cl
theorem a2M (id : Nat) (b : Blk) (v : List (List ZI)) : (v.map vecV).map (frz id b) = v.map vecV := d8o id b vecV v a0e
end Go.Abs
set_option linter.unusedVariables false
set_option linter.unusedSimpArgs false
namespace Go.Abs
/-- The guess is not below the digit. -/
theorem d4f {u v : List Nat} {n : Nat} (hu : Lim u) (hv : Lim v) (hun : u.length = n + 1) (hvn : v.length = n) (hn : 0 < n) (hv0 : 0 < val v) (hlt : val u < LB * val v) (ht : 0 < v.getD (n - 1) 0) :
    val u / val v ≤ min ((u.getD n 0 * LB + u.getD (n - 1) 0) / v.getD (n - 1) 0) (LB - 1) := by
  have hq1 : val u / val v ≤ LB - 1 := by
    have : val u / val v < LB := by rw [Nat.div_lt_iff_lt_mul hv0]; exact hlt
    omega
  refine Nat.le_min.2 ⟨?_, hq1⟩
  rw [Nat.le_div_iff_mul_le ht]
  have hs := a2Y u (n - 1)
  have hsv := a2Y v (n - 1)
  have hdu : val (u.drop (n - 1)) = u.getD (n - 1) 0 + LB * u.getD n 0 := by
    have e : u.drop (n - 1) = [u.getD (n - 1) 0, u.getD n 0] := by
      apply List.ext_getElem
      · simp; omega
      · intro i h1 h2
        match i with
        | 0 => simp [List.getD_eq_getElem?_getD, List.getElem?_eq_getElem (show n - 1 < u.length by omega)]
        | 1 =>
          simp only [List.getElem_drop, List.getElem_cons_succ, List.getElem_cons_zero]
          rw [List.getD_eq_getElem?_getD, List.getElem?_eq_getElem (show n < u.length by omega)]
          simp only [show n - 1 + 1 = n by omega]; rfl
        | i + 2 => simp at h2; omega
    rw [e]; simp [val]
  have hdv : val (v.drop (n - 1)) = v.getD (n - 1) 0 := by
    have e : v.drop (n - 1) = [v.getD (n - 1) 0] := by
      apply List.ext_getElem
      · simp; omega
      · intro i h1 h2
        match i with
        | 0 => simp [List.getD_eq_getElem?_getD, List.getElem?_eq_getElem (show n - 1 < v.length by omega)]
        | i + 1 => simp at h2
    rw [e]; simp [val]
  have htu := a2J hu (n - 1)
  have hle : val u / val v * val v ≤ val u := Nat.div_mul_le_self _ _
  generalize val u / val v = q at *
  generalize hP : LB ^ (n - 1) = P at *
  have hPp : 0 < P := by rw [← hP]; exact Nat.pow_pos (by decide)
  rw [hdu] at hs
  rw [hdv] at hsv
  generalize v.getD (n - 1) 0 = vt at *
  have e2 : LB * u.getD n 0 = u.getD n 0 * LB := Nat.mul_comm _ _
  generalize u.getD (n - 1) 0 = ua at *
  have hbig : q * vt * P < (u.getD n 0 * LB + ua + 1) * P := by
    have h1 : q * (P * vt) ≤ q * val v := Nat.mul_le_mul_left _ (by omega)
    have h2 : q * (P * vt) = q * vt * P := by rw [Nat.mul_comm P vt, Nat.mul_assoc]
    have h3 : (u.getD n 0 * LB + ua + 1) * P = P * (ua + LB * u.getD n 0) + P := by
      rw [Nat.add_mul, Nat.one_mul, Nat.mul_comm _ P, e2, Nat.add_comm ua]
    omega
  have := Nat.lt_of_mul_lt_mul_right hbig
  omega
end Go.Abs
set_option linter.unusedVariables false
set_option linter.unusedSimpArgs false
namespace Go.Abs
def fl (n : Nat) (f : Nat → Nat) : List Nat := (List.range n).map f
/-- A digit. -/
def dig (M i : Nat) : Nat := M / LB ^ i % LB
theorem b7c (M i : Nat) : dig M i < LB := Nat.mod_lt _ (by decide)
theorem a0Z (n : Nat) (f : Nat → Nat) : (fl n f).length = n := by simp [fl]
theorem b6L {n : Nat} {f : Nat → Nat} {i : Nat} (h : i < n) : (fl n f).getD i 0 = f i := by
  simp [fl, List.getD_eq_getElem?_getD, h]
theorem a2G {n : Nat} {f g : Nat → Nat} (h : ∀ i, i < n → f i = g i) : fl n f = fl n g := List.map_congr_left fun i hi => h i (List.mem_range.1 hi)
theorem d8u (n : Nat) (f : Nat → Nat) (i v : Nat) : (fl n f).set i v = fl n fun j => if j = i then v else f j := by
  apply List.ext_getElem
  · simp [fl]
  · intro j h1 h2
    rw [List.getElem_set]
    simp only [fl, List.getElem_map, List.getElem_range]
    by_cases h : i = j
    · subst h; simp
    · rw [if_neg h, if_neg (fun e => h e.symm)]
theorem e1F {n : Nat} {f : Nat → Nat} (h : ∀ i, i < n → f i < LB) : Lim (fl n f) := by
  intro d hd
  obtain ⟨i, hi, rfl⟩ := List.mem_map.1 hd
  exact h i (List.mem_range.1 hi)
theorem e2X (n : Nat) : List.replicate n 0 = fl n fun _ => 0 := by
  apply List.ext_getElem <;> simp [fl]
theorem c8o (n : Nat) (f : Nat → Nat) : fl (n + 1) f = fl n f ++ [f n] := by simp [fl, List.range_succ]
theorem e2Y {l : List Nat} {n : Nat} (h : l.length = n) : l = fl n fun i => l.getD i 0 := by
  subst h
  apply List.ext_getElem
  · simp [fl]
  · intro i h1 h2; simp [fl, List.getD_eq_getElem?_getD, h1]
theorem d3k {n k : Nat} (f : Nat → Nat) (h : k ≤ n) : (fl n f).take k = fl k f := by
  apply List.ext_getElem
  · simp [fl]; omega
  · intro i h1 h2; simp [fl]
theorem e1q (M : Nat) : ∀ n, val (fl n (dig M)) = M % LB ^ n
  | 0 => by simp [fl, val, Nat.mod_one]
  | n + 1 => by
    rw [c8o, a2n, e1q M n, a0Z, Nat.pow_succ, Nat.mod_mul]; rfl
theorem a1z {M n : Nat} (h : M < LB ^ n) : val (fl n (dig M)) = M := by rw [e1q, Nat.mod_eq_of_lt h]
theorem a2v (M n : Nat) : Lim (fl n (dig M)) := e1F fun i _ => b7c M i
/-- A row's digits. -/
theorem c8u {l : List Nat} (hl : Lim l) (i : Nat) : dig (val l) i = l.getD i 0 := by
  unfold dig
  rw [a2Y l i]
  rcases Nat.lt_or_ge l.length i with h | h
  · have : l.drop i = [] := List.drop_eq_nil_of_le (by omega)
    rw [this, List.take_of_length_le (by omega), a6p (by omega)]
    simp only [val, Nat.mul_zero, Nat.add_zero]
    have h2 : val l < LB ^ i := Nat.lt_of_lt_of_le (a0W hl) (Nat.pow_le_pow_right (by decide) (by omega))
    rw [Nat.div_eq_of_lt h2]; rfl
  · have h1 := a2J hl i
    rw [Nat.add_mul_div_left _ _ (a4V i), Nat.div_eq_of_lt h1, Nat.zero_add]
    have : l.getD i 0 = (l.drop i).getD 0 0 := by rw [c3N, Nat.add_zero]
    rw [this]
    cases hd : l.drop i with
    | nil => rfl
    | cons d r =>
      have hlt : d < LB := (hl.drop i) d (by rw [hd]; simp)
      simp only [val, List.getD_cons_zero]
      rw [Nat.add_mul_mod_self_left, Nat.mod_eq_of_lt hlt]
theorem b7N {l : List Nat} (hl : Lim l) {n : Nat} (h : l.length = n) : l = fl n (dig (val l)) := by
  rw [e2Y h]
  refine a2G fun i _ => ?_
  rw [← e2Y h, c8u hl]
theorem b1M {M i : Nat} (h : M < LB ^ i) : dig M i = 0 := by unfold dig; rw [Nat.div_eq_of_lt h]; rfl
theorem d8C (M a i : Nat) : dig (M / LB ^ a) i = dig M (a + i) := by
  unfold dig; rw [Nat.div_div_eq_div_mul, ← Nat.pow_add]
theorem c4i {M a i : Nat} (K : Nat) (h : i < a) : dig (M + LB ^ a * K) i = dig M i := by
  unfold dig
  have : LB ^ a * K = LB ^ i * (LB * (LB ^ (a - i - 1) * K)) := by
    rw [← Nat.mul_assoc LB, ← Nat.pow_succ', Nat.succ_eq_add_one, show a - i - 1 + 1 = a - i by omega, ← Nat.mul_assoc, ← Nat.pow_add, show i + (a - i) = a by omega]
  rw [this, Nat.add_mul_div_left _ _ (a4V i), Nat.add_mul_mod_self_left]
/-- Words side by side. -/
theorem e4r {x y : Nat} (k : Nat) (hx : x < 2 ^ (64 - k)) (hk : k ≤ 64) (hy : y < 2 ^ k) : (BitVec.ofInt 64 ((x * 2 ^ k : Nat) : Int) ||| BitVec.ofInt 64 ((y : Nat) : Int)).toNat = x * 2 ^ k + y := by
  have e : 2 ^ 64 = 2 ^ (64 - k) * 2 ^ k := by rw [← Nat.pow_add]; congr 1; omega
  have hx2 : x * 2 ^ k < 2 ^ 64 := by rw [e]; exact Nat.mul_lt_mul_of_pos_right hx (Nat.pow_pos (by decide))
  have hy2 : y < 2 ^ 64 := Nat.lt_of_lt_of_le hy (Nat.pow_le_pow_right (by decide) hk)
  rw [BitVec.toNat_or]
  simp only [BitVec.ofInt_natCast, BitVec.toNat_ofNat]
  rw [Nat.mod_eq_of_lt hx2, Nat.mod_eq_of_lt hy2]
  have := Nat.shiftLeft_add_eq_or_of_lt hy x
  rw [Nat.shiftLeft_eq] at this
  exact this.symm
theorem d9R {x y : Nat} (k : Nat) (hx : x < 2 ^ (32 - k)) (hk : k ≤ 32) (hy : y < 2 ^ k) : (BitVec.ofInt 32 ((y : Nat) : Int) ||| BitVec.ofInt 32 ((x * 2 ^ k : Nat) : Int)).toNat = x * 2 ^ k + y := by
  have e : 2 ^ 32 = 2 ^ (32 - k) * 2 ^ k := by rw [← Nat.pow_add]; congr 1; omega
  have hx2 : x * 2 ^ k < 2 ^ 32 := by rw [e]; exact Nat.mul_lt_mul_of_pos_right hx (Nat.pow_pos (by decide))
  have hy2 : y < 2 ^ 32 := Nat.lt_of_lt_of_le hy (Nat.pow_le_pow_right (by decide) hk)
  rw [BitVec.toNat_or]
  simp only [BitVec.ofInt_natCast, BitVec.toNat_ofNat]
  rw [Nat.mod_eq_of_lt hx2, Nat.mod_eq_of_lt hy2, Nat.or_comm]
  have := Nat.shiftLeft_add_eq_or_of_lt hy x
  rw [Nat.shiftLeft_eq] at this
  exact this.symm
theorem d1Z (B d L : Nat) : (B / L % d) * L + B % L = B - d * ((B / L / d) * L) ∧ d * ((B / L / d) * L) ≤ B := by
  have h1 := Nat.mod_add_div B L
  have h2 := Nat.mod_add_div (B / L) d
  have h3 : (B / L % d) * L + (d * (B / L / d)) * L = B / L * L := by rw [← Nat.add_mul, h2]
  have h4 : B / L * L = L * (B / L) := Nat.mul_comm _ _
  have h5 : d * (B / L / d * L) = (d * (B / L / d)) * L := (Nat.mul_assoc _ _ _).symm
  omega
theorem e4d (B d L : Nat) : ((B / L % d) * L + B % L) % d = B % d := by
  rw [(d1Z B d L).1, Nat.sub_mul_mod (d1Z B d L).2]
theorem e4e (B d L : Nat) : ((B / L % d) * L + B % L) / d = B / d % L := by
  rw [(d1Z B d L).1, Nat.sub_mul_div]
  have h2 : B / L / d = B / d / L := by rw [Nat.div_div_eq_div_mul, Nat.mul_comm, ← Nat.div_div_eq_div_mul]
  rw [h2]
  have h4 := Nat.mod_add_div (B / d) L
  have h5 : L * (B / d / L) = B / d / L * L := Nat.mul_comm _ _
  omega
theorem b1q (A i : Nat) : A / LB ^ (i + 1) = A / LB ^ i / LB := by rw [Nat.pow_succ, Nat.div_div_eq_div_mul]
theorem c2h (A d i : Nat) : ((A / LB ^ (i + 1) % d) * LB + dig A i) % d = A / LB ^ i % d := by
  rw [b1q]; exact e4d _ _ _
theorem c2i (A d i : Nat) : ((A / LB ^ (i + 1) % d) * LB + dig A i) / d = dig (A / d) i := by
  rw [b1q]
  have e : dig (A / d) i = A / LB ^ i / d % LB := by unfold dig; rw [Nat.div_div_eq_div_mul, Nat.mul_comm d, ← Nat.div_div_eq_div_mul]
  rw [e]
  exact e4e _ _ _
end Go.Abs
set_option linter.unusedVariables false
set_option linter.unusedSimpArgs false
set_option linter.defProp false
namespace Go.Abs
theorem a1V {x : Nat} (h : x < 18446744073709551616) : IntKind.wrap .u64 (x : Int) = (x : Int) := a0B (by omega) (by omega)
theorem c8U {x : Nat} (h : x < 9223372036854775808) : IntKind.wrap .i64 (x : Int) = (x : Int) := a0a (by omega) (by omega)
theorem c7O {x y : Nat} (h : 0 < y) (hx : x < 18446744073709551616) : binV .quo (.int .u64 (x : Int)) (.int .u64 (y : Int)) = some (.int .u64 ((x / y : Nat) : Int)) := by
  rw [c1G _ _ _ (by omega), Int.tdiv_eq_ediv_of_nonneg (by omega)]
  have h2 : x / y ≤ x := Nat.div_le_self _ _
  have : (x : Int) / (y : Int) = ((x / y : Nat) : Int) := rfl
  rw [this, a1V (by omega)]
theorem d7k {x y : Nat} (h : 0 < y) : binV .rem (.int .u64 (x : Int)) (.int .u64 (y : Int)) = some (.int .u64 ((x % y : Nat) : Int)) := by
  rw [c8F _ _ _ (by omega), Int.tmod_eq_emod_of_nonneg (by omega)]; rfl
theorem d9H {x y : Nat} (h : 0 < y) (hx : x < 9223372036854775808) : binV .quo (.int .i64 (x : Int)) (.int .i64 (y : Int)) = some (.int .i64 ((x / y : Nat) : Int)) := by
  rw [c1G _ _ _ (by omega), Int.tdiv_eq_ediv_of_nonneg (by omega)]
  have h2 : x / y ≤ x := Nat.div_le_self _ _
  have : (x : Int) / (y : Int) = ((x / y : Nat) : Int) := rfl
  rw [this, c8U (by omega)]
theorem d9F {x y : Nat} (h : 0 < y) : binV .rem (.int .i64 (x : Int)) (.int .i64 (y : Int)) = some (.int .i64 ((x % y : Nat) : Int)) := by
  rw [c8F _ _ _ (by omega), Int.tmod_eq_emod_of_nonneg (by omega)]; rfl
theorem a9m {x : Nat} (h : x < LB) : IntKind.wrap .u32 (x : Int) = (x : Int) := a2X (by omega) (by have : LB = 4294967296 := rfl; omega)
theorem a5j {x y : Nat} (h : x + y < 18446744073709551616) : IntKind.wrap .u64 ((x : Int) + (y : Int)) = ((x + y : Nat) : Int) := by rw [a0B (by omega) (by omega)]; omega
theorem b7k {x y : Nat} (h : x * y < 18446744073709551616) : IntKind.wrap .u64 ((x : Int) * (y : Int)) = ((x * y : Nat) : Int) := by
  rw [← Int.natCast_mul]; exact a1V h
/-- Shifts by less than 32. -/
theorem e4c {x n : Nat} (hx : x < LB) (hn : n < 33) : b0n .shl .u64 (x : Int) (n : Int) = some (.int .u64 ((x * 2 ^ n : Nat) : Int)) := by
  rw [c9b _ _ _ (by omega)]
  have hm : min (Int.toNat (n : Int)) IntKind.u64.bits = n := by
    show min n 64 = n
    omega
  rw [hm]
  have h2 : x * 2 ^ n < 18446744073709551616 := by
    have h3 : 2 ^ n ≤ 2 ^ 32 := Nat.pow_le_pow_right (by decide) (by omega)
    have h4 : x * 2 ^ n ≤ x * 2 ^ 32 := Nat.mul_le_mul_left _ h3
    have : LB = 4294967296 := rfl
    have : (2 : Nat) ^ 32 = 4294967296 := by decide
    omega
  have : (x : Int) * 2 ^ n = ((x * 2 ^ n : Nat) : Int) := by simp
  rw [this, a1V h2]
theorem e2b {x : Nat} (hx : x < LB) : b0n .shl .u64 (x : Int) 32 = some (.int .u64 ((x * LB : Nat) : Int)) := e4c (n := 32) hx (by decide)
theorem e1Z {x n : Nat} (hn : n ≤ 64) : b0n .shr .u64 (x : Int) (n : Int) = some (.int .u64 ((x / 2 ^ n : Nat) : Int)) := by
  rw [a3a _ _ _ (by omega)]
  have hm : min (Int.toNat (n : Int)) IntKind.u64.bits = n := by
    show min n 64 = n
    omega
  rw [hm, Int.fdiv_eq_ediv_of_nonneg _ (by exact Int.pow_nonneg (by decide))]
  have : (2 : Int) ^ n = ((2 ^ n : Nat) : Int) := by simp
  rw [this]; rfl
theorem d6W (x : Nat) : b0n .shr .u64 (x : Int) 32 = some (.int .u64 ((x / LB : Nat) : Int)) := e1Z (n := 32) (by decide)
theorem c2a {x y : Nat} (hx : x < LB) (hy : y < LB) : IntKind.wrap .u64 (((BitVec.ofInt (IntKind.bits .u64) ((x * LB : Nat) : Int) ||| BitVec.ofInt (IntKind.bits .u64) (y : Int)).toNat : Nat) : Int) = ((x * LB + y : Nat) : Int) := by
  have h := e4r (x := x) (y := y) 32 hx (by decide) hy
  have e : (2 : Nat) ^ 32 = LB := by decide
  rw [e] at h
  have h' : (BitVec.ofInt (IntKind.bits .u64) ((x * LB : Nat) : Int) ||| BitVec.ofInt (IntKind.bits .u64) (y : Int)).toNat = x * LB + y := h
  rw [h', a1V (by
    have : LB = 4294967296 := rfl
    have : x * LB ≤ 4294967295 * LB := Nat.mul_le_mul_right _ (by omega)
    omega)]
theorem d4Q {x y : Nat} (hx : x < LB) (hy : y < LB) : IntKind.wrap .u64 (((BitVec.ofInt (IntKind.bits .u64) (y : Int) ||| BitVec.ofInt (IntKind.bits .u64) ((x * LB : Nat) : Int)).toNat : Nat) : Int) = ((x * LB + y : Nat) : Int) := by
  rw [BitVec.or_comm]; exact c2a hx hy
theorem d6G {x y : Nat} (k : Nat) (hx : x < 2 ^ (32 - k)) (hk : k ≤ 32) (hy : y < 2 ^ k) : IntKind.wrap .u32 (((BitVec.ofInt (IntKind.bits .u32) (y : Int) ||| BitVec.ofInt (IntKind.bits .u32) ((x * 2 ^ k : Nat) : Int)).toNat : Nat) : Int) = ((x * 2 ^ k + y : Nat) : Int) := by
  have h : (BitVec.ofInt (IntKind.bits .u32) (y : Int) ||| BitVec.ofInt (IntKind.bits .u32) ((x * 2 ^ k : Nat) : Int)).toNat = x * 2 ^ k + y := d9R k hx hk hy
  rw [h, a9m]
  have e : 2 ^ 32 = 2 ^ (32 - k) * 2 ^ k := by rw [← Nat.pow_add]; congr 1; omega
  have h1 : (x + 1) * 2 ^ k ≤ 2 ^ (32 - k) * 2 ^ k := Nat.mul_le_mul_right _ hx
  rw [← e, Nat.add_mul] at h1
  have : LB = 2 ^ 32 := by decide
  omega
section
variable {H L : Heap} {n j len : Nat} {f : Nat → Nat} {oc : Option Nat} {k : IntKind} {env : Env}
theorem d6j (h : j < len) {X : List AV} : idxV (hap H (some ⟨1, X⟩ :: L)) 1 (.mu (lid H 0) 0 len oc) (.int k j) = some (.loc (lid H 0) j 0) := by
  rw [d7G H _ 1 0 0 len oc k j rfl rfl h, Nat.zero_add]
theorem e5o {a : Option Blk} (h : j < len) {X : List AV} : idxV (hap H (a :: some ⟨1, X⟩ :: L)) 1 (.mu (lid H 1) 0 len oc) (.int k j) = some (.loc (lid H 1) j 0) := by
  rw [d7G H _ 1 1 0 len oc k j rfl rfl h, Nat.zero_add]
theorem fat0 (h : j < n) : atV (hap H (some ⟨1, u32s (fl n f)⟩ :: L)) (.loc (lid H 0) j 0) = some [.int .u32 (f j : Nat)] := by
  rw [d4b H _ 0 j rfl (by rw [a0u, a0Z]; exact h)]
  simp only [b0m (l := fl n f) (i := j) (by rw [a0Z]; exact h), b6L h, AV.cells]
theorem fst0 (h : j < n) (d : Nat) : a2r 1 (.loc (lid H 0) j 0) (.int .u32 (d : Int)) env (hap H (some ⟨1, u32s (fl n f)⟩ :: L)) = some (.top, env, hap H (some ⟨1, u32s (fl n fun i => if i = j then d else f i)⟩ :: L)) := by
  rw [b7n env H _ 1 0 j 0 _ rfl (by rw [a0u, a0Z]; exact h) rfl rfl (Nat.le_refl 1)]
  simp only [a2Z, c1s, List.set_cons_zero, d8u]
theorem fst1 {a : Option Blk} (h : j < n) (d : Nat) : a2r 1 (.loc (lid H 1) j 0) (.int .u32 (d : Int)) env (hap H (a :: some ⟨1, u32s (fl n f)⟩ :: L)) = some (.top, env, hap H (a :: some ⟨1, u32s (fl n fun i => if i = j then d else f i)⟩ :: L)) := by
  rw [b7n env H _ 1 1 j 0 _ rfl (by rw [a0u, a0Z]; exact h) rfl rfl (Nat.le_refl 1)]
  simp only [a2Z, c1s, List.set_cons_succ, List.set_cons_zero, d8u]
theorem b7I {k' : IntKind} (h : n ≤ 35184372088832) : c4L 1 4 (.int .u32 0) (.int k n) (.int k' n) env (hap H L) = some (.mu (lid H L.length) 0 n (some n), env, hap H (L ++ [some ⟨1, u32s (fl n fun _ => 0)⟩])) := by
  rw [b1H env H L k k' n h, e2X]
theorem d1f (i : Nat) : frz (lid H i) ⟨1, u32s (fl n f)⟩ (.mu (lid H i) 0 n oc) = natV (fl n f) := by
  have := a7E H i (fl n f) oc
  rwa [a0Z] at this
end
end Go.Abs
namespace Go.Abs
def sumR (f : Nat → Rat) : Nat → Rat
  | 0 => 0
  | n + 1 => sumR f n + f n
theorem a1o {f g : Nat → Rat} : ∀ {n : Nat}, (∀ i, i < n → f i = g i) → sumR f n = sumR g n
  | 0, _ => rfl
  | n + 1, h => by rw [sumR, sumR, a1o fun i hi => h i (by omega), h n (by omega)]
theorem a5Z (x y : Rat) (f g : Nat → Rat) : ∀ n, sumR (fun i => x * f i + y * g i) n = x * sumR f n + y * sumR g n
  | 0 => by simp only [sumR]; grind
  | n + 1 => by simp only [sumR, a5Z x y f g n]; grind
theorem c2f {f : Nat → Rat} : ∀ {n : Nat}, (∀ i, i < n → f i = 0) → sumR f n = 0
  | 0, _ => rfl
  | n + 1, h => by rw [sumR, c2f fun i hi => h i (by omega), h n (by omega)]; grind
theorem b4l {f : Nat → Rat} {t : Nat} : ∀ {n : Nat}, t < n → (∀ i, i < n → i ≠ t → f i = 0) → sumR f n = f t
  | 0, h, _ => absurd h (by omega)
  | n + 1, h, h0 => by
    rw [sumR]
    by_cases e : t = n
    · subst e
      rw [c2f fun i hi => h0 i (by omega) (by omega)]; grind
    · rw [b4l (by omega) fun i hi he => h0 i (by omega) he, h0 n (by omega) (by omega)]; grind
theorem d3H {f : Nat → Rat} {t : Nat} : ∀ {n : Nat}, t + 1 < n → (∀ i, i < n → i ≠ t → i ≠ t + 1 → f i = 0) → sumR f n = f t + f (t + 1)
  | 0, h, _ => absurd h (by omega)
  | n + 1, h, h0 => by
    rw [sumR]
    by_cases e : t + 1 = n
    · subst e
      rw [b4l (t := t) (by omega) fun i hi he => h0 i (by omega) he (by omega)]
    · rw [d3H (t := t) (by omega) fun i hi h1 h2 => h0 i (by omega) h1 h2, h0 n (by omega) (by omega) (by omega)]; grind
def sg : Nat → Rat
  | 0 => 1
  | n + 1 => -sg n
def skip (i k : Nat) : Nat := if k < i then k else k + 1
def det : Nat → (Nat → Nat → Rat) → Rat
  | 0, _ => 1
  | n + 1, M => sumR (fun i => sg i * M i 0 * det n fun r c => M (skip i r) (c + 1)) (n + 1)
theorem d1X (i k : Nat) : skip i k ≠ i := by unfold skip; split <;> omega
theorem d1Y {i k n : Nat} (hk : k < n) : skip i k < n + 1 := by unfold skip; split <;> omega
theorem a1D : ∀ {n : Nat} {M N : Nat → Nat → Rat}, (∀ r c, r < n → c < n → M r c = N r c) → det n M = det n N
  | 0, _, _, _ => rfl
  | n + 1, M, N, h => by
    unfold det
    refine a1o fun i hi => ?_
    rw [h i 0 hi (by omega), a1D (n := n) fun r c hr hc => h (skip i r) (c + 1) (d1Y hr) (by omega)]
def a0t (M : Nat → Nat → Rat) (t : Nat) (u : Nat → Rat) : Nat → Nat → Rat := fun r c => if r = t then u c else M r c
theorem a3q (M : Nat → Nat → Rat) (t : Nat) : a0t M t (M t) = M := by
  funext r c; unfold a0t; split
  · rename_i h; rw [h]
  · rfl
/-- Row t of the part without row i. -/
def b0f (i t : Nat) : Nat := if t < i then t else t - 1
theorem c5d {i t r : Nat} (h : i ≠ t) : (skip i r = t) = (r = b0f i t) := by
  rw [eq_iff_iff]; unfold skip b0f
  split <;> split <;> omega
theorem b0p {M : Nat → Nat → Rat} {t i : Nat} {u : Nat → Rat} (h : i ≠ t) : (fun r c => a0t M t u (skip i r) (c + 1)) = a0t (fun r c => M (skip i r) (c + 1)) (b0f i t) fun c => u (c + 1) := by
  funext r c
  unfold a0t
  simp only [c5d h]
theorem a3r {M : Nat → Nat → Rat} {t : Nat} {u : Nat → Rat} : (fun r c => a0t M t u (skip t r) (c + 1)) = fun r c => M (skip t r) (c + 1) := by
  funext r c
  unfold a0t
  rw [if_neg (d1X t r)]
theorem c4m : ∀ {n : Nat} {M : Nat → Nat → Rat} {t : Nat} (x y : Rat) (u w : Nat → Rat), t < n → det n (a0t M t fun c => x * u c + y * w c) = x * det n (a0t M t u) + y * det n (a0t M t w)
  | 0, _, _, _, _, _, _, h => absurd h (by omega)
  | n + 1, M, t, x, y, u, w, h => by
    unfold det
    rw [← a5Z]
    refine a1o fun i hi => ?_
    by_cases e : i = t
    · subst e
      rw [a3r, a3r, a3r]
      simp only [a0t, if_true]
      grind
    · rw [b0p e, b0p e, b0p e, c4m x y _ _ (by unfold b0f; split <;> omega)]
      simp only [a0t, if_neg e]
      grind
theorem d3t : ∀ {n : Nat} {M : Nat → Nat → Rat} {t : Nat}, t + 1 < n → (∀ c, M t c = M (t + 1) c) → det n M = 0
  | 0, _, _, h, _ => absurd h (by omega)
  | n + 1, M, t, h, he => by
    unfold det
    have hm : (fun r c => M (skip t r) (c + 1)) = fun r c => M (skip (t + 1) r) (c + 1) := by
      funext r c
      unfold skip
      by_cases h1 : r < t
      · rw [if_pos h1, if_pos (by omega)]
      · rw [if_neg h1]
        by_cases h2 : r = t
        · rw [if_pos (by omega), h2, he]
        · rw [if_neg (by omega)]
    rw [d3H (t := t) h fun i hi h1 h2 => by
      have hz : det n (fun r c => M (skip i r) (c + 1)) = 0 := by
        refine d3t (t := if i < t then t - 1 else t) (by split <;> omega) fun c => ?_
        unfold skip
        by_cases h3 : i < t
        · rw [if_pos h3, if_neg (by omega), if_neg (by omega)]
          rw [show t - 1 + 1 = t by omega]
          exact he _
        · rw [if_neg h3, if_pos (by omega), if_pos (by omega)]
          exact he _
      rw [hz]; grind]
    rw [hm, he 0]
    simp only [sg]
    grind
/-- Two rows exchanged. -/
def a0H (s t : Nat) (M : Nat → Nat → Rat) : Nat → Nat → Rat := fun r c => if r = s then M t c else if r = t then M s c else M r c
theorem a1g {M : Nat → Nat → Rat} {s t : Nat} {u w : Nat → Rat} (h : s ≠ t) : a0t (a0t M s u) t w = a0t (a0t M t w) s u := by
  funext r c; unfold a0t
  by_cases h1 : r = t
  · by_cases h2 : r = s
    · omega
    · simp [h1]; intro e; omega
  · by_cases h2 : r = s
    · simp [h2]; intro e; omega
    · simp [h1, h2]
theorem d3u {n : Nat} {M : Nat → Nat → Rat} {t : Nat} (u w : Nat → Rat) (h : t < n) : det n (a0t M t fun c => u c + w c) = det n (a0t M t u) + det n (a0t M t w) := by
  have := c4m (M := M) 1 1 u w h
  have e : (fun c => (1 : Rat) * u c + 1 * w c) = fun c => u c + w c := by funext c; grind
  rw [e] at this
  grind
/-- If equal rows give 0, exchanged ones give the negative. -/
theorem c4k {n : Nat} {M : Nat → Nat → Rat} {s t : Nat} (hst : s ≠ t) (hs : s < n) (ht : t < n) (heq : ∀ N : Nat → Nat → Rat, (∀ c, N s c = N t c) → det n N = 0) : det n (a0H s t M) = -det n M := by
  let u := M s
  let w := M t
  have A : ∀ p q : Nat → Rat, (∀ c, p c = q c) → det n (a0t (a0t M s p) t q) = 0 := fun p q h => heq _ fun c => by
    unfold a0t
    simp [hst, h c]
  have h0 := A (fun c => u c + w c) (fun c => u c + w c) fun _ => rfl
  rw [d3u _ _ ht, a1g hst, a1g hst, d3u _ _ hs, d3u _ _ hs, ← a1g hst, ← a1g hst, ← a1g hst, ← a1g hst, A u u fun _ => rfl, A w w fun _ => rfl] at h0
  have e1 : a0t (a0t M s u) t w = M := by
    show a0t (a0t M s (M s)) t (M t) = M
    rw [a3q]; exact a3q M t
  have e2 : a0t (a0t M s w) t u = a0H s t M := by
    funext r c; unfold a0t a0H
    by_cases h1 : r = s
    · subst h1; simp [hst]; rfl
    · by_cases h2 : r = t
      · subst h2; simp [h1]; rfl
      · simp [h1, h2]
  rw [e1, e2] at h0
  grind
theorem d1m {n : Nat} {M : Nat → Nat → Rat} {t : Nat} (h : t + 1 < n) : det n (a0H t (t + 1) M) = -det n M :=
  c4k (by omega) (by omega) h fun N he => d3t h he
theorem d8E : ∀ (d : Nat) {n : Nat} {M : Nat → Nat → Rat} {s : Nat}, s + d + 1 < n → (∀ c, M s c = M (s + d + 1) c) → det n M = 0
  | 0, n, M, s, h, he => d3t (t := s) h he
  | d + 1, n, M, s, h, he => by
    have hsw := d1m (M := M) (t := s + d + 1) (n := n) (by omega)
    have : det n (a0H (s + d + 1) (s + d + 1 + 1) M) = 0 := d8E d (s := s) (by omega) fun c => by
      unfold a0H
      rw [if_neg (by omega), if_neg (by omega), if_pos rfl, he c]
      rfl
    rw [this] at hsw
    grind
theorem c4n {n : Nat} {M : Nat → Nat → Rat} {s t : Nat} (hst : s ≠ t) (hs : s < n) (ht : t < n) (he : ∀ c, M s c = M t c) : det n M = 0 := by
  rcases Nat.lt_or_gt_of_ne hst with h | h
  · exact d8E (t - s - 1) (s := s) (by omega) fun c => by rw [he c]; congr 1; omega
  · exact d8E (s - t - 1) (s := t) (by omega) fun c => by rw [← he c]; congr 1; omega
theorem d4p {n : Nat} {M : Nat → Nat → Rat} {s t : Nat} (hst : s ≠ t) (hs : s < n) (ht : t < n) : det n (a0H s t M) = -det n M :=
  c4k hst hs ht fun N he => c4n hst hs ht he
/-- So many times another row added. -/
theorem d6t {n : Nat} {M : Nat → Nat → Rat} {s t : Nat} (x : Rat) (hst : s ≠ t) (hs : s < n) (ht : t < n) : det n (a0t M t fun c => M t c + x * M s c) = det n M := by
  have h := c4m (M := M) 1 x (M t) (M s) ht
  have e : (fun c => (1 : Rat) * M t c + x * M s c) = fun c => M t c + x * M s c := by funext c; grind
  rw [e, a3q] at h
  have h0 : det n (a0t M t (M s)) = 0 := c4n hst hs ht fun c => by unfold a0t; simp [hst]
  rw [h, h0]
  grind
/-- What is left behind the first row and the first column. -/
def a4Q (M : Nat → Nat → Rat) : Nat → Nat → Rat := fun i k => M (i + 1) (k + 1) - M (i + 1) 0 / M 0 0 * M 0 (k + 1)
def a6q (M : Nat → Nat → Rat) (k : Nat) : Nat → Nat → Rat := fun r c => if 0 < r ∧ r ≤ k then M r c + -(M r 0 / M 0 0) * M 0 c else M r c
theorem d4q {n : Nat} (M : Nat → Nat → Rat) : ∀ k, k < n → det n (a6q M k) = det n M
  | 0, _ => by congr 1; funext r c; unfold a6q; rw [if_neg (by omega)]
  | k + 1, h => by
    rw [← d4q M k (by omega), ← d6t (M := a6q M k) (s := 0) (t := k + 1) (-(M (k + 1) 0 / M 0 0)) (by omega) (by omega) h]
    congr 1
    funext r c
    unfold a0t a6q
    by_cases e : r = k + 1
    · subst e
      rw [if_pos ⟨by omega, Nat.le_refl _⟩, if_pos rfl]
      show _ = (if 0 < k + 1 ∧ k + 1 ≤ k then _ else _) + _ * (if 0 < 0 ∧ 0 ≤ k then _ else _)
      rw [if_neg (by omega), if_neg (by omega)]
    · by_cases h2 : 0 < r ∧ r ≤ k
      · rw [if_pos ⟨h2.1, by omega⟩, if_neg e, if_pos h2]
      · rw [if_neg (by omega), if_neg e, if_neg h2]
theorem c4l {n : Nat} {M : Nat → Nat → Rat} (h : M 0 0 ≠ 0) : det (n + 1) M = M 0 0 * det n (a4Q M) := by
  rw [← d4q M n (by omega)]
  rw [det, b4l (t := 0) (by omega) fun i hi h0 => by
    have : a6q M n i 0 = 0 := by
      unfold a6q
      rw [if_pos ⟨by omega, by omega⟩]
      grind
    rw [this]; grind]
  have e0 : a6q M n 0 0 = M 0 0 := by unfold a6q; rw [if_neg (by omega)]
  rw [e0]
  have : det n (fun r c => a6q M n (skip 0 r) (c + 1)) = det n (a4Q M) := by
    refine a1D fun r c hr hc => ?_
    have hs : skip 0 r = r + 1 := by unfold skip; rw [if_neg (by omega)]
    rw [hs]
    unfold a6q a4Q
    rw [if_pos ⟨by omega, by omega⟩]
    generalize M (r + 1) 0 / M 0 0 = x
    grind
  rw [this]
  simp only [sg]
  grind
/-- A determinant of whole numbers is whole. -/
theorem d8D : ∀ {n : Nat} {M : Nat → Nat → Rat}, (∀ r c, ∃ z : Int, M r c = z) → ∃ z : Int, det n M = z
  | 0, _, _ => ⟨1, rfl⟩
  | n + 1, M, h => by
    unfold det
    have hs : ∀ i, ∃ z : Int, sg i = z := by
      intro i
      induction i with
      | zero => exact ⟨1, rfl⟩
      | succ i ih => obtain ⟨z, hz⟩ := ih; exact ⟨-z, by rw [sg, hz, Rat.intCast_neg]⟩
    have ht : ∀ i, ∃ z : Int, sg i * M i 0 * det n (fun r c => M (skip i r) (c + 1)) = z := fun i => by
      obtain ⟨a, ha⟩ := hs i
      obtain ⟨b, hb⟩ := h i 0
      obtain ⟨c, hc⟩ := d8D (n := n) (M := fun r c => M (skip i r) (c + 1)) fun r c => h _ _
      exact ⟨a * b * c, by rw [ha, hb, hc, Rat.intCast_mul, Rat.intCast_mul]⟩
    have : ∀ k, ∃ z : Int, sumR (fun i => sg i * M i 0 * det n fun r c => M (skip i r) (c + 1)) k = z := by
      intro k
      induction k with
      | zero => exact ⟨0, rfl⟩
      | succ k ih =>
        obtain ⟨z, hz⟩ := ih
        obtain ⟨y, hy⟩ := ht k
        exact ⟨z + y, by rw [sumR, hz, hy, Rat.intCast_add]⟩
    exact this (n + 1)
end Go.Abs
namespace Go.Abs
def SS : Nat → (Nat → Nat → Rat) → Nat → Nat → Rat
  | 0, M => M
  | r + 1, M => SS r (a4Q M)
def piv : Nat → (Nat → Nat → Rat) → Prop
  | 0, _ => True
  | r + 1, M => M 0 0 ≠ 0 ∧ piv r (a4Q M)
theorem d3y : ∀ (r : Nat) (M : Nat → Nat → Rat), SS (r + 1) M = a4Q (SS r M)
  | 0, _ => rfl
  | r + 1, M => d3y r (a4Q M)
theorem b6f : ∀ (r : Nat) (M : Nat → Nat → Rat), piv (r + 1) M ↔ piv r M ∧ SS r M 0 0 ≠ 0
  | 0, M => by simp [piv, SS]
  | r + 1, M => by
    have h := b6f r (a4Q M)
    show M 0 0 ≠ 0 ∧ piv (r + 1) (a4Q M) ↔ (M 0 0 ≠ 0 ∧ piv r (a4Q M)) ∧ SS r (a4Q M) 0 0 ≠ 0
    rw [h, and_assoc]
theorem e1I : ∀ (r n : Nat) {M : Nat → Nat → Rat}, piv r M → det (r + n) M = det r M * det n (SS r M)
  | 0, n, M, _ => by simp only [Nat.zero_add, det, SS]; grind
  | r + 1, n, M, h => by
    rw [show r + 1 + n = (r + n) + 1 by omega, c4l h.1, c4l h.1, e1I r n h.2]
    show _ = M 0 0 * det r (a4Q M) * det n (SS r (a4Q M))
    grind
theorem e3p (M : Nat → Nat → Rat) : det 1 M = M 0 0 := by
  simp only [det, sumR, sg]; grind
theorem c8w (r : Nat) {M : Nat → Nat → Rat} (h : piv r M) : det (r + 1) M = det r M * SS r M 0 0 := by
  rw [e1I r 1 h, e3p]
theorem e1H : ∀ (r : Nat) {M : Nat → Nat → Rat}, piv r M → det r M ≠ 0
  | 0, _, _ => by simp only [det]; grind
  | r + 1, M, h => by
    have h' := (b6f r M).1 h
    rw [c8w r h'.1]
    have := e1H r h'.1
    have := h'.2
    grind
/-- What is left depends on the first rows and columns, and on its own row and column. -/
theorem c4z : ∀ (r : Nat) {M N : Nat → Nat → Rat} {i j k l : Nat}, (∀ a b, a < r → b < r → M a b = N a b) → (∀ b, b < r → M (r + i) b = N (r + j) b) → (∀ a, a < r → M a (r + k) = N a (r + l)) → M (r + i) (r + k) = N (r + j) (r + l) → SS r M i k = SS r N j l
  | 0, M, N, i, j, k, l, _, _, _, h => by simpa [SS] using h
  | r + 1, M, N, i, j, k, l, h1, h2, h3, h4 => by
    show SS r (a4Q M) i k = SS r (a4Q N) j l
    have e : ∀ x : Nat, r + 1 + x = r + x + 1 := fun x => by omega
    have h2' : ∀ b, b < r + 1 → M (r + i + 1) b = N (r + j + 1) b := fun b hb => by rw [← e, ← e]; exact h2 b hb
    have h3' : ∀ a, a < r + 1 → M a (r + k + 1) = N a (r + l + 1) := fun a ha => by rw [← e, ← e]; exact h3 a ha
    have h4' : M (r + i + 1) (r + k + 1) = N (r + j + 1) (r + l + 1) := by rw [← e, ← e, ← e, ← e]; exact h4
    refine c4z r (fun a b ha hb => ?_) (fun b hb => ?_) (fun a ha => ?_) ?_
    · simp only [a4Q]; rw [h1 (a + 1) (b + 1) (by omega) (by omega), h1 (a + 1) 0 (by omega) (by omega), h1 0 0 (by omega) (by omega), h1 0 (b + 1) (by omega) (by omega)]
    · simp only [a4Q]; rw [h2' (b + 1) (by omega), h2' 0 (by omega), h1 0 0 (by omega) (by omega), h1 0 (b + 1) (by omega) (by omega)]
    · simp only [a4Q]; rw [h3' (a + 1) (by omega), h1 (a + 1) 0 (by omega) (by omega), h1 0 0 (by omega) (by omega), h3' 0 (by omega)]
    · simp only [a4Q]; rw [h4', h2' 0 (by omega), h1 0 0 (by omega) (by omega), h3' 0 (by omega)]
theorem b3m : ∀ (r : Nat) {M N : Nat → Nat → Rat}, (∀ a b, a < r → b < r → M a b = N a b) → piv r M → piv r N
  | 0, _, _, _, _ => trivial
  | r + 1, M, N, h, hp => by
    rw [b6f] at hp ⊢
    refine ⟨b3m r (fun a b ha hb => h a b (by omega) (by omega)) hp.1, ?_⟩
    rw [← c4z r (M := M) (N := N) (i := 0) (j := 0) (k := 0) (l := 0) (fun a b ha hb => h a b (by omega) (by omega)) (fun b hb => h _ _ (by omega) (by omega)) (fun a ha => h _ _ (by omega) (by omega)) (h _ _ (by omega) (by omega))]
    exact hp.2
/-- The columns in their order: the heads' places first, then all. -/
def colm (cs : List Nat) (b : Nat) : Nat := if b < cs.length then cs.getD b 0 else b - cs.length
def a0N (B : Nat → Nat → Rat) (cs : List Nat) : Nat → Nat → Rat := fun a b => B a (colm cs b)
/-- Row i, as it stands when the a0N cs are done; i is not among their rows. -/
def a2z (B : Nat → Nat → Rat) (cs : List Nat) (i k : Nat) : Rat := SS cs.length (a0N B cs) (i - cs.length) k
def a4Z (B : Nat → Nat → Rat) (cs : List Nat) : Rat := det cs.length (a0N B cs)
def Piv (B : Nat → Nat → Rat) (cs : List Nat) : Prop := piv cs.length (a0N B cs)
theorem d1d (B : Nat → Nat → Rat) (i k : Nat) : a2z B [] i k = B i k := by simp [a2z, SS, a0N, colm]
theorem d7X (B : Nat → Nat → Rat) : a4Z B [] = 1 := rfl
theorem a3l {cs : List Nat} {c b : Nat} (h : b < cs.length) : colm (cs ++ [c]) b = colm cs b := by
  simp only [colm, List.length_append, List.length_cons, List.length_nil]
  rw [if_pos (by omega), if_pos h]
  simp [List.getD_eq_getElem?_getD, List.getElem?_append_left h]
theorem b1N {cs : List Nat} {c : Nat} : colm (cs ++ [c]) cs.length = c := by
  simp only [colm, List.length_append, List.length_cons, List.length_nil]
  rw [if_pos (by omega)]
  simp
theorem a2g (cs : List Nat) (k : Nat) : colm cs (cs.length + k) = k := by
  simp only [colm]; rw [if_neg (by omega)]; omega
theorem d4F {B : Nat → Nat → Rat} {cs : List Nat} {c : Nat} (i : Nat) : SS cs.length (a0N B (cs ++ [c])) i 0 = a2z B cs (cs.length + i) c := by
  unfold a2z
  rw [Nat.add_sub_cancel_left]
  refine c4z _ (fun a b _ hb => ?_) (fun b hb => ?_) (fun a _ => ?_) ?_
  · simp only [a0N]; rw [a3l hb]
  · simp only [a0N]; rw [a3l hb]
  · simp only [a0N]; rw [Nat.add_zero, b1N, a2g]
  · simp only [a0N]; rw [Nat.add_zero, b1N, a2g]
theorem e1P {B : Nat → Nat → Rat} {cs : List Nat} {c : Nat} (i k : Nat) : SS cs.length (a0N B (cs ++ [c])) i (k + 1) = a2z B cs (cs.length + i) k := by
  unfold a2z
  rw [Nat.add_sub_cancel_left]
  have e : colm (cs ++ [c]) (cs.length + (k + 1)) = k := by
    have := a2g (cs ++ [c]) k
    simp only [List.length_append, List.length_cons, List.length_nil] at this
    rw [show cs.length + (k + 1) = cs.length + (0 + 1) + k by omega]; exact this
  refine c4z _ (fun a b _ hb => ?_) (fun b hb => ?_) (fun a _ => ?_) ?_
  · simp only [a0N]; rw [a3l hb]
  · simp only [a0N]; rw [a3l hb]
  · simp only [a0N]; rw [e, a2g]
  · simp only [a0N]; rw [e, a2g]
theorem a1I (cs : List Nat) (c : Nat) : (cs ++ [c]).length = cs.length + 1 := by simp
/-- One more head. -/
theorem d6g (B : Nat → Nat → Rat) (cs : List Nat) (c : Nat) {i k : Nat} (hi : cs.length < i) : a2z B (cs ++ [c]) i k = a2z B cs i k - a2z B cs i c / a2z B cs cs.length c * a2z B cs cs.length k := by
  have h := d3y cs.length (a0N B (cs ++ [c]))
  have e : a2z B (cs ++ [c]) i k = a4Q (SS cs.length (a0N B (cs ++ [c]))) (i - (cs.length + 1)) k := by
    unfold a2z
    rw [a1I, h]
  rw [e]
  simp only [a4Q]
  rw [e1P, d4F, d4F, e1P, Nat.add_zero]
  rw [show cs.length + (i - (cs.length + 1) + 1) = i by omega]
  rfl
theorem d6c {B : Nat → Nat → Rat} {cs : List Nat} (hp : Piv B cs) (c : Nat) : a4Z B (cs ++ [c]) = a4Z B cs * a2z B cs cs.length c := by
  unfold a4Z
  have hp' : piv cs.length (a0N B (cs ++ [c])) := b3m _ (fun a b _ hb => by simp only [a0N]; rw [a3l hb]) hp
  rw [a1I, c8w _ hp', d4F, Nat.add_zero]
  congr 1
  exact a1D fun a b _ hb => by simp only [a0N]; rw [a3l hb]
theorem d3S {B : Nat → Nat → Rat} {cs : List Nat} (hp : Piv B cs) {c : Nat} (h : a2z B cs cs.length c ≠ 0) : Piv B (cs ++ [c]) := by
  unfold Piv
  rw [a1I, b6f]
  refine ⟨b3m _ (fun a b _ hb => by simp only [a0N]; rw [a3l hb]) hp, ?_⟩
  rw [d4F, Nat.add_zero]; exact h
theorem b6H {B : Nat → Nat → Rat} {cs : List Nat} (hp : Piv B cs) : a4Z B cs ≠ 0 := e1H _ hp
/-- Multiplied with the last head, what is left is whole. -/
theorem d8m {B : Nat → Nat → Rat} {cs : List Nat} (hp : Piv B cs) (hB : ∀ i k, ∃ z : Int, B i k = z) {i : Nat} (k : Nat) (hi : cs.length ≤ i) : ∃ z : Int, a4Z B cs * a2z B cs i k = z := by
  let N : Nat → Nat → Rat := fun a b => B (if a = cs.length then i else a) (colm (cs ++ [k]) b)
  obtain ⟨z, hz⟩ := d8D (n := cs.length + 1) (M := N) fun r c => hB _ _
  refine ⟨z, ?_⟩
  have hN : ∀ a b, a < cs.length → b < cs.length → a0N B cs a b = N a b := fun a b ha hb => by
    simp only [N, a0N]
    rw [if_neg (by omega), a3l hb]
  rw [← hz, c8w _ (b3m _ hN hp)]
  unfold a4Z a2z
  rw [a1D hN]
  congr 1
  refine c4z _ hN (fun b hb => ?_) (fun a ha => ?_) ?_
  · simp only [N, a0N]; rw [Nat.add_zero, if_pos rfl, a3l hb]
    rw [show cs.length + (i - cs.length) = i by omega]
  · simp only [N, a0N]; rw [if_neg (by omega), Nat.add_zero, b1N, a2g]
  · simp only [N, a0N]; rw [Nat.add_zero, if_pos rfl, b1N, a2g, show cs.length + (i - cs.length) = i by omega]
/-- Rows below the a0N exchanged. -/
theorem b1K {B : Nat → Nat → Rat} {cs : List Nat} {s t : Nat} (hs : cs.length ≤ s) (ht : cs.length ≤ t) {i : Nat} (k : Nat) (hi : cs.length ≤ i) : a2z (a0H s t B) cs i k = a2z B cs (if i = s then t else if i = t then s else i) k := by
  unfold a2z
  have hj : cs.length ≤ (if i = s then t else if i = t then s else i) := by split; exact ht; split; exact hs; exact hi
  generalize hj' : (if i = s then t else if i = t then s else i) = j at hj
  have hr : ∀ c, a0H s t B i c = B j c := fun c => by
    unfold a0H; rw [← hj']
    split
    · rfl
    · split <;> rfl
  refine c4z _ (fun a b ha hb => ?_) (fun b hb => ?_) (fun a ha => ?_) ?_
  · simp only [a0N, a0H]; rw [if_neg (by omega), if_neg (by omega)]
  · simp only [a0N]; rw [show cs.length + (i - cs.length) = i by omega, show cs.length + (j - cs.length) = j by omega, hr]
  · simp only [a0N, a0H]; rw [if_neg (by omega), if_neg (by omega)]
  · simp only [a0N]; rw [show cs.length + (i - cs.length) = i by omega, show cs.length + (j - cs.length) = j by omega, hr]
theorem b7R {B : Nat → Nat → Rat} {cs : List Nat} {s t : Nat} (hs : cs.length ≤ s) (ht : cs.length ≤ t) : a4Z (a0H s t B) cs = a4Z B cs := by
  unfold a4Z
  exact a1D fun a b ha _ => by simp only [a0N, a0H]; rw [if_neg (by omega), if_neg (by omega)]
theorem c7Q {B : Nat → Nat → Rat} {cs : List Nat} {s t : Nat} (hs : cs.length ≤ s) (ht : cs.length ≤ t) (hp : Piv B cs) : Piv (a0H s t B) cs := by
  unfold Piv at hp ⊢
  exact b3m _ (fun a b ha _ => by simp only [a0N, a0H]; rw [if_neg (by omega), if_neg (by omega)]) hp
end Go.Abs
namespace Go.Abs
/-- The first row from r on that has an entry there. -/
def a2x (f : Nat → Rat) (r n : Nat) : Option Nat := (List.range n).find? fun p => decide (r ≤ p) && decide (f p ≠ 0)
theorem a1l (f : Nat → Rat) (r n : Nat) : (∃ p, a2x f r n = some p ∧ r ≤ p ∧ p < n ∧ f p ≠ 0 ∧ ∀ j, r ≤ j → j < p → f j = 0) ∨ (a2x f r n = none ∧ ∀ j, r ≤ j → j < n → f j = 0) := by
  unfold a2x
  cases h : (List.range n).find? fun p => decide (r ≤ p) && decide (f p ≠ 0) with
  | none =>
    refine .inr ⟨rfl, fun j h1 h2 => ?_⟩
    rw [List.find?_eq_none] at h
    have := h j (List.mem_range.2 h2)
    simp [h1] at this
    exact this
  | some p =>
    refine .inl ⟨p, rfl, ?_⟩
    rw [List.find?_range_eq_some] at h
    obtain ⟨h1, h2, h3⟩ := h
    simp at h1
    refine ⟨h1.1, List.mem_range.1 h2, h1.2, fun j hj1 hj2 => ?_⟩
    have := h3 j hj2
    simp [hj1] at this
    exact this
structure GS where
  B : Nat → Nat → Rat
  cs : List Nat
  odd : Bool
def GS.g (s : GS) (i k : Nat) : Rat := a2z s.B s.cs i k
def GS.last (s : GS) : Rat := a4Z s.B s.cs
def b0h (n : Nat) (s : GS) (c : Nat) : GS := match a2x (fun p => s.g p c) s.cs.length n with
  | none => s
  | some p => ⟨a0H p s.cs.length s.B, s.cs ++ [c], if p = s.cs.length then s.odd else !s.odd⟩
def gproc (n : Nat) (B : Nat → Nat → Rat) : Nat → GS
  | 0 => ⟨B, [], false⟩
  | c + 1 => b0h n (gproc n B c) c
structure GOk (n : Nat) (s : GS) : Prop where
  piv : Piv s.B s.cs
  int : ∀ i k, ∃ z : Int, s.B i k = z
  len : s.cs.length ≤ n
theorem c5a (r : Nat) (M : Nat → Nat → Rat) : a0H r r M = M := by
  funext i k; unfold a0H
  split
  · rename_i h; rw [h]
  · rfl
theorem d3G {B : Nat → Nat → Rat} (h : ∀ i k, ∃ z : Int, B i k = z) (s t : Nat) : ∀ i k, ∃ z : Int, a0H s t B i k = z := by
  intro i k; unfold a0H
  split
  · exact h _ _
  · split <;> exact h _ _
theorem a1Q {n c : Nat} {s : GS} (h : a2x (fun p => s.g p c) s.cs.length n = none) : b0h n s c = s := by unfold b0h; rw [h]
theorem a0U {n c p : Nat} {s : GS} (h : a2x (fun p => s.g p c) s.cs.length n = some p) : b0h n s c = ⟨a0H p s.cs.length s.B, s.cs ++ [c], if p = s.cs.length then s.odd else !s.odd⟩ := by unfold b0h; rw [h]
/-- The head as it stands behind the exchange. -/
theorem a2S {s : GS} {p : Nat} (hp : s.cs.length ≤ p) (k : Nat) : a2z (a0H p s.cs.length s.B) s.cs s.cs.length k = s.g p k := by
  rw [b1K hp (Nat.le_refl _) k (Nat.le_refl _)]
  unfold GS.g
  by_cases h : s.cs.length = p
  · rw [if_pos h, ← h]
  · rw [if_neg h, if_pos rfl]
theorem c8g {n c : Nat} {s : GS} (h : GOk n s) : GOk n (b0h n s c) := by
  rcases a1l (fun p => s.g p c) s.cs.length n with ⟨p, hf, h1, h2, h3, _⟩ | ⟨hf, _⟩
  · rw [a0U hf]
    refine ⟨d3S (c7Q h1 (Nat.le_refl _) h.piv) ?_, d3G h.int _ _, by rw [a1I]; omega⟩
    rw [a2S h1]; exact h3
  · rw [a1Q hf]; exact h
theorem a6o {n : Nat} {B : Nat → Nat → Rat} (hB : ∀ i k, ∃ z : Int, B i k = z) : ∀ c, GOk n (gproc n B c)
  | 0 => ⟨trivial, hB, Nat.zero_le _⟩
  | c + 1 => c8g (a6o hB c)
/-- Behind a step, for the rows below the new head. -/
theorem c6T {s : GS} {p : Nat} (hp : s.cs.length ≤ p) {i : Nat} (k c : Nat) (hi : s.cs.length < i) :
    a2z (a0H p s.cs.length s.B) (s.cs ++ [c]) i k = s.g (if i = p then s.cs.length else i) k - s.g (if i = p then s.cs.length else i) c / s.g p c * s.g p k := by
  rw [d6g _ _ _ hi, a2S hp, a2S hp, b1K hp (Nat.le_refl _) k (by omega), b1K hp (Nat.le_refl _) c (by omega)]
  unfold GS.g
  have e : (if i = p then s.cs.length else if i = s.cs.length then p else i) = if i = p then s.cs.length else i := by
    by_cases h : i = p
    · rw [if_pos h, if_pos h]
    · rw [if_neg h, if_neg h, if_neg (by omega)]
  rw [e]
theorem c2g {n : Nat} {s : GS} (h : GOk n s) {p : Nat} (hp : s.cs.length ≤ p) (c : Nat) : a4Z (a0H p s.cs.length s.B) (s.cs ++ [c]) = s.last * s.g p c := by
  rw [d6c (c7Q hp (Nat.le_refl _) h.piv), a2S hp, b7R hp (Nat.le_refl _)]; rfl
/-- The cross product of whole rows is a multiple of the last head: the quotient is the next row. -/
theorem c8G {n : Nat} {s : GS} (h : GOk n s) {p c i k : Nat} (hp : s.cs.length ≤ p) (hf : s.g p c ≠ 0) (hi : s.cs.length < i) {last a b x y : Int} (hl : (last : Rat) = s.last)
    (ha : (a : Rat) = s.last * s.g p c) (hb : (b : Rat) = s.last * s.g (if i = p then s.cs.length else i) k) (hx : (x : Rat) = s.last * s.g (if i = p then s.cs.length else i) c) (hy : (y : Rat) = s.last * s.g p k) :
    ∃ z : Int, a * b - x * y = last * z ∧ (z : Rat) = (s.last * s.g p c) * a2z (a0H p s.cs.length s.B) (s.cs ++ [c]) i k := by
  have hok := c8g (c := c) h
  have hpiv : Piv (a0H p s.cs.length s.B) (s.cs ++ [c]) := d3S (c7Q hp (Nat.le_refl _) h.piv) (by rw [a2S hp]; exact hf)
  obtain ⟨z, hz⟩ := d8m hpiv (d3G h.int _ _) k (by rw [a1I]; omega : (s.cs ++ [c]).length ≤ i)
  rw [c2g h hp] at hz
  refine ⟨z, ?_, hz.symm⟩
  have hq : ((a * b - x * y : Int) : Rat) = ((last * z : Int) : Rat) := by
    rw [Rat.intCast_sub, Rat.intCast_mul, Rat.intCast_mul, Rat.intCast_mul, ha, hb, hx, hy, hl, ← hz, c6T hp k c hi]
    have hne := b6H h.piv
    generalize s.g (if i = p then s.cs.length else i) k = u
    generalize s.g (if i = p then s.cs.length else i) c = v
    generalize s.last = l
    generalize s.g p k = w
    generalize s.g p c = t at *
    grind
  exact Rat.intCast_inj.1 hq
end Go.Abs
namespace Go.Abs
def a0J (M : Nat → Nat → Rat) (t : Nat) (u : Nat → Rat) : Nat → Nat → Rat := fun r c => if c = t then u r else M r c
theorem c4r (M : Nat → Nat → Rat) (t : Nat) : a0J M t (fun r => M r t) = M := by
  funext r c; unfold a0J; split
  · rename_i h; rw [h]
  · rfl
theorem a4k {M : Nat → Nat → Rat} {t i : Nat} {u : Nat → Rat} : (fun r c => a0J M (t + 1) u (skip i r) (c + 1)) = a0J (fun r c => M (skip i r) (c + 1)) t fun r => u (skip i r) := by
  funext r c; unfold a0J
  by_cases h : c = t
  · rw [if_pos (by omega), if_pos h]
  · rw [if_neg (by omega), if_neg h]
theorem a9b {M : Nat → Nat → Rat} {i : Nat} {u : Nat → Rat} : (fun r c => a0J M 0 u (skip i r) (c + 1)) = fun r c => M (skip i r) (c + 1) := by
  funext r c; unfold a0J; rw [if_neg (by omega)]
theorem b7Y : ∀ {n : Nat} {M : Nat → Nat → Rat} {t : Nat} (x y : Rat) (u w : Nat → Rat), t < n → det n (a0J M t fun r => x * u r + y * w r) = x * det n (a0J M t u) + y * det n (a0J M t w)
  | 0, _, _, _, _, _, _, h => absurd h (by omega)
  | n + 1, M, 0, x, y, u, w, h => by
    unfold det
    rw [← a5Z]
    refine a1o fun i hi => ?_
    rw [a9b, a9b, a9b]
    simp only [a0J, if_true]
    grind
  | n + 1, M, t + 1, x, y, u, w, h => by
    unfold det
    rw [← a5Z]
    refine a1o fun i hi => ?_
    rw [a4k, a4k, a4k, b7Y x y _ _ (by omega)]
    simp only [a0J]
    rw [if_neg (by omega), if_neg (by omega), if_neg (by omega)]
    grind
theorem a9a {n t : Nat} {M : Nat → Nat → Rat} (ht : t < n) (h : ∀ r, M r t = 0) : det n M = 0 := by
  have := b7Y (n := n) (M := M) (t := t) 0 0 (fun r => M r t) (fun r => M r t) ht
  have e : (fun r => 0 * M r t + 0 * M r t) = fun r => M r t := by funext r; rw [h r]; grind
  rw [e, c4r] at this
  grind
/-- A zero column below the first row's, told for the entries that count. -/
theorem d1o {n t : Nat} {M : Nat → Nat → Rat} (ht : t < n) (h : ∀ r, r < n → M r t = 0) : det n M = 0 := by
  have e : det n M = det n (a0J M t fun _ => 0) := a1D fun r c hr _ => by
    unfold a0J; split
    · rename_i hc; rw [hc, h r hr]
    · rfl
  rw [e]
  exact a9a ht fun r => by unfold a0J; rw [if_pos rfl]
theorem d6r {n t : Nat} {M : Nat → Nat → Rat} (ht : t < n) (h : ∀ r, M r 0 = M r (t + 1)) : det (n + 1) M = 0 := by
  have key : ∀ N : Nat → Nat → Rat, (∀ r, N r 0 = N r (t + 1)) → N 0 0 ≠ 0 → det (n + 1) N = 0 := by
    intro N hN h0
    rw [c4l h0, a9a (n := n) (t := t) ht (M := a4Q N) fun r => by
      unfold a4Q
      rw [← hN, ← hN]
      grind]
    grind
  by_cases hz : ∀ r, r < n + 1 → M r 0 = 0
  · exact d1o (t := 0) (by omega) hz
  · have : ∃ p, p < n + 1 ∧ M p 0 ≠ 0 := Classical.byContradiction fun hc => hz fun r hr => Classical.byContradiction fun h1 => hc ⟨r, hr, h1⟩
    obtain ⟨p, hp, hp0⟩ := this
    by_cases h0 : p = 0
    · subst h0; exact key M h hp0
    · have hs := d4p (M := M) (s := 0) (t := p) (Ne.symm h0) (by omega) hp
      have hk := key (a0H 0 p M) (fun r => by
        unfold a0H
        split
        · exact h p
        · split
          · exact h 0
          · exact h r) (by unfold a0H; rw [if_pos rfl]; exact hp0)
      rw [hk] at hs
      grind
theorem c4o : ∀ (s : Nat) {n t : Nat} {M : Nat → Nat → Rat}, s + t + 1 < n → (∀ r, M r s = M r (s + t + 1)) → det n M = 0
  | s, 0, t, M, h, _ => absurd h (by omega)
  | 0, n + 1, t, M, h, he => d6r (t := t) (by omega) fun r => by have := he r; rwa [Nat.zero_add] at this
  | s + 1, n + 1, t, M, h, he => by
    unfold det
    refine c2f fun i hi => ?_
    rw [c4o s (t := t) (by omega) fun r => by
      have := he (skip i r)
      rwa [show s + 1 + t + 1 = s + t + 1 + 1 by omega] at this]
    grind
theorem d6s {n s t : Nat} {M : Nat → Nat → Rat} (hs : s < n) (ht : t < n) (hst : s ≠ t) (he : ∀ r, M r s = M r t) : det n M = 0 := by
  rcases Nat.lt_or_gt_of_ne hst with h | h
  · exact c4o s (t := t - s - 1) (by omega) fun r => by rw [show s + (t - s - 1) + 1 = t by omega]; exact he r
  · exact c4o t (t := s - t - 1) (by omega) fun r => by rw [show t + (s - t - 1) + 1 = s by omega]; exact (he r).symm
/-- Cramer's rule. -/
theorem d8H {n i : Nat} {A : Nat → Nat → Rat} (x : Nat → Rat) (hi : i < n) : ∀ m, m ≤ n → det n (a0J A i fun r => sumR (fun j => A r j * x j) m) = if i < m then x i * det n A else 0
  | 0, _ => by
    rw [if_neg (by omega)]
    exact a9a hi fun r => by unfold a0J; rw [if_pos rfl]; rfl
  | m + 1, h => by
    have hl := b7Y (M := A) 1 (x m) (fun r => sumR (fun j => A r j * x j) m) (fun r => A r m) hi
    have e : (fun r => (1 : Rat) * sumR (fun j => A r j * x j) m + x m * A r m) = fun r => sumR (fun j => A r j * x j) (m + 1) := by
      funext r; simp only [sumR]; grind
    rw [e, d8H x hi m (by omega)] at hl
    rw [hl]
    by_cases him : i = m
    · subst him
      rw [if_neg (by omega), if_pos (by omega), c4r]
      grind
    · have h0 : det n (a0J A i fun r => A r m) = 0 := d6s hi (show m < n by omega) him fun r => by
        unfold a0J
        rw [if_pos rfl, if_neg (Ne.symm him)]
      rw [h0]
      by_cases h1 : i < m
      · rw [if_pos h1, if_pos (by omega)]; grind
      · rw [if_neg h1, if_neg (by omega)]; grind
theorem b7d : ∀ {n e : Nat} {M : Nat → Nat → Rat}, n ≤ LB → (∀ r c, r < n → c < n → ∃ z : Int, M r c = z ∧ z.natAbs ≤ LB ^ e) → ∃ z : Int, det n M = z ∧ z.natAbs ≤ LB ^ (n * (e + 1))
  | 0, e, _, _, _ => ⟨1, rfl, by simp⟩
  | n + 1, e, M, hn, h => by
    unfold det
    have hs : ∀ i, ∃ z : Int, sg i = z ∧ z.natAbs = 1 := by
      intro i
      induction i with
      | zero => exact ⟨1, rfl, rfl⟩
      | succ i ih => obtain ⟨z, hz, ha⟩ := ih; exact ⟨-z, by rw [sg, hz, Rat.intCast_neg], by rw [Int.natAbs_neg]; exact ha⟩
    have ht : ∀ i, i < n + 1 → ∃ z : Int, sg i * M i 0 * det n (fun r c => M (skip i r) (c + 1)) = z ∧ z.natAbs ≤ LB ^ e * LB ^ (n * (e + 1)) := fun i hi => by
      obtain ⟨a, ha, ha1⟩ := hs i
      obtain ⟨b, hb, hb1⟩ := h i 0 hi (by omega)
      obtain ⟨c, hc, hc1⟩ := b7d (n := n) (e := e) (M := fun r c => M (skip i r) (c + 1)) (by omega) fun r c hr hc => h _ _ (d1Y hr) (by omega)
      refine ⟨a * b * c, by rw [ha, hb, hc, Rat.intCast_mul, Rat.intCast_mul], ?_⟩
      rw [Int.natAbs_mul, Int.natAbs_mul, ha1, Nat.one_mul]
      exact Nat.mul_le_mul hb1 hc1
    have : ∀ k, k ≤ n + 1 → ∃ z : Int, sumR (fun i => sg i * M i 0 * det n fun r c => M (skip i r) (c + 1)) k = z ∧ z.natAbs ≤ k * (LB ^ e * LB ^ (n * (e + 1))) := by
      intro k
      induction k with
      | zero => exact fun _ => ⟨0, rfl, by simp⟩
      | succ k ih =>
        intro hk
        obtain ⟨z, hz, hz1⟩ := ih (by omega)
        obtain ⟨y, hy, hy1⟩ := ht k (by omega)
        refine ⟨z + y, by rw [sumR, hz, hy, Rat.intCast_add], ?_⟩
        have := Int.natAbs_add_le z y
        rw [Nat.add_mul, Nat.one_mul]
        omega
    obtain ⟨z, hz, hz1⟩ := this (n + 1) (Nat.le_refl _)
    refine ⟨z, hz, Nat.le_trans hz1 ?_⟩
    rw [show (n + 1) * (e + 1) = 1 + (e + n * (e + 1)) by rw [Nat.add_mul]; omega, Nat.pow_add, Nat.pow_add, Nat.pow_one]
    exact Nat.mul_le_mul_right _ hn
end Go.Abs
namespace Go.Abs
structure JS where
  s : GS
  M : Nat → Nat → Rat
def JS.r (j : JS) : Nat := j.s.cs.length
/-- Row r by its entry at c; the others without it. -/
def jel (r c : Nat) (M : Nat → Nat → Rat) : Nat → Nat → Rat := fun i k => if i = r then M r k / M r c else M i k - M i c * (M r k / M r c)
def c4M (n : Nat) (j : JS) (c : Nat) : JS := match a2x (fun p => j.s.g p c) j.s.cs.length n with
  | none => j
  | some p => ⟨b0h n j.s c, jel j.s.cs.length c (a0H p j.s.cs.length j.M)⟩
def a1t (n : Nat) (B : Nat → Nat → Rat) : Nat → JS
  | 0 => ⟨⟨B, [], false⟩, B⟩
  | c + 1 => c4M n (a1t n B c) c
theorem e2E (n : Nat) (j : JS) (c : Nat) : (c4M n j c).s = b0h n j.s c := by
  unfold c4M
  cases h : a2x (fun p => j.s.g p c) j.s.cs.length n with
  | none => rw [a1Q h]
  | some p => rfl
theorem a2w (n : Nat) (B : Nat → Nat → Rat) : ∀ c, (a1t n B c).s = gproc n B c
  | 0 => rfl
  | c + 1 => by rw [a1t, e2E, a2w n B c]; rfl
theorem c6C {n c : Nat} {j : JS} (h : a2x (fun p => j.s.g p c) j.s.cs.length n = none) : c4M n j c = j := by unfold c4M; rw [h]
theorem c6B {n c p : Nat} {j : JS} (h : a2x (fun p => j.s.g p c) j.s.cs.length n = some p) : c4M n j c = ⟨⟨a0H p j.s.cs.length j.s.B, j.s.cs ++ [c], if p = j.s.cs.length then j.s.odd else !j.s.odd⟩, jel j.s.cs.length c (a0H p j.s.cs.length j.M)⟩ := by
  have : c4M n j c = ⟨b0h n j.s c, jel j.s.cs.length c (a0H p j.s.cs.length j.M)⟩ := by unfold c4M; rw [h]
  rw [this, a0U h]
structure JOk (n : Nat) (j : JS) : Prop where
  g : GOk n j.s
  low : ∀ i k, j.s.cs.length ≤ i → j.M i k = j.s.g i k
  up : ∀ a k, j.s.B a k = sumR (fun i => j.s.B a (j.s.cs.getD i 0) * j.M i k) j.s.cs.length + if j.s.cs.length ≤ a then j.M a k else 0
theorem d9u (s t : Nat) (M : Nat → Nat → Rat) (a : Nat) : ∃ b, (∀ N : Nat → Nat → Rat, ∀ k, a0H s t N a k = N b k) ∧ ((s ≤ a ∨ t ≤ a) → True) ∧ (b = if a = s then t else if a = t then s else a) := by
  refine ⟨if a = s then t else if a = t then s else a, fun N k => ?_, fun _ => trivial, rfl⟩
  unfold a0H
  split
  · rfl
  · split <;> rfl
theorem e0m {n c : Nat} {j : JS} (h : JOk n j) : JOk n (c4M n j c) := by
  rcases a1l (fun p => j.s.g p c) j.s.cs.length n with ⟨p, hf, h1, h2, h3, _⟩ | ⟨hf, _⟩
  · have hg := c8g (c := c) h.g
    rw [a0U hf] at hg
    rw [c6B hf]
    have hlow : ∀ i k, j.s.cs.length ≤ i → a0H p j.s.cs.length j.M i k = j.s.g (if i = p then j.s.cs.length else if i = j.s.cs.length then p else i) k := by
      intro i k hi
      unfold a0H
      split
      · exact h.low _ _ (Nat.le_refl _)
      · split
        · exact h.low _ _ h1
        · exact h.low _ _ hi
    have hr : ∀ k, a0H p j.s.cs.length j.M j.s.cs.length k = j.s.g p k := by
      intro k
      rw [hlow _ _ (Nat.le_refl _)]
      by_cases e : j.s.cs.length = p
      · rw [if_pos e, e]
      · rw [if_neg e, if_pos rfl]
    refine ⟨hg, fun i k hi => ?_, fun a k => ?_⟩
    · simp only [a1I] at hi
      show jel _ c _ i k = a2z (a0H p j.s.cs.length j.s.B) (j.s.cs ++ [c]) i k
      unfold jel
      rw [if_neg (by omega), c6T h1 k c (by omega), hr, hr, hlow _ _ (by omega), hlow _ _ (by omega)]
      have e : (if i = p then j.s.cs.length else if i = j.s.cs.length then p else i) = if i = p then j.s.cs.length else i := by
        by_cases h : i = p
        · rw [if_pos h, if_pos h]
        · rw [if_neg h, if_neg h, if_neg (by omega)]
      rw [e]
      generalize j.s.g (if i = p then j.s.cs.length else i) k = u
      generalize j.s.g (if i = p then j.s.cs.length else i) c = v
      generalize j.s.g p k = w
      generalize j.s.g p c = t at *
      grind
    · -- the rows are made of those above
      show a0H p j.s.cs.length j.s.B a k = sumR (fun i => a0H p j.s.cs.length j.s.B a ((j.s.cs ++ [c]).getD i 0) * jel j.s.cs.length c (a0H p j.s.cs.length j.M) i k) (j.s.cs ++ [c]).length +
        if (j.s.cs ++ [c]).length ≤ a then jel j.s.cs.length c (a0H p j.s.cs.length j.M) a k else 0
      rw [a1I]
      obtain ⟨b, hb, _, hbe⟩ := d9u p j.s.cs.length j.s.B a
      have hba : (j.s.cs.length ≤ a) = (j.s.cs.length ≤ b) := by
        rw [hbe, eq_iff_iff]
        split
        · constructor <;> intro _ <;> omega
        · split
          · constructor <;> intro _ <;> omega
          · exact Iff.rfl
      have hinv : ∀ k, a0H p j.s.cs.length j.s.B a k = sumR (fun i => a0H p j.s.cs.length j.s.B a (j.s.cs.getD i 0) * j.M i k) j.s.cs.length + if j.s.cs.length ≤ a then a0H p j.s.cs.length j.M a k else 0 := by
        intro k
        simp only [hb, hba]
        exact h.up b k
      have hq0 : a0H p j.s.cs.length j.M j.s.cs.length c ≠ 0 := by rw [hr]; exact h3
      have hold : ∀ i, i < j.s.cs.length → ∀ k, a0H p j.s.cs.length j.M i k = j.M i k := by
        intro i hi k; unfold a0H; rw [if_neg (by omega), if_neg (by omega)]
      generalize hB : a0H p j.s.cs.length j.s.B = B' at *
      generalize hM : a0H p j.s.cs.length j.M = M0 at *
      generalize hq : M0 j.s.cs.length k / M0 j.s.cs.length c = q
      rw [sumR]
      have hs : sumR (fun i => B' a ((j.s.cs ++ [c]).getD i 0) * jel j.s.cs.length c M0 i k) j.s.cs.length = 1 * sumR (fun i => B' a (j.s.cs.getD i 0) * j.M i k) j.s.cs.length + (-q) * sumR (fun i => B' a (j.s.cs.getD i 0) * j.M i c) j.s.cs.length := by
        rw [← a5Z]
        refine a1o fun i hi => ?_
        have e : (j.s.cs ++ [c]).getD i 0 = j.s.cs.getD i 0 := by
          simp [List.getD_eq_getElem?_getD, List.getElem?_append_left hi]
        rw [e]
        unfold jel
        rw [if_neg (by omega), hq, hold i hi, hold i hi]
        grind
      rw [hs]
      have e2 : (j.s.cs ++ [c]).getD j.s.cs.length 0 = c := by simp [List.getD_eq_getElem?_getD]
      rw [e2]
      have e3 : jel j.s.cs.length c M0 j.s.cs.length k = q := by unfold jel; rw [if_pos rfl, hq]
      rw [e3]
      have i1 := hinv k
      have i2 := hinv c
      by_cases ha : j.s.cs.length ≤ a
      · rw [if_pos ha] at i1 i2
        by_cases ha2 : j.s.cs.length + 1 ≤ a
        · rw [if_pos ha2]
          have e4 : jel j.s.cs.length c M0 a k = M0 a k - M0 a c * q := by unfold jel; rw [if_neg (by omega), hq]
          rw [e4]
          grind
        · rw [if_neg ha2]
          have : a = j.s.cs.length := by omega
          subst this
          have e5 : q * M0 j.s.cs.length c = M0 j.s.cs.length k := by rw [← hq]; exact Rat.div_mul_cancel hq0
          grind
      · rw [if_neg ha] at i1 i2
        rw [if_neg (by omega)]
        grind
  · rw [c6C hf]; exact h
theorem b1I {n : Nat} {B : Nat → Nat → Rat} (hB : ∀ i k, ∃ z : Int, B i k = z) : ∀ c, JOk n (a1t n B c)
  | 0 => ⟨⟨trivial, hB, Nat.zero_le _⟩, fun i k _ => by simp [a1t, GS.g, d1d], fun a k => by simp only [a1t, sumR, List.length_nil, Nat.zero_le, if_true]; grind⟩
  | c + 1 => e0m (b1I hB c)
def Bd (e : Nat) (B : Nat → Nat → Rat) : Prop := ∀ i k, ∃ z : Int, B i k = z ∧ z.natAbs ≤ LB ^ e
theorem Bd.swap {e : Nat} {B : Nat → Nat → Rat} (h : Bd e B) (s t : Nat) : Bd e (a0H s t B) := by
  intro i k; unfold a0H
  split
  · exact h _ _
  · split <;> exact h _ _
theorem Bd.gproc {e n : Nat} {B : Nat → Nat → Rat} (h : Bd e B) : ∀ c, Bd e (gproc n B c).B
  | 0 => h
  | c + 1 => by
    have ih := Bd.gproc (n := n) h c
    show Bd e (b0h n (Abs.gproc n B c) c).B
    unfold b0h
    cases a2x (fun p => (Abs.gproc n B c).g p c) (Abs.gproc n B c).cs.length n with
    | none => exact ih
    | some p => exact ih.swap _ _
theorem d3b {e : Nat} {B : Nat → Nat → Rat} (hB : Bd e B) (cs : List Nat) (hn : cs.length ≤ LB) : ∃ z : Int, a4Z B cs = z ∧ z.natAbs ≤ LB ^ (cs.length * (e + 1)) :=
  b7d hn fun _ _ _ _ => hB _ _
/-- What is left, times the last head, is a determinant. -/
theorem c3P {e : Nat} {B : Nat → Nat → Rat} {cs : List Nat} (hp : Piv B cs) (hB : Bd e B) (hn : cs.length + 1 ≤ LB) {i : Nat} (k : Nat) (hi : cs.length ≤ i) : ∃ z : Int, a4Z B cs * a2z B cs i k = z ∧ z.natAbs ≤ LB ^ ((cs.length + 1) * (e + 1)) := by
  let N : Nat → Nat → Rat := fun a b => B (if a = cs.length then i else a) (colm (cs ++ [k]) b)
  obtain ⟨z, hz, hz1⟩ := b7d (n := cs.length + 1) (e := e) (M := N) hn fun r c _ _ => hB _ _
  refine ⟨z, ?_, hz1⟩
  have hN : ∀ a b, a < cs.length → b < cs.length → a0N B cs a b = N a b := fun a b ha hb => by
    simp only [N, a0N]
    rw [if_neg (by omega), a3l hb]
  rw [← hz, c8w _ (b3m _ hN hp)]
  unfold a4Z a2z
  rw [a1D hN]
  congr 1
  refine c4z _ hN (fun b hb => ?_) (fun a ha => ?_) ?_
  · simp only [N, a0N]; rw [Nat.add_zero, if_pos rfl, a3l hb]
    rw [show cs.length + (i - cs.length) = i by omega]
  · simp only [N, a0N]; rw [if_neg (by omega), Nat.add_zero, b1N, a2g]
  · simp only [N, a0N]; rw [Nat.add_zero, if_pos rfl, b1N, a2g, show cs.length + (i - cs.length) = i by omega]
/-- An entry above, times the last head, is a determinant. -/
theorem d1W {e n : Nat} {j : JS} (h : JOk n j) (hB : Bd e j.s.B) (hn : j.s.cs.length ≤ LB) {i : Nat} (k : Nat) (hi : i < j.s.cs.length) : ∃ z : Int, a4Z j.s.B j.s.cs * j.M i k = z ∧ z.natAbs ≤ LB ^ (j.s.cs.length * (e + 1)) := by
  obtain ⟨z, hz, hz1⟩ := b7d (n := j.s.cs.length) (e := e) (M := a0J (a0N j.s.B j.s.cs) i fun a => j.s.B a k) hn fun r c _ _ => by
    unfold a0J; split
    · exact hB _ _
    · exact hB _ _
  refine ⟨z, ?_, hz1⟩
  have hc := d8H (A := a0N j.s.B j.s.cs) (fun t => j.M t k) hi j.s.cs.length (Nat.le_refl _)
  rw [if_pos hi] at hc
  have e1 : det j.s.cs.length (a0J (a0N j.s.B j.s.cs) i fun r => sumR (fun t => a0N j.s.B j.s.cs r t * j.M t k) j.s.cs.length) = det j.s.cs.length (a0J (a0N j.s.B j.s.cs) i fun a => j.s.B a k) := by
    refine a1D fun a b ha hb => ?_
    unfold a0J
    split
    · show sumR (fun t => a0N j.s.B j.s.cs a t * j.M t k) j.s.cs.length = j.s.B a k
      rw [h.up a k, if_neg (by omega)]
      rw [a1o (g := fun t => j.s.B a (j.s.cs.getD t 0) * j.M t k) fun t ht => by
        simp only [a0N, colm]; rw [if_pos ht]]
      grind
    · rfl
  rw [e1] at hc
  unfold a4Z
  rw [← hz, hc]
  grind
theorem d0s {l z : Int} {q : Rat} (hl : (l : Rat) ≠ 0) (h : (l : Rat) * q = z) : q.num.natAbs ≤ z.natAbs ∧ q.den ≤ l.natAbs := by
  have hl' : l ≠ 0 := fun e => hl (by rw [e]; rfl)
  have e : q = Rat.divInt z l := by
    rw [Rat.divInt_eq_div, ← h]
    generalize (l : Rat) = x at *
    grind
  constructor
  · rw [e, Rat.num_divInt, Int.natAbs_ediv_of_dvd]
    · rw [Int.natAbs_mul, Int.natAbs_sign_of_ne_zero hl', Nat.one_mul]
      exact Nat.div_le_self _ _
    · exact Int.dvd_mul_of_dvd_right (Int.gcd_dvd_right ..)
  · rw [e, Rat.den_divInt, if_neg hl']
    exact Nat.div_le_self _ _
def KB (e : Nat) : Nat := 65 * (e + 1)
theorem lbm {a b : Nat} (h : a ≤ b) : LB ^ a ≤ LB ^ b := Nat.pow_le_pow_right (by decide) h
theorem c8d {e n : Nat} {j : JS} (h : JOk n j) (hn : j.s.cs.length ≤ 64) (hB : Bd e j.s.B) : ∃ z : Int, a4Z j.s.B j.s.cs = z ∧ z.natAbs ≤ LB ^ KB e := by
  have hl := h.g.len
  obtain ⟨z, hz, hz1⟩ := d3b hB j.s.cs (by have : LB = 4294967296 := rfl; omega)
  exact ⟨z, hz, Nat.le_trans hz1 (lbm (Nat.mul_le_mul_right _ (by omega)))⟩
theorem d4o {e n : Nat} {j : JS} (h : JOk n j) (hn : j.s.cs.length ≤ 64) (hB : Bd e j.s.B) (i k : Nat) : ∃ z : Int, a4Z j.s.B j.s.cs * j.M i k = z ∧ z.natAbs ≤ LB ^ KB e := by
  have hl := h.g.len
  have hLB : LB = 4294967296 := rfl
  rcases Nat.lt_or_ge i j.s.cs.length with hi | hi
  · obtain ⟨z, hz, hz1⟩ := d1W (n := n) h hB (by omega) k hi
    exact ⟨z, hz, Nat.le_trans hz1 (lbm (Nat.mul_le_mul_right _ (by omega)))⟩
  · obtain ⟨z, hz, hz1⟩ := c3P h.g.piv hB (by omega) k hi
    rw [h.low i k hi]
    exact ⟨z, hz, Nat.le_trans hz1 (lbm (Nat.mul_le_mul_right _ (by omega)))⟩
/-- The fractions' sizes. -/
theorem d6l {e n : Nat} {j : JS} (h : JOk n j) (hn : j.s.cs.length ≤ 64) (hB : Bd e j.s.B) (i k : Nat) : (j.M i k).num.natAbs ≤ LB ^ KB e ∧ (j.M i k).den ≤ LB ^ KB e := by
  obtain ⟨l, hl, hl1⟩ := c8d h hn hB
  obtain ⟨z, hz, hz1⟩ := d4o h hn hB i k
  have h0 : (l : Rat) ≠ 0 := by rw [← hl]; exact b6H h.g.piv
  rw [hl] at hz
  obtain ⟨q1, q2⟩ := d0s h0 hz
  exact ⟨Nat.le_trans q1 hz1, Nat.le_trans q2 hl1⟩
end Go.Abs
namespace Go.Abs
def dv (n : Nat) (B : Nat → Nat → Rat) (t : Nat) : Rat := if (gproc n B t).cs.length = t then (if (gproc n B t).odd then -(gproc n B t).last else (gproc n B t).last) else 0
theorem a7D (n : Nat) (B : Nat → Nat → Rat) : ∀ t, (gproc n B t).cs.length ≤ t
  | 0 => Nat.le_refl _
  | t + 1 => by
    have ih := a7D n B t
    show (b0h n (gproc n B t) t).cs.length ≤ t + 1
    unfold b0h
    cases a2x (fun p => (gproc n B t).g p t) (gproc n B t).cs.length n with
    | none => exact Nat.le_succ_of_le ih
    | some p => simp only [a1I]; omega
theorem e3h (n : Nat) (B : Nat → Nat → Rat) : dv n B 0 = 1 := by
  simp [dv, gproc, GS.last, a4Z, det]
section
variable {n : Nat} {B : Nat → Nat → Rat} {t : Nat}
theorem e3j (h : a2x (fun p => (gproc n B t).g p t) (gproc n B t).cs.length n = none) : dv n B (t + 1) = 0 := by
  have e : gproc n B (t + 1) = gproc n B t := a1Q h
  have := a7D n B t
  unfold dv
  rw [e, if_neg (by omega)]
theorem e3i (hB : ∀ i k, ∃ z : Int, B i k = z) {p : Nat} (h : a2x (fun p => (gproc n B t).g p t) (gproc n B t).cs.length n = some p) (hp : (gproc n B t).cs.length ≤ p) :
    dv n B (t + 1) = (if p = (gproc n B t).cs.length then dv n B t else -dv n B t) * (gproc n B t).g p t := by
  have hok := a6o (n := n) hB t
  have e : gproc n B (t + 1) = _ := a0U h
  unfold dv
  rw [e]
  simp only [a1I, GS.last]
  rw [c2g hok hp]
  unfold GS.last
  generalize a4Z (gproc n B t).B (gproc n B t).cs = l
  generalize (gproc n B t).g p t = x
  generalize (gproc n B t).odd = o
  by_cases h1 : (gproc n B t).cs.length = t
  · rw [if_pos (by omega), if_pos h1]
    by_cases h2 : p = (gproc n B t).cs.length
    · rw [if_pos h2, if_pos h2]
      cases o <;> simp <;> grind
    · rw [if_neg h2, if_neg h2]
      cases o <;> simp <;> grind
  · rw [if_neg (by omega), if_neg h1]
    split <;> grind
end
theorem d3l {e n : Nat} {B : Nat → Nat → Rat} (hB : Bd e B) (t : Nat) (hn : n ≤ 64 ∨ t ≤ 64) : (gproc n B t).cs.length ≤ 64 := by
  have h1 := (a6o (n := n) (fun i k => by obtain ⟨z, h, _⟩ := hB i k; exact ⟨z, h⟩) t).len
  have h2 := a7D n B t
  omega
theorem b2K {e n : Nat} {B : Nat → Nat → Rat} (hB : Bd e B) (t : Nat) (hn : n ≤ 64 ∨ t ≤ 64) : ∃ z : Int, (gproc n B t).last = z ∧ z.natAbs ≤ LB ^ KB e := by
  have hi : ∀ i k, ∃ z : Int, B i k = z := fun i k => by obtain ⟨z, h, _⟩ := hB i k; exact ⟨z, h⟩
  have := c8d (e := e) (b1I (n := n) hi t) (by rw [a2w]; exact d3l hB t hn) (by rw [a2w]; exact hB.gproc t)
  rwa [a2w] at this
theorem e3k {e n : Nat} {B : Nat → Nat → Rat} (hB : Bd e B) (t : Nat) (hn : n ≤ 64 ∨ t ≤ 64) : ∃ z : Int, dv n B t = z ∧ z.natAbs ≤ LB ^ KB e := by
  obtain ⟨z, hz, hz1⟩ := b2K hB t hn
  unfold dv
  split
  · split
    · exact ⟨-z, by rw [hz, Rat.intCast_neg], by rw [Int.natAbs_neg]; exact hz1⟩
    · exact ⟨z, hz, hz1⟩
  · exact ⟨0, rfl, by simp⟩
theorem e5b {e n : Nat} {B : Nat → Nat → Rat} (hB : Bd e B) (t i k : Nat) (hn : n ≤ 64 ∨ t ≤ 64) : ((a1t n B t).M i k).num.natAbs ≤ LB ^ KB e ∧ ((a1t n B t).M i k).den ≤ LB ^ KB e := by
  have hi : ∀ i k, ∃ z : Int, B i k = z := fun i k => by obtain ⟨z, h, _⟩ := hB i k; exact ⟨z, h⟩
  exact d6l (b1I (n := n) hi t) (by rw [a2w]; exact d3l hB t hn) (by rw [a2w]; exact hB.gproc t) i k
end Go.Abs
namespace Go.Abs
/-- Row a as it stands: times the last head that was taken off it. -/
def Zg (s : GS) (a b : Nat) : Rat := a4Z s.B (s.cs.take a) * a2z s.B (s.cs.take a) a b
theorem d9g {s : GS} {a : Nat} (b : Nat) (h : s.cs.length ≤ a) : Zg s a b = s.last * s.g a b := by
  unfold Zg; rw [List.take_of_length_le h]; rfl
theorem d6d {B : Nat → Nat → Rat} {cs : List Nat} {m a b : Nat} (hb : b < (cs.take m).length) : a0N B (cs.take m) a b = a0N B cs a b := by
  rw [List.length_take] at hb
  simp only [a0N, colm]
  rw [if_pos (by rw [List.length_take]; exact hb), if_pos (by omega)]
  congr 1
  simp [List.getD_eq_getElem?_getD, List.getElem?_take]
  rw [if_pos (by omega)]
theorem d9O {B : Nat → Nat → Rat} : ∀ (m : Nat) {cs : List Nat}, Piv B cs → Piv B (cs.take m) := by
  intro m cs h
  have key : ∀ k, piv (k + (cs.take m).length) (a0N B cs) → piv (cs.take m).length (a0N B cs) := by
    intro k
    induction k with
    | zero => intro h; rwa [Nat.zero_add] at h
    | succ k ih => intro h; rw [show k + 1 + (cs.take m).length = (k + (cs.take m).length) + 1 by omega, b6f] at h; exact ih h.1
  have h1 := key (cs.length - (cs.take m).length) (by
    have : cs.length - (cs.take m).length + (cs.take m).length = cs.length := by rw [List.length_take]; omega
    rw [this]; exact h)
  exact b3m _ (fun a b _ hb => (d6d hb).symm) h1
/-- Processed columns are empty below the a0N. -/
theorem d1e {n : Nat} {B : Nat → Nat → Rat} (hB : ∀ i k, ∃ z : Int, B i k = z) : ∀ t a b, (gproc n B t).cs.length ≤ a → a < n → b < t → (gproc n B t).g a b = 0
  | 0, _, _, _, _, h => absurd h (by omega)
  | t + 1, a, b, ha, han, hb => by
    have ih := d1e (n := n) hB t
    rcases a1l (fun p => (gproc n B t).g p t) (gproc n B t).cs.length n with ⟨p, hf, h1, h2, h3, _⟩ | ⟨hf, h4⟩
    · have e : gproc n B (t + 1) = _ := a0U hf
      rw [e] at ha ⊢
      simp only [a1I] at ha
      show a2z (a0H p (gproc n B t).cs.length (gproc n B t).B) ((gproc n B t).cs ++ [t]) a b = 0
      rw [c6T h1 b t (by omega)]
      have hj : (if a = p then (gproc n B t).cs.length else a) < n := by split <;> omega
      have hj2 : (gproc n B t).cs.length ≤ (if a = p then (gproc n B t).cs.length else a) := by split <;> omega
      generalize (if a = p then (gproc n B t).cs.length else a) = i at *
      by_cases hbt : b = t
      · subst hbt
        generalize (gproc n B b).g i b = u
        generalize (gproc n B b).g p b = v at *
        grind
      · rw [ih i b hj2 hj (by omega), ih p b h1 h2 (by omega)]
        grind
    · have e : gproc n B (t + 1) = _ := a1Q hf
      rw [e] at ha ⊢
      by_cases hbt : b = t
      · subst hbt; exact h4 a ha han
      · exact ih a b ha han (by omega)
section
variable {n t p : Nat} {B : Nat → Nat → Rat} (hB : ∀ i k, ∃ z : Int, B i k = z) (hf : a2x (fun p => (gproc n B t).g p t) (gproc n B t).cs.length n = some p) (hp : (gproc n B t).cs.length ≤ p)
include hf hp
theorem e1m {a : Nat} (b : Nat) (ha : a < (gproc n B t).cs.length) : Zg (gproc n B (t + 1)) a b = Zg (gproc n B t) a b := by
  have e : gproc n B (t + 1) = _ := a0U hf
  rw [e]
  unfold Zg
  simp only
  have ht : ((gproc n B t).cs ++ [t]).take a = (gproc n B t).cs.take a := by rw [List.take_append_of_le_length (by omega)]
  have hl : ((gproc n B t).cs.take a).length = a := by rw [List.length_take]; omega
  rw [ht, b7R (by omega) (by omega), b1K (by omega) (by omega) b (by omega), if_neg (by omega), if_neg (by omega)]
theorem e3K (b : Nat) : Zg (gproc n B (t + 1)) (gproc n B t).cs.length b = (gproc n B t).last * (gproc n B t).g p b := by
  have e : gproc n B (t + 1) = _ := a0U hf
  rw [e]
  unfold Zg
  simp only
  rw [List.take_append_of_le_length (Nat.le_refl _), List.take_length, b7R hp (Nat.le_refl _), a2S hp]; rfl
omit hp in
theorem d4E {a : Nat} (b : Nat) (ha : (gproc n B t).cs.length < a) : Zg (gproc n B (t + 1)) a b = (gproc n B (t + 1)).last * (gproc n B (t + 1)).g a b := by
  have e : gproc n B (t + 1) = _ := a0U hf
  exact d9g b (by rw [e]; simp only [a1I]; omega)
theorem d7W (h : GOk n (gproc n B t)) : (gproc n B (t + 1)).last = (gproc n B t).last * (gproc n B t).g p t := by
  have e : gproc n B (t + 1) = _ := a0U hf
  rw [e]
  exact c2g h hp t
end
theorem e1l {e n : Nat} {B : Nat → Nat → Rat} (hB : Bd e B) (hn : n ≤ 64) (t : Nat) {a : Nat} (b : Nat) (ha : a < n) : ∃ z : Int, Zg (gproc n B t) a b = z ∧ z.natAbs ≤ LB ^ KB e := by
  have hi : ∀ i k, ∃ z : Int, B i k = z := fun i k => by obtain ⟨z, h, _⟩ := hB i k; exact ⟨z, h⟩
  have hok := a6o (n := n) hi t
  have hl : ((gproc n B t).cs.take a).length ≤ a := by rw [List.length_take]; omega
  have hLB : LB = 4294967296 := rfl
  obtain ⟨z, hz, hz1⟩ := c3P (d9O a hok.piv) (hB.gproc t) (by omega) (i := a) b hl
  exact ⟨z, hz, Nat.le_trans hz1 (lbm (Nat.mul_le_mul_right _ (by omega)))⟩
end Go.Abs
namespace Go.Abs
def a5S (w : Nat → Int) : Nat → Nat
  | 0 => 0
  | n + 1 => Int.gcd (a5S w n) (w n)
/-- The sign of the first entry that is not 0. -/
def sgF (w : Nat → Int) : Nat → Int
  | 0 => 1
  | n + 1 => if (∀ i, i < n → w i = 0) ∧ w n < 0 then -1 else sgF w n
def b0J (w : Nat → Int) (c : Nat) (i : Nat) : Int := w i / (sgF w c * (a5S w c : Int))
theorem c3O {w v : Nat → Int} : ∀ {n : Nat}, (∀ i, i < n → w i = v i) → a5S w n = a5S v n
  | 0, _ => rfl
  | n + 1, h => by rw [a5S, a5S, c3O fun i hi => h i (by omega), h n (by omega)]
theorem c9c {w v : Nat → Int} : ∀ {n : Nat}, (∀ i, i < n → w i = v i) → sgF w n = sgF v n
  | 0, _ => rfl
  | n + 1, h => by
    have e : (∀ i, i < n → w i = 0) = (∀ i, i < n → v i = 0) := by
      rw [eq_iff_iff]
      exact ⟨fun q i hi => by rw [← h i (by omega)]; exact q i hi, fun q i hi => by rw [h i (by omega)]; exact q i hi⟩
    unfold sgF
    rw [c9c fun i hi => h i (by omega), h n (by omega)]
    simp only [e]
theorem d6Z (w : Nat → Int) : ∀ n, sgF w n = 1 ∨ sgF w n = -1
  | 0 => .inl rfl
  | n + 1 => by
    unfold sgF; split
    · exact .inr rfl
    · exact d6Z w n
theorem d1b (w : Nat → Int) : ∀ {n i : Nat}, i < n → (a5S w n : Int) ∣ w i
  | 0, _, h => absurd h (by omega)
  | n + 1, i, h => by
    rw [a5S]
    by_cases e : i = n
    · subst e; exact Int.gcd_dvd_right ..
    · exact Int.dvd_trans (Int.gcd_dvd_left ..) (d1b w (by omega))
theorem b7W {w : Nat → Int} : ∀ {n : Nat}, a5S w n = 0 ↔ ∀ i, i < n → w i = 0
  | 0 => ⟨fun _ i h => absurd h (by omega), fun _ => rfl⟩
  | n + 1 => by
    rw [a5S, Int.gcd_eq_zero_iff]
    constructor
    · rintro ⟨h1, h2⟩ i hi
      by_cases e : i = n
      · subst e; exact h2
      · exact (b7W (n := n)).1 (by omega) i (by omega)
    · intro h
      exact ⟨by rw [(b7W (n := n)).2 fun i hi => h i (by omega)]; rfl, h n (by omega)⟩
theorem c6E (a : Int) (w : Nat → Int) : ∀ n, a5S (fun i => a * w i) n = a.natAbs * a5S w n
  | 0 => rfl
  | n + 1 => by
    rw [a5S, a5S, c6E a w n]
    rw [Int.gcd, Int.gcd, Int.natAbs_mul, Int.natAbs_natCast, Int.natAbs_natCast, Nat.gcd_mul_left]
theorem d3M {a : Int} (ha : a ≠ 0) {w : Nat → Int} : ∀ {n : Nat}, (∃ i, i < n ∧ w i ≠ 0) → sgF (fun i => a * w i) n = a.sign * sgF w n
  | 0, h => by obtain ⟨i, hi, _⟩ := h; omega
  | n + 1, h => by
    have e : (∀ i, i < n → a * w i = 0) = (∀ i, i < n → w i = 0) := by
      rw [eq_iff_iff]
      exact ⟨fun q i hi => by rcases Int.mul_eq_zero.1 (q i hi) with h | h; exact absurd h ha; exact h, fun q i hi => by rw [q i hi, Int.mul_zero]⟩
    by_cases h0 : ∀ i, i < n → w i = 0
    · have hn : w n ≠ 0 := by
        obtain ⟨i, hi, hw⟩ := h
        by_cases e : i = n
        · subst e; exact hw
        · exact absurd (h0 i (by omega)) hw
      have hs0 : ∀ (v : Nat → Int) (m : Nat), (∀ i, i < m → v i = 0) → sgF v m = 1 := by
        intro v m
        induction m with
        | zero => intro _; rfl
        | succ m ih => intro hv; unfold sgF; rw [if_neg (by intro h; have := h.2; rw [hv m (by omega)] at this; omega)]; exact ih fun i hi => hv i (by omega)
      unfold sgF
      rw [hs0 w n h0, hs0 (fun i => a * w i) n fun i hi => by rw [h0 i hi, Int.mul_zero]]
      simp only [e]
      rcases Int.lt_or_gt_of_ne ha with ha' | ha'
      · rw [Int.sign_eq_neg_one_of_neg ha']
        rcases Int.lt_or_gt_of_ne hn with hn' | hn'
        · rw [if_neg (by intro h; have := h.2; have := Int.mul_pos_of_neg_of_neg ha' hn'; omega), if_pos ⟨h0, hn'⟩]; rfl
        · rw [if_pos ⟨h0, Int.mul_neg_of_neg_of_pos ha' hn'⟩, if_neg (by intro h; have := h.2; omega)]; rfl
      · rw [Int.sign_eq_one_of_pos ha', Int.one_mul]
        rcases Int.lt_or_gt_of_ne hn with hn' | hn'
        · rw [if_pos ⟨h0, Int.mul_neg_of_pos_of_neg ha' hn'⟩, if_pos ⟨h0, hn'⟩]
        · rw [if_neg (by intro h; have := h.2; have := Int.mul_pos ha' hn'; omega), if_neg (by intro h; have := h.2; omega)]
    · have hex : ∃ i, i < n ∧ w i ≠ 0 := Classical.byContradiction fun hc => h0 fun i hi => Classical.byContradiction fun h1 => hc ⟨i, hi, h1⟩
      unfold sgF
      simp only [e]
      rw [if_neg (fun h => h0 h.1), if_neg (fun h => h0 h.1), d3M ha hex]
def Nz (w : Nat → Int) (c : Nat) : Prop := ∃ i, i < c ∧ w i ≠ 0
theorem e0w {w : Nat → Int} {c : Nat} (h : Nz w c) : a5S w c ≠ 0 := fun h0 => by
  obtain ⟨i, hi, hw⟩ := h
  exact hw (b7W.1 h0 i hi)
theorem e5i {w : Nat → Int} {c : Nat} (h : Nz w c) : sgF w c * (a5S w c : Int) ≠ 0 := by
  have := e0w h
  exact Int.mul_ne_zero (by rcases d6Z w c with h | h <;> omega) (by omega)
/-- A multiple of what is left. -/
theorem d9N {w : Nat → Int} {c i : Nat} (hi : i < c) : w i = (sgF w c * (a5S w c : Int)) * b0J w c i := by
  obtain ⟨q, hq⟩ := d1b w hi
  unfold b0J
  rcases Nat.eq_zero_or_pos (a5S w c) with h0 | h0
  · rw [h0] at hq; rw [h0]; simp at hq ⊢; exact hq
  · have hd : (sgF w c * (a5S w c : Int)) ∣ w i := by
      rcases d6Z w c with h | h
      · rw [h, Int.one_mul]; exact ⟨q, hq⟩
      · rw [h]; exact ⟨-q, by rw [hq, Int.neg_mul, Int.one_mul, Int.neg_mul_neg]⟩
    rw [Int.mul_ediv_cancel' hd]
theorem d0t {a : Int} (ha : a ≠ 0) {w : Nat → Int} {c : Nat} (h : Nz w c) {i : Nat} (hi : i < c) : b0J (fun i => a * w i) c i = b0J w c i := by
  have h1 := d9N (w := w) hi
  have hne := e5i h
  unfold b0J
  rw [d3M ha h, c6E]
  have e : a.sign * sgF w c * ((a.natAbs * a5S w c : Nat) : Int) = a * (sgF w c * (a5S w c : Int)) := by
    rw [Int.natCast_mul]
    have key : ∀ t s m g : Int, t * s * (m * g) = t * m * (s * g) := by
      intro t s m g; rw [Int.mul_assoc, Int.mul_assoc, Int.mul_left_comm s m g]
    rw [key, Int.sign_mul_natAbs a]
  rw [e]
  show a * w i / _ = w i / _
  generalize b0J w c i = p at *
  generalize sgF w c * (a5S w c : Int) = x at *
  rw [h1, ← Int.mul_assoc, Int.mul_ediv_cancel_left _ (Int.mul_ne_zero ha hne), Int.mul_ediv_cancel_left _ hne]
theorem d5o {w v : Nat → Int} {c : Nat} (h : ∀ i, i < c → w i = v i) {i : Nat} (hi : i < c) : b0J w c i = b0J v c i := by
  unfold b0J; rw [c3O h, c9c h, h i hi]
/-- Parallel vectors have one such. -/
theorem d9M {a b : Int} (ha : a ≠ 0) (hb : b ≠ 0) {w v : Nat → Int} {c : Nat} (hw : Nz w c) (h : ∀ i, i < c → a * w i = b * v i) {i : Nat} (hi : i < c) : b0J w c i = b0J v c i := by
  have hv : Nz v c := by
    obtain ⟨j, hj, hw⟩ := hw
    refine ⟨j, hj, fun h0 => ?_⟩
    have := h j hj
    rw [h0, Int.mul_zero] at this
    rcases Int.mul_eq_zero.1 this with h | h
    · exact ha h
    · exact hw h
  rw [← d0t ha hw hi, ← d0t hb hv hi]
  exact d5o h hi
end Go.Abs
namespace Go.Abs
/-- The a0N are columns that were gone through. -/
theorem e3r {n : Nat} {B : Nat → Nat → Rat} : ∀ t c, c ∈ (gproc n B t).cs → c < t
  | 0, _, h => by simp [gproc] at h
  | t + 1, c, h => by
    have h' : c ∈ (b0h n (gproc n B t) t).cs := h
    unfold b0h at h'
    cases hf : a2x (fun p => (gproc n B t).g p t) (gproc n B t).cs.length n with
    | none => rw [hf] at h'; exact Nat.lt_succ_of_lt (e3r t c h')
    | some p =>
      rw [hf] at h'
      rcases List.mem_append.1 h' with h | h
      · exact Nat.lt_succ_of_lt (e3r t c h)
      · simp at h; omega
theorem d6u {n : Nat} {B : Nat → Nat → Rat} {t i : Nat} (h : i < (gproc n B t).cs.length) : (gproc n B t).cs.getD i 0 < t := by
  refine e3r (n := n) (B := B) t _ ?_
  rw [List.getD_eq_getElem?_getD, List.getElem?_eq_getElem h]
  exact List.getElem_mem h
end Go.Abs
namespace Go.Abs
structure Alt (n : Nat) (F : (Nat → Nat → Rat) → Rat) : Prop where
  congr : ∀ M N, (∀ r c, r < n → c < n → M r c = N r c) → F M = F N
  eq0 : ∀ M s t, s ≠ t → s < n → t < n → (∀ c, M s c = M t c) → F M = 0
  lin : ∀ M t (x y : Rat) (u w : Nat → Rat), t < n → F (a0t M t fun c => x * u c + y * w c) = x * F (a0t M t u) + y * F (a0t M t w)
section
variable {n : Nat} {F : (Nat → Nat → Rat) → Rat} (h : Alt n F)
include h
theorem Alt.add {M : Nat → Nat → Rat} {t : Nat} (u w : Nat → Rat) (ht : t < n) : F (a0t M t fun c => u c + w c) = F (a0t M t u) + F (a0t M t w) := by
  have := h.lin M t 1 1 u w ht
  have e : (fun c => (1 : Rat) * u c + 1 * w c) = fun c => u c + w c := by funext c; grind
  rw [e] at this
  grind
theorem Alt.swap {M : Nat → Nat → Rat} {s t : Nat} (hst : s ≠ t) (hs : s < n) (ht : t < n) : F (a0H s t M) = -F M := by
  let u := M s
  let w := M t
  have A : ∀ p q : Nat → Rat, (∀ c, p c = q c) → F (a0t (a0t M s p) t q) = 0 := fun p q hpq => h.eq0 _ s t hst hs ht fun c => by
    unfold a0t
    simp [hst, hpq c]
  have h0 := A (fun c => u c + w c) (fun c => u c + w c) fun _ => rfl
  rw [h.add _ _ ht, a1g hst, a1g hst, h.add _ _ hs, h.add _ _ hs, ← a1g hst, ← a1g hst, ← a1g hst, ← a1g hst, A u u fun _ => rfl, A w w fun _ => rfl] at h0
  have e1 : a0t (a0t M s u) t w = M := by
    show a0t (a0t M s (M s)) t (M t) = M
    rw [a3q]; exact a3q M t
  have e2 : a0t (a0t M s w) t u = a0H s t M := by
    funext r c; unfold a0t a0H
    by_cases h1 : r = s
    · subst h1; simp [hst]; rfl
    · by_cases h2 : r = t
      · subst h2; simp [h1]; rfl
      · simp [h1, h2]
  rw [e1, e2] at h0
  grind
theorem Alt.addrow {M : Nat → Nat → Rat} {s t : Nat} (x : Rat) (hst : s ≠ t) (hs : s < n) (ht : t < n) : F (a0t M t fun c => M t c + x * M s c) = F M := by
  have h1 := h.lin M t 1 x (M t) (M s) ht
  have e : (fun c => (1 : Rat) * M t c + x * M s c) = fun c => M t c + x * M s c := by funext c; grind
  rw [e, a3q] at h1
  have h0 : F (a0t M t (M s)) = 0 := h.eq0 _ s t hst hs ht fun c => by unfold a0t; simp [hst]
  rw [h1, h0]
  grind
theorem Alt.elim (M : Nat → Nat → Rat) : ∀ k, k < n → F (a6q M k) = F M
  | 0, _ => by congr 1; funext r c; unfold a6q; rw [if_neg (by omega)]
  | k + 1, hk => by
    rw [← Alt.elim M k (by omega), ← h.addrow (M := a6q M k) (s := 0) (t := k + 1) (-(M (k + 1) 0 / M 0 0)) (by omega) (by omega) hk]
    congr 1
    funext r c
    unfold a0t a6q
    by_cases e : r = k + 1
    · subst e
      rw [if_pos ⟨by omega, Nat.le_refl _⟩, if_pos rfl]
      show _ = (if 0 < k + 1 ∧ k + 1 ≤ k then _ else _) + _ * (if 0 < 0 ∧ 0 ≤ k then _ else _)
      rw [if_neg (by omega), if_neg (by omega)]
    · by_cases h2 : 0 < r ∧ r ≤ k
      · rw [if_pos ⟨h2.1, by omega⟩, if_neg e, if_pos h2]
      · rw [if_neg (by omega), if_neg e, if_neg h2]
end
end Go.Abs
namespace Go.Abs
/-- A row left behind is the row less a combination of the heads' rows. -/
theorem d3z : ∀ (r : Nat) (M : Nat → Nat → Rat) (i : Nat), ∃ l : Nat → Rat, ∀ k, SS r M i k = M (r + i) (r + k) + sumR (fun j => l j * M j (r + k)) r
  | 0, M, i => ⟨fun _ => 0, fun k => by simp only [SS, sumR, Nat.zero_add]; grind⟩
  | r + 1, M, i => by
    obtain ⟨l, hl⟩ := d3z r M (i + 1)
    obtain ⟨m, hm⟩ := d3z r M 0
    refine ⟨fun j => if j < r then l j - SS r M (i + 1) 0 / SS r M 0 0 * m j else -(SS r M (i + 1) 0 / SS r M 0 0), fun k => ?_⟩
    rw [d3y]
    unfold a4Q
    generalize SS r M (i + 1) 0 / SS r M 0 0 = c
    rw [hl, hm, sumR]
    show _ = M (r + 1 + i) (r + 1 + k) + (sumR (fun j => (if j < r then l j - c * m j else -c) * M j (r + 1 + k)) r + (if r < r then l r - c * m r else -c) * M r (r + 1 + k))
    rw [if_neg (Nat.lt_irrefl r)]
    have e : sumR (fun j => (if j < r then l j - c * m j else -c) * M j (r + 1 + k)) r = 1 * sumR (fun j => l j * M j (r + (k + 1))) r + (-c) * sumR (fun j => m j * M j (r + (k + 1))) r := by
      rw [← a5Z]
      refine a1o fun j hj => ?_
      rw [if_pos hj, show r + 1 + k = r + (k + 1) by omega]; grind
    rw [e, show r + 1 + i = r + (i + 1) by omega, show r + 1 + k = r + (k + 1) by omega, Nat.add_zero]
    grind
theorem d1n {n t : Nat} {M : Nat → Nat → Rat} (ht : t < n) (l : Nat → Rat) : ∀ m, m ≤ t → det n (a0t M t fun c => sumR (fun j => l j * M j c) m) = 0
  | 0, _ => by
    have h := c4m (M := M) 0 0 (M t) (M t) ht
    have e : (fun c => (0 : Rat) * M t c + 0 * M t c) = fun c => sumR (fun j => l j * M j c) 0 := by funext c; simp only [sumR]; grind
    rw [e] at h
    rw [h]; grind
  | m + 1, hm => by
    have h := c4m (M := M) 1 (l m) (fun c => sumR (fun j => l j * M j c) m) (M m) ht
    have e : (fun c => (1 : Rat) * sumR (fun j => l j * M j c) m + l m * M m c) = fun c => sumR (fun j => l j * M j c) (m + 1) := by funext c; simp only [sumR]; grind
    have h0 : det n (a0t M t (M m)) = 0 := c4n (s := m) (t := t) (by omega) (by omega) ht fun c => by unfold a0t; rw [if_neg (by omega), if_pos rfl]
    rw [e, d1n ht l m (by omega), h0] at h
    rw [h]; grind
theorem d6q {n : Nat} {B : Nat → Nat → Rat} {cs : List Nat} {i : Nat} (hi : i < n) (hc : cs.length ≤ i) (h0 : ∀ k, k < n → a2z B cs i k = 0) : det n B = 0 := by
  obtain ⟨l, hl⟩ := d3z cs.length (a0N B cs) (i - cs.length)
  have hrow : ∀ k, k < n → B i k = sumR (fun j => -l j * B j k) cs.length := fun k hk => by
    have h1 := h0 k hk
    unfold a2z at h1
    rw [hl] at h1
    have e1 : a0N B cs (cs.length + (i - cs.length)) (cs.length + k) = B i k := by
      unfold a0N; rw [a2g, show cs.length + (i - cs.length) = i by omega]
    have e2 : sumR (fun j => l j * a0N B cs j (cs.length + k)) cs.length = -1 * sumR (fun j => -l j * B j k) cs.length + 0 * sumR (fun j => -l j * B j k) cs.length := by
      rw [← a5Z]
      refine a1o fun j _ => ?_
      unfold a0N; rw [a2g]; grind
    rw [e1, e2] at h1
    grind
  rw [← d1n hi (fun j => -l j) cs.length hc]
  refine a1D fun r c hr hc => ?_
  unfold a0t
  by_cases e : r = i
  · rw [if_pos e, e]; exact hrow c hc
  · rw [if_neg e]
theorem d0Y (n : Nat) (B : Nat → Nat → Rat) : ∀ t, det n (gproc n B t).B = if (gproc n B t).odd then -det n B else det n B
  | 0 => rfl
  | t + 1 => by
    have ih := d0Y n B t
    rcases a1l (fun p => (gproc n B t).g p t) (gproc n B t).cs.length n with ⟨p, hf, h1, h2, h3, _⟩ | ⟨hf, h4⟩
    · have e : gproc n B (t + 1) = _ := a0U hf
      rw [e]
      show det n (a0H p (gproc n B t).cs.length (gproc n B t).B) = if (if p = (gproc n B t).cs.length then (gproc n B t).odd else !(gproc n B t).odd) = true then -det n B else det n B
      by_cases hp : p = (gproc n B t).cs.length
      · rw [if_pos hp, hp, c5a]; exact ih
      · rw [if_neg hp, d4p hp h2 (by omega), ih]
        cases (gproc n B t).odd <;> simp <;> grind
    · have e : gproc n B (t + 1) = _ := a1Q hf
      rw [e]; exact ih
theorem b7U {n : Nat} {B : Nat → Nat → Rat} : ∀ t, (gproc n B t).cs.length = t → ∀ b, b < t → (gproc n B t).cs.getD b 0 = b
  | 0, _, _, h => absurd h (by omega)
  | t + 1, hl, b, hb => by
    rcases a1l (fun p => (gproc n B t).g p t) (gproc n B t).cs.length n with ⟨p, hf, h1, h2, h3, _⟩ | ⟨hf, h4⟩
    · have e : gproc n B (t + 1) = _ := a0U hf
      rw [e] at hl ⊢
      simp only [a1I] at hl
      show ((gproc n B t).cs ++ [t]).getD b 0 = b
      have ht : (gproc n B t).cs.length = t := by omega
      by_cases hbt : b = t
      · subst hbt; simp [List.getD_eq_getElem?_getD, ht]
      · have := b7U t ht b (by omega)
        rw [List.getD_eq_getElem?_getD, List.getElem?_append_left (by omega), ← List.getD_eq_getElem?_getD]; exact this
    · have e : gproc n B (t + 1) = gproc n B t := a1Q hf
      rw [e] at hl
      have := a7D n B t
      omega
theorem e1G {n : Nat} {B : Nat → Nat → Rat} (hB : ∀ i k, ∃ z : Int, B i k = z) : dv n B n = det n B := by
  have hs := d0Y n B n
  unfold dv
  by_cases h : (gproc n B n).cs.length = n
  · rw [if_pos h]
    have e : (gproc n B n).last = det n (gproc n B n).B := by
      unfold GS.last a4Z
      rw [h]
      refine a1D fun r c _ hc => ?_
      unfold a0N colm
      rw [if_pos (by omega), b7U n h c hc]
    rw [e, hs]
    cases (gproc n B n).odd <;> simp
  · have hlt := a7D n B n
    rw [if_neg h]
    have h0 := d6q (n := n) (B := (gproc n B n).B) (cs := (gproc n B n).cs) (i := (gproc n B n).cs.length) (by omega) (Nat.le_refl _) fun k hk => d1e hB n _ k (Nat.le_refl _) (by omega) hk
    rw [h0] at hs
    cases hodd : (gproc n B n).odd <;> rw [hodd] at hs <;> simp at hs <;> grind
end Go.Abs
namespace Go.Abs
section
variable {n : Nat} {B : Nat → Nat → Rat}
theorem d3U : ∀ t a, a < n → ∃ a', a' < n ∧ ∀ k, (gproc n B t).B a' k = B a k
  | 0, a, h => ⟨a, h, fun _ => rfl⟩
  | t + 1, a, h => by
    obtain ⟨a1, h1, h2⟩ := d3U t a h
    rcases a1l (fun p => (gproc n B t).g p t) (gproc n B t).cs.length n with ⟨p, hf, g1, g2, g3, _⟩ | ⟨hf, h4⟩
    · have e : gproc n B (t + 1) = _ := a0U hf
      rw [e]
      refine ⟨if a1 = p then (gproc n B t).cs.length else if a1 = (gproc n B t).cs.length then p else a1, ?_, fun k => ?_⟩
      · split
        · omega
        · split <;> omega
      · rw [← h2 k]
        show a0H p (gproc n B t).cs.length (gproc n B t).B _ k = _
        unfold a0H
        by_cases e1 : a1 = p
        · rw [if_pos e1]
          by_cases e2 : (gproc n B t).cs.length = p
          · rw [if_pos e2, e1, e2]
          · rw [if_neg e2, if_pos rfl, e1]
        · rw [if_neg e1]
          by_cases e2 : a1 = (gproc n B t).cs.length
          · rw [if_pos e2, if_pos rfl, e2]
          · rw [if_neg e2, if_neg e1, if_neg e2]
    · have e : gproc n B (t + 1) = _ := a1Q hf
      rw [e]; exact ⟨a1, h1, h2⟩
variable (hB : ∀ i k, ∃ z : Int, B i k = z)
include hB
/-- Every row, over the columns gone through, from its entries at the a0N. -/
theorem d7e {t a k : Nat} (ha : a < n) (hk : k < t) : B a k = sumR (fun i => B a ((gproc n B t).cs.getD i 0) * (a1t n B t).M i k) (gproc n B t).cs.length := by
  obtain ⟨a', h1, h2⟩ := d3U (n := n) (B := B) t a ha
  have hok := b1I (n := n) hB t
  have hu := hok.up a' k
  rw [a2w] at hu
  have hz : (if (gproc n B t).cs.length ≤ a' then (a1t n B t).M a' k else 0) = 0 := by
    split
    · rename_i h
      rw [hok.low a' k (by rw [a2w]; exact h), a2w]
      exact d1e hB t a' k h h1 hk
    · rfl
  rw [hz] at hu
  rw [← h2 k, hu]
  have : sumR (fun i => (gproc n B t).B a' ((gproc n B t).cs.getD i 0) * (a1t n B t).M i k) (gproc n B t).cs.length = sumR (fun i => B a ((gproc n B t).cs.getD i 0) * (a1t n B t).M i k) (gproc n B t).cs.length := a1o fun i _ => by rw [h2]
  rw [this]; grind
end
end Go.Abs
namespace Go.Abs
theorem c8X (f : Nat → Rat) : ∀ n k, k < n + 1 → sumR f (n + 1) = f k + sumR (fun j => f (skip k j)) n
  | 0, k, h => by
    have : k = 0 := by omega
    subst this
    simp only [sumR]; grind
  | n + 1, k, h => by
    by_cases e : k = n + 1
    · subst e
      have : sumR (fun j => f (skip (n + 1) j)) (n + 1) = sumR f (n + 1) := a1o fun j hj => by rw [skip, if_pos (by omega)]
      rw [this, sumR]; grind
    · have h2 : skip k n = n + 1 := by rw [skip, if_neg (by omega)]
      show sumR f (n + 1) + f (n + 1) = _
      rw [c8X f n k (by omega)]
      show _ = f k + (sumR (fun j => f (skip k j)) n + f (skip k n))
      rw [h2]; grind
theorem c2j (n : Nat) : sg (n + 1) = -sg n := rfl
theorem d6V (k j r : Nat) : skip k (skip j r) = skip (skip k j) (skip (b0f (skip k j) k) r) := by
  unfold skip b0f
  repeat' split
  all_goals omega
/-- A column that is 1 in row k and 0 elsewhere. -/
theorem c4j : ∀ {n t k : Nat} (A : Nat → Nat → Rat), t < n + 1 → k < n + 1 → det (n + 1) (a0J A t fun r => if r = k then 1 else 0) = sg (t + k) * det n fun r c => A (skip k r) (skip t c)
  | n, 0, k, A, _, hk => by
    unfold det
    rw [b4l (t := k) hk fun i _ hi => by
      have : a0J A 0 (fun r => if r = k then (1 : Rat) else 0) i 0 = 0 := by
        unfold a0J
        rw [if_pos rfl]
        exact if_neg hi
      rw [this]; grind]
    have e1 : a0J A 0 (fun r => if r = k then (1 : Rat) else 0) k 0 = 1 := by
      unfold a0J
      rw [if_pos rfl]
      exact if_pos rfl
    have e2 : (fun r c => a0J A 0 (fun r => if r = k then (1 : Rat) else 0) (skip k r) (c + 1)) = fun r c => A (skip k r) (skip 0 c) := by
      funext r c
      unfold a0J
      rw [if_neg (by omega)]; rfl
    rw [e1, e2, Nat.zero_add]
    cases n with
    | zero => simp only [det]; grind
    | succ n => rw [show det (n + 1) (fun r c => A (skip k r) (skip 0 c)) = sumR (fun i => sg i * A (skip k i) (skip 0 0) * det n fun r c => A (skip k (skip i r)) (skip 0 (c + 1))) (n + 1) from rfl]; grind
  | 0, t + 1, k, A, ht, _ => absurd ht (by omega)
  | n + 1, t + 1, k, A, ht, hk => by
    rw [show det (n + 1 + 1) (a0J A (t + 1) fun r => if r = k then 1 else 0) = sumR (fun i => sg i * a0J A (t + 1) (fun r => if r = k then 1 else 0) i 0 * det (n + 1) fun r c => a0J A (t + 1) (fun r => if r = k then 1 else 0) (skip i r) (c + 1)) (n + 1 + 1) from rfl]
    rw [c8X _ (n + 1) k hk]
    have hz : det (n + 1) (fun r c => a0J A (t + 1) (fun r => if r = k then (1 : Rat) else 0) (skip k r) (c + 1)) = 0 := by
      rw [a4k]
      exact a9a (t := t) (by omega) fun r => by
        unfold a0J
        rw [if_pos rfl]
        exact if_neg (d1X k r)
    have hterm : ∀ j, j < n + 1 → sg (skip k j) * a0J A (t + 1) (fun r => if r = k then (1 : Rat) else 0) (skip k j) 0 * det (n + 1) (fun r c => a0J A (t + 1) (fun r => if r = k then 1 else 0) (skip (skip k j) r) (c + 1)) =
        sg (t + 1 + k) * (sg j * A (skip k j) (skip (t + 1) 0) * det n fun r c => A (skip k (skip j r)) (skip (t + 1) (c + 1))) := fun j hj => by
      have hne : skip k j ≠ k := d1X k j
      have hlt : skip k j < n + 1 + 1 := d1Y hj
      have hu : (fun r => if skip (skip k j) r = k then (1 : Rat) else 0) = fun r => if r = b0f (skip k j) k then (1 : Rat) else 0 := by
        funext r
        have := c5d (r := r) hne
        simp only [this]
      rw [a4k, hu, c4j (n := n) (t := t) (k := b0f (skip k j) k) _ (by omega) (by unfold b0f; split <;> omega)]
      have e1 : a0J A (t + 1) (fun r => if r = k then (1 : Rat) else 0) (skip k j) 0 = A (skip k j) (skip (t + 1) 0) := by
        unfold a0J
        rw [if_neg (by omega), skip, skip, if_pos (show 0 < t + 1 by omega)]
      have e2 : (fun r c => A (skip (skip k j) (skip (b0f (skip k j) k) r)) (skip t c + 1)) = fun r c => A (skip k (skip j r)) (skip (t + 1) (c + 1)) := by
        funext r c
        rw [← d6V]
        congr 1
        unfold skip
        repeat' split
        all_goals omega
      have es : sg (skip k j) * sg (t + b0f (skip k j) k) = sg (t + 1 + k) * sg j := by
        by_cases h : j < k
        · have h1 : skip k j = j := by rw [skip, if_pos h]
          have h2 : b0f j k = k - 1 := by rw [b0f, if_neg (by omega)]
          rw [h1, h2, show t + 1 + k = t + (k - 1) + 1 + 1 by omega, c2j, c2j]; grind
        · have h1 : skip k j = j + 1 := by rw [skip, if_neg h]
          have h2 : b0f (j + 1) k = k := by rw [b0f, if_pos (by omega)]
          rw [h1, h2, show t + 1 + k = t + k + 1 by omega, c2j, c2j]; grind
      rw [e1]
      show sg (skip k j) * A (skip k j) (skip (t + 1) 0) * (sg (t + b0f (skip k j) k) * det n fun r c => A (skip (skip k j) (skip (b0f (skip k j) k) r)) (skip t c + 1)) = _
      rw [e2]
      generalize (det n fun r c => A (skip k (skip j r)) (skip (t + 1) (c + 1))) = d
      generalize A (skip k j) (skip (t + 1) 0) = a
      generalize sg (skip k j) = s1 at *
      generalize sg (t + b0f (skip k j) k) = s2 at *
      generalize sg (t + 1 + k) = s3 at *
      generalize sg j = s4 at *
      have : s1 * a * (s2 * d) = (s1 * s2) * (a * d) := by grind
      rw [this, es]; grind
    rw [hz, a1o hterm]
    rw [show det (n + 1) (fun r c => A (skip k r) (skip (t + 1) c)) = sumR (fun i => sg i * A (skip k i) (skip (t + 1) 0) * det n fun r c => A (skip k (skip i r)) (skip (t + 1) (c + 1))) (n + 1) from rfl]
    have := a5Z (sg (t + 1 + k)) 0 (fun i => sg i * A (skip k i) (skip (t + 1) 0) * det n fun r c => A (skip k (skip i r)) (skip (t + 1) (c + 1))) (fun _ => 0) (n + 1)
    have e0 : (fun i => sg (t + 1 + k) * (sg i * A (skip k i) (skip (t + 1) 0) * det n fun r c => A (skip k (skip i r)) (skip (t + 1) (c + 1))) + (0 : Rat) * (fun _ => (0 : Rat)) i) = fun i => sg (t + 1 + k) * (sg i * A (skip k i) (skip (t + 1) 0) * det n fun r c => A (skip k (skip i r)) (skip (t + 1) (c + 1))) := by funext i; grind
    rw [e0] at this
    rw [this]; grind
/-- The matrix with the unit behind it. -/
def a4L (n : Nat) (B : Nat → Nat → Rat) : Nat → Nat → Rat := fun i k => if k < n then B i k else if k < 2 * n then (if i = k - n then 1 else 0) else 0
section
variable {n : Nat} {B : Nat → Nat → Rat} (hB : ∀ i k, ∃ z : Int, B i k = z)
include hB
theorem c8C : ∀ i k, ∃ z : Int, a4L n B i k = z := fun i k => by
  unfold a4L
  split
  · exact hB i k
  · split
    · split
      · exact ⟨1, rfl⟩
      · exact ⟨0, rfl⟩
    · exact ⟨0, rfl⟩
theorem c8h : (gproc n B n).cs.length = n ↔ det n B ≠ 0 := by
  rw [← e1G hB]
  unfold dv
  constructor
  · intro h
    rw [if_pos h]
    have h0 : (gproc n B n).last ≠ 0 := b6H (a6o (n := n) hB n).piv
    split
    · intro h1; exact h0 (by grind)
    · exact h0
  · intro h
    refine Classical.byContradiction fun hne => h ?_
    rw [if_neg hne]
omit hB in
theorem e0U : det n (a4L n B) = det n B := a1D fun r c _ hc => by unfold a4L; rw [if_pos hc]
omit hB in
/-- Past full rank nothing is added. -/
theorem d8G {C : Nat → Nat → Rat} (hC : ∀ i k, ∃ z : Int, C i k = z) {t : Nat} (h : (gproc n C t).cs.length = n) : ∀ s, (gproc n C (t + s)).cs = (gproc n C t).cs
  | 0 => rfl
  | s + 1 => by
    have ih := d8G hC h s
    have hl := (a6o (n := n) hC (t + s + 1)).len
    rcases a1l (fun p => (gproc n C (t + s)).g p (t + s)) (gproc n C (t + s)).cs.length n with ⟨p, hf, h1, h2, h3, _⟩ | ⟨hf, h4⟩
    · rw [ih, h] at h1; omega
    · have e : gproc n C (t + s + 1) = gproc n C (t + s) := a1Q hf
      show (gproc n C (t + s + 1)).cs = _
      rw [e, ih]
variable (hd : det n B ≠ 0)
include hd
theorem d8T : (gproc n (a4L n B) (2 * n)).cs.length = n ∧ ∀ i, i < n → (gproc n (a4L n B) (2 * n)).cs.getD i 0 = i := by
  have h1 : (gproc n (a4L n B) n).cs.length = n := (c8h (c8C hB)).2 (by rw [e0U]; exact hd)
  have h2 := d8G (c8C (n := n) hB) h1 n
  rw [show n + n = 2 * n by omega] at h2
  rw [h2]
  exact ⟨h1, b7U n h1⟩
/-- The right half is the inverse: times the determinant it is the cofactors. -/
theorem d3c {i c : Nat} (hi : i < n) (hc : c < n) : (a1t n (a4L n B) (2 * n)).M i (n + c) * det n B = det n (a0J B i fun r => if r = c then 1 else 0) := by
  obtain ⟨h1, h2⟩ := d8T hB hd
  have hcr := d8H (A := B) (fun j => (a1t n (a4L n B) (2 * n)).M j (n + c)) hi n (Nat.le_refl n)
  rw [if_pos hi] at hcr
  rw [← hcr]
  refine a1D fun r k hr hk => ?_
  unfold a0J
  by_cases e : k = i
  · rw [if_pos e, if_pos e]
    have := d7e (n := n) (c8C (n := n) hB) (t := 2 * n) (a := r) (k := n + c) hr (by omega)
    rw [h1] at this
    have e1 : a4L n B r (n + c) = if r = c then 1 else 0 := by
      unfold a4L
      rw [if_neg (by omega), if_pos (by omega), show n + c - n = c by omega]
    rw [e1] at this
    show _ = if r = c then (1 : Rat) else 0
    rw [this]
    refine a1o fun j hj => ?_
    rw [h2 j hj]
    have : a4L n B r j = B r j := by unfold a4L; rw [if_pos hj]
    rw [this]
  · rw [if_neg e, if_neg e]
end
end Go.Abs
namespace Go.Abs
open Go.Proofs
noncomputable abbrev Pr : Program := Try.prog
abbrev a4O : FuncId := 8
abbrev a6y : FuncId := 15
abbrev b1z : FuncId := 16
abbrev b3W : FuncId := 19
abbrev a6x : FuncId := 21
abbrev a7S : FuncId := 23
abbrev b3X : FuncId := 30
abbrev a1S : FuncId := 31
abbrev a1s : FuncId := 32
abbrev a5l : FuncId := 36
abbrev b1P : FuncId := 38
abbrev a2i : FuncId := 44
abbrev b1B : FuncId := 49
abbrev a3Z : FuncId := 50
abbrev a5h : FuncId := 51
abbrev a1d : FuncId := 52
abbrev a6t : FuncId := 53
abbrev a6v : FuncId := 54
abbrev a9k : FuncId := 55
abbrev b1R : FuncId := 56
abbrev b3V : FuncId := 57
abbrev b8h : FuncId := 59
abbrev b1y : FuncId := 60
abbrev a1v : FuncId := 63
abbrev a5P : FuncId := 66
abbrev a6z : FuncId := 67
abbrev b1A : FuncId := 68
abbrev a6U : FuncId := 69
abbrev a9j : FuncId := 70
abbrev b3M : FuncId := 71
abbrev a0T : FuncId := 73
abbrev a7P : FuncId := 77
abbrev a4n : FuncId := 78
abbrev a7M : FuncId := 80
abbrev a9c : FuncId := 81
abbrev b8i : FuncId := 82
abbrev a9l : FuncId := 85
abbrev a7L : FuncId := 86
abbrev a3n : FuncId := 87
abbrev a6s : FuncId := 88
abbrev a9d : FuncId := 89
abbrev b3P : FuncId := 90
abbrev a6u : FuncId := 91
abbrev a7Q : FuncId := 92
abbrev a2k : FuncId := 93
abbrev a5O : FuncId := 94
abbrev a1e : FuncId := 95
abbrev b3R : FuncId := 97
abbrev a5i : FuncId := 98
abbrev a1a : FuncId := 99
abbrev b8g : FuncId := 101
abbrev b1Q : FuncId := 102
abbrev a0o : FuncId := 103
abbrev b7i : FuncId := 104
abbrev a2V : FuncId := 105
abbrev b3N : FuncId := 106
abbrev a2j : FuncId := 107
abbrev a3L : FuncId := 108
abbrev a1p : FuncId := 109
abbrev b3O : FuncId := 110
abbrev a0x : FuncId := 111
abbrev a3M : FuncId := 112
abbrev a9g : FuncId := 113
abbrev a2P : FuncId := 114
abbrev a1J : FuncId := 115
abbrev c4B : FuncId := 117
abbrev a7R : FuncId := 118
abbrev c4A : FuncId := 119
abbrev a7O : FuncId := 120
abbrev b3U : FuncId := 121
abbrev a1u : FuncId := 122
abbrev b7h : FuncId := 123
abbrev a9i : FuncId := 124
abbrev b7g : FuncId := 125
abbrev b3Q : FuncId := 126
abbrev a9h : FuncId := 127
abbrev a2Q : FuncId := 128
abbrev a9f : FuncId := 129
abbrev a9e : FuncId := 130
abbrev b3S : FuncId := 131
abbrev a2m : FuncId := 132
abbrev a0M : FuncId := 133
abbrev a2l : FuncId := 134
abbrev b3T : FuncId := 135
abbrev a7N : FuncId := 136
abbrev a6w : FuncId := 137
def d9w : ByteArray := ⟨#[0, 1, 2, 2, 3, 3, 3, 3, 4, 4, 4, 4, 4, 4, 4, 4, 5, 5, 5, 5, 5, 5, 5, 5, 5, 5, 5, 5, 5, 5, 5, 5, 6, 6, 6, 6, 6, 6, 6, 6, 6, 6, 6, 6, 6, 6, 6, 6, 6, 6, 6, 6, 6, 6, 6, 6, 6, 6, 6, 6, 6, 6, 6, 6, 7, 7, 7, 7, 7, 7, 7, 7, 7, 7, 7, 7, 7, 7, 7, 7, 7, 7, 7, 7, 7, 7, 7, 7, 7, 7, 7, 7, 7, 7, 7, 7, 7, 7, 7, 7, 7, 7, 7, 7, 7, 7, 7, 7, 7, 7, 7, 7, 7, 7, 7, 7, 7, 7, 7, 7, 7, 7, 7, 7, 7, 7, 7, 7, 8, 8, 8, 8, 8, 8, 8, 8, 8, 8, 8, 8, 8, 8, 8, 8, 8, 8, 8, 8, 8, 8, 8, 8, 8, 8, 8, 8, 8, 8, 8, 8, 8, 8, 8, 8, 8, 8, 8, 8, 8, 8, 8, 8, 8, 8, 8, 8, 8, 8, 8, 8, 8, 8, 8, 8, 8, 8, 8, 8, 8, 8, 8, 8, 8, 8, 8, 8, 8, 8, 8, 8, 8, 8, 8, 8, 8, 8, 8, 8, 8, 8, 8, 8, 8, 8, 8, 8, 8, 8, 8, 8, 8, 8, 8, 8, 8, 8, 8, 8, 8, 8, 8, 8, 8, 8, 8, 8, 8, 8, 8, 8, 8, 8, 8, 8, 8, 8, 8, 8, 8, 8, 8, 8, 8, 8, 8, 8]⟩
end Go.Abs

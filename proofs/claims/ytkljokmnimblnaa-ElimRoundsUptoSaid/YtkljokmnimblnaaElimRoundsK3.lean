/- Part 3 of the proof of ElimRounds: M1, D1, D2, D3, D4, D5, D6, D9, D10, D11, L1, L2, L3, L4, L5, L6, L7, L8, L9, L10, L11, L12, L13, L14, Num. -/
import Derived.Test.YtkljokmnimblnaaElimRoundsK2
import Derived.Test.YtkljokmnimblnaaProg
set_option linter.unusedVariables false
set_option linter.unusedSimpArgs false
namespace Go.Abs
abbrev LB : Nat := 4294967296
def val : List Nat → Nat
  | [] => 0
  | d :: l => d + LB * val l
def Lim (l : List Nat) : Prop := ∀ d ∈ l, d < LB
/-- The limbs of a number, no nought at the end. -/
def limbs (n : Nat) : List Nat := if h : n = 0 then [] else n % LB :: limbs (n / LB)
termination_by n
decreasing_by exact Nat.div_lt_self (by omega) (by decide)
theorem a0D : limbs 0 = [] := by rw [limbs]; simp
theorem a3V {n : Nat} (h : n ≠ 0) : limbs n = n % LB :: limbs (n / LB) := by rw [limbs]; simp [h]
theorem a0f (n : Nat) : val (limbs n) = n := by
  induction n using Nat.strongRecOn with
  | _ n ih =>
    by_cases h : n = 0
    · subst h; rw [a0D]; rfl
    · rw [a3V h, val, ih (n / LB) (Nat.div_lt_self (by omega) (by decide))]
      exact Nat.mod_add_div n LB
theorem a0o (n : Nat) : Lim (limbs n) := by
  induction n using Nat.strongRecOn with
  | _ n ih =>
    by_cases h : n = 0
    · subst h; rw [a0D]; intro d hd; simp at hd
    · rw [a3V h]
      intro d hd
      rcases List.mem_cons.1 hd with rfl | hd
      · exact Nat.mod_lt _ (by decide)
      · exact ih (n / LB) (Nat.div_lt_self (by omega) (by decide)) d hd
theorem b9U : Lim [] := fun d hd => by simp at hd
theorem c4c {d : Nat} {l : List Nat} : Lim (d :: l) ↔ d < LB ∧ Lim l := by
  constructor
  · intro h; exact ⟨h d (by simp), fun e he => h e (by simp [he])⟩
  · rintro ⟨h1, h2⟩ e he
    rcases List.mem_cons.1 he with rfl | he
    · exact h1
    · exact h2 e he
theorem b1P {a b : List Nat} : Lim (a ++ b) ↔ Lim a ∧ Lim b := by
  constructor
  · intro h; exact ⟨fun d hd => h d (by simp [hd]), fun d hd => h d (by simp [hd])⟩
  · rintro ⟨h1, h2⟩ d hd
    rcases List.mem_append.1 hd with hd | hd
    · exact h1 d hd
    · exact h2 d hd
theorem Lim.take {l : List Nat} (h : Lim l) (n : Nat) : Lim (l.take n) := fun d hd => h d (List.mem_of_mem_take hd)
theorem Lim.drop {l : List Nat} (h : Lim l) (n : Nat) : Lim (l.drop n) := fun d hd => h d (List.mem_of_mem_drop hd)
theorem a5h (a b : List Nat) : val (a ++ b) = val a + LB ^ a.length * val b := by
  induction a with
  | nil => simp [val]
  | cons d a ih =>
    simp only [List.cons_append, val, ih, List.length_cons]
    rw [Nat.mul_add, ← Nat.mul_assoc, ← Nat.pow_succ', Nat.add_assoc]
theorem a1i {l : List Nat} (h : Lim l) : val l < LB ^ l.length := by
  induction l with
  | nil => simp [val]
  | cons d l ih =>
    have h' := c4c.1 h
    have := ih h'.2
    simp only [val, List.length_cons, Nat.pow_succ']
    have h1 : LB * (val l + 1) ≤ LB * LB ^ l.length := Nat.mul_le_mul_left _ this
    rw [Nat.mul_add, Nat.mul_one] at h1
    have := h'.1
    omega
theorem b9A (n : Nat) : val (List.replicate n 0) = 0 := by
  induction n with
  | zero => rfl
  | succ n ih => simp [List.replicate_succ, val, ih]
/-- A row without a nought at its end is the limbs of its number. -/
theorem a7O : ∀ {l : List Nat}, Lim l → (l.getLast?).getD 1 ≠ 0 → limbs (val l) = l
  | [], _, _ => a0D
  | d :: l, h, hl => by
    obtain ⟨h1, h2⟩ := c4c.1 h
    have hl' : (l.getLast?).getD 1 ≠ 0 := by
      cases l with
      | nil => simp
      | cons e l => simpa [List.getLast?_cons_cons] using hl
    have hne : val (d :: l) ≠ 0 := by
      intro h0
      simp only [val] at h0
      have hd : d = 0 := by omega
      have hv : val l = 0 := by
        have : LB * val l = 0 := by omega
        rcases Nat.mul_eq_zero.1 this with h | h
        · exact absurd h (by decide)
        · exact h
      have := a7O h2 hl'
      rw [hv, a0D] at this
      subst this
      subst hd
      simp at hl
    rw [a3V hne]
    simp only [val]
    rw [Nat.add_mul_mod_self_left, Nat.mod_eq_of_lt h1, Nat.add_mul_div_left _ _ (by decide), Nat.div_eq_of_lt h1, Nat.zero_add, a7O h2 hl']
theorem a8t (n : Nat) : ((limbs n).getLast?).getD 1 ≠ 0 := by
  induction n using Nat.strongRecOn with
  | _ n ih =>
    by_cases h : n = 0
    · subst h; rw [a0D]; simp
    · rw [a3V h]
      have := ih (n / LB) (Nat.div_lt_self (by omega) (by decide))
      cases hq : limbs (n / LB) with
      | nil =>
        have h0 : n / LB = 0 := by
          have := a0f (n / LB)
          rw [hq] at this
          exact this.symm
        have : n % LB = n := Nat.mod_eq_of_lt (by
          rcases Nat.lt_or_ge n LB with h' | h'
          · exact h'
          · have := Nat.div_pos h' (by decide); omega)
        simp [this, h]
      | cons e l =>
        rw [hq] at this
        simpa [List.getLast?_cons_cons] using this
theorem a0E {n k : Nat} (h : n < LB ^ k) : (limbs n).length ≤ k := by
  induction k generalizing n with
  | zero =>
    have : n = 0 := by simpa using h
    subst this; rw [a0D]; simp
  | succ k ih =>
    by_cases h0 : n = 0
    · subst h0; rw [a0D]; simp
    · rw [a3V h0, List.length_cons]
      have : n / LB < LB ^ k := by
        rw [Nat.div_lt_iff_lt_mul (by decide)]
        rwa [Nat.pow_succ] at h
      have := ih this
      omega
theorem c1u {n : Nat} (h : limbs n ≠ []) : LB ^ ((limbs n).length - 1) ≤ n := by
  induction n using Nat.strongRecOn with
  | _ n ih =>
    by_cases h0 : n = 0
    · subst h0; rw [a0D] at h; simp at h
    · rw [a3V h0, List.length_cons, Nat.add_sub_cancel]
      by_cases hq : limbs (n / LB) = []
      · rw [hq]; simp; omega
      · have := ih (n / LB) (Nat.div_lt_self (by omega) (by decide)) hq
        have hl : 0 < (limbs (n / LB)).length := List.length_pos_iff.2 hq
        have h1 : LB ^ (limbs (n / LB)).length = LB ^ ((limbs (n / LB)).length - 1) * LB := by
          rw [← Nat.pow_succ]; congr 1; omega
        rw [h1]
        exact Nat.le_trans (Nat.mul_le_mul_right _ this) (Nat.div_mul_le_self n LB)
theorem c6K (l : List Nat) : val (l ++ [0]) = val l := by rw [a5h]; simp [val]
theorem a3q (l : List Nat) (d : Nat) : val (l ++ [d]) = val l + LB ^ l.length * d := by rw [a5h]; simp [val]
theorem b9z {l : List Nat} {i : Nat} (h : i < l.length) : val (l.take (i + 1)) = val (l.take i) + LB ^ i * l[i] := by
  rw [List.take_succ_eq_append_getElem h, a3q, List.length_take, Nat.min_eq_left (by omega)]
theorem a1s {l : List Nat} (h : Lim l) (i : Nat) : l.getD i 0 < LB := by
  rw [List.getD_eq_getElem?_getD]
  rcases Nat.lt_or_ge i l.length with hi | hi
  · rw [List.getElem?_eq_getElem hi, Option.getD_some]; exact h _ (List.getElem_mem hi)
  · rw [List.getElem?_eq_none hi]; decide
/-- Up to a place; behind the end nothing comes. -/
theorem a0m (l : List Nat) (i : Nat) : val (l.take (i + 1)) = val (l.take i) + LB ^ i * l.getD i 0 := by
  rcases Nat.lt_or_ge i l.length with h | h
  · rw [b9z h, List.getD_eq_getElem?_getD, List.getElem?_eq_getElem h, Option.getD_some]
  · rw [List.take_of_length_le (by omega), List.take_of_length_le h, List.getD_eq_getElem?_getD, List.getElem?_eq_none h]; simp
theorem a3r (i : Nat) : 0 < LB ^ i := Nat.pow_pos (by decide)
/-- Which of two is greater is told from the top. -/
theorem b0u {a b : List Nat} {i : Nat} (ha : Lim a) (hb : Lim b) (h : a.drop (i + 1) = b.drop (i + 1)) (hi : i < a.length) (hi' : i < b.length) (hl : a.length = b.length) (hlt : a.getD i 0 < b.getD i 0) : val a < val b := by
  have e1 : a = a.take (i + 1) ++ a.drop (i + 1) := (List.take_append_drop _ _).symm
  have e2 : b = b.take (i + 1) ++ b.drop (i + 1) := (List.take_append_drop _ _).symm
  rw [e1, e2, a5h, a5h, h, a0m, a0m]
  have l1 : (a.take (i + 1)).length = i + 1 := by rw [List.length_take]; omega
  have l2 : (b.take (i + 1)).length = i + 1 := by rw [List.length_take]; omega
  rw [l1, l2]
  have h1 := a1i (ha.take i)
  rw [List.length_take, Nat.min_eq_left (by omega)] at h1
  have h2 : LB ^ i * (a.getD i 0 + 1) ≤ LB ^ i * b.getD i 0 := Nat.mul_le_mul_left _ hlt
  rw [Nat.mul_add] at h2
  omega
def blen (n : Nat) : Nat := if n = 0 then 0 else Nat.log2 n + 1
theorem c1Q : blen 0 = 0 := rfl
theorem c3E (n : Nat) : n < 2 ^ blen n := by
  unfold blen
  split
  · rename_i h; subst h; decide
  · exact Nat.lt_log2_self
theorem b7f {n : Nat} (h : n ≠ 0) : 2 ^ (blen n - 1) ≤ n := by
  unfold blen
  rw [if_neg h, Nat.add_sub_cancel]
  exact Nat.log2_self_le h
theorem d4c {n k : Nat} (h1 : n < 2 ^ k) (h2 : k = 0 ∨ 2 ^ (k - 1) ≤ n) : blen n = k := by
  by_cases h0 : n = 0
  · subst h0
    rcases h2 with h2 | h2
    · rw [h2]; rfl
    · have := Nat.pow_pos (n := k - 1) (show 0 < 2 by decide); omega
  · have a := c3E n
    have b := b7f h0
    have c : 0 < blen n := by unfold blen; rw [if_neg h0]; omega
    have d : blen n - 1 < k := (Nat.pow_lt_pow_iff_right (by decide)).1 (Nat.lt_of_le_of_lt b h1)
    have e : k - 1 < blen n := by
      rcases h2 with h2 | h2
      · omega
      · exact (Nat.pow_lt_pow_iff_right (by decide)).1 (Nat.lt_of_le_of_lt h2 a)
    omega
/-- The lowest k bits do not count where others stand above them. -/
theorem c4B {h k r : Nat} (hh : h ≠ 0) (hr : r < 2 ^ k) : blen (r + 2 ^ k * h) = k + blen h := by
  have a := c3E h
  have b := b7f hh
  have c : 0 < blen h := by unfold blen; rw [if_neg hh]; omega
  refine d4c ?_ (.inr ?_)
  · rw [Nat.pow_add]
    have : 2 ^ k * (h + 1) ≤ 2 ^ k * 2 ^ blen h := Nat.mul_le_mul_left _ a
    rw [Nat.mul_add] at this
    omega
  · rw [show k + blen h - 1 = k + (blen h - 1) by omega, Nat.pow_add]
    have : 2 ^ k * 2 ^ (blen h - 1) ≤ 2 ^ k * h := Nat.mul_le_mul_left _ b
    omega
theorem c4A {n k : Nat} (h : 2 ^ k ≤ n) : blen n = k + blen (n / 2 ^ k) := by
  have hp : 0 < 2 ^ k := Nat.pow_pos (by decide)
  have h0 : n / 2 ^ k ≠ 0 := by
    have := Nat.div_pos h hp; omega
  have := c4B (r := n % 2 ^ k) h0 (Nat.mod_lt _ hp)
  rwa [Nat.mod_add_div] at this
theorem d1O (i : Nat) : LB ^ i = 2 ^ (32 * i) := by rw [Nat.pow_mul]
theorem c6w {l : List Nat} {d : Nat} (hl : Lim l) (hd : d ≠ 0) : blen (val (l ++ [d])) = 32 * l.length + blen d := by
  rw [a3q, d1O]
  exact c4B hd (by rw [← d1O]; exact a1i hl)
theorem a0X {l : List Nat} (h : Lim l) : (limbs (val l)).length ≤ l.length := a0E (a1i h)
/-- A row that may be handed round. -/
structure Nt (l : List Nat) : Prop where
  lim : Lim l
  len : l.length ≤ 17592186044416
theorem Nt.limbs {l : List Nat} (h : Nt l) : Nt (limbs (val l)) := ⟨a0o _, Nat.le_trans (a0X h.lim) h.len⟩
theorem b9G (x : List Nat) (k d : Nat) : (x ++ List.replicate (k + 1) 0).set x.length d = (x ++ [d]) ++ List.replicate k 0 := by
  rw [List.set_append_right _ _ (Nat.le_refl _), Nat.sub_self, List.replicate_succ, List.set_cons_zero]; simp
/-- One place of a sum. -/
theorem c3Q {vd pa pb B c x y i : Nat} (h : vd + B * c = pa + pb) : (vd + B * ((c + x + y) % LB)) + (B * LB) * ((c + x + y) / LB) = (pa + B * x) + (pb + B * y) := by
  have e : (c + x + y) % LB + LB * ((c + x + y) / LB) = c + x + y := Nat.mod_add_div _ _
  have e2 : B * ((c + x + y) % LB) + (B * LB) * ((c + x + y) / LB) = B * (c + x + y) := by rw [Nat.mul_assoc, ← Nat.mul_add, e]
  have e3 : B * (c + x + y) = B * c + B * x + B * y := by rw [Nat.mul_add, Nat.mul_add]
  omega
theorem a2e {x : List Nat} {d : Nat} (h : Lim x) (hd : d < LB) : Lim (x ++ [d]) := b1P.2 ⟨h, by intro e he; simp at he; omega⟩
theorem d2n {w : List Nat} {k d : Nat} (h : k < w.length) : val (w.set k d) + LB ^ k * w.getD k 0 = val w + LB ^ k * d := by
  induction w generalizing k with
  | nil => simp at h
  | cons e w ih =>
    cases k with
    | zero => simp only [List.set_cons_zero, val, Nat.pow_zero, Nat.one_mul, List.getD_cons_zero]; omega
    | succ k =>
      simp only [List.set_cons_succ, val, List.getD_cons_succ, Nat.pow_succ']
      have := ih (k := k) (by simpa using h)
      have e1 : LB * (val (w.set k d) + LB ^ k * w.getD k 0) = LB * (val w + LB ^ k * d) := by rw [this]
      rw [Nat.mul_add, Nat.mul_add, ← Nat.mul_assoc, ← Nat.mul_assoc] at e1
      omega
theorem d3b {w : List Nat} {k d : Nat} (h : Lim w) (hd : d < LB) : Lim (w.set k d) := by
  intro e he
  rcases List.mem_or_eq_of_mem_set he with h' | h'
  · exact h e h'
  · rw [h']; exact hd
/-- One place of a difference. -/
theorem c7W {vx va vb B bo bo' d x y : Nat} (h : va + B * bo = vx + vb) (hd : x + LB * bo' = d + bo + y) : (va + B * x) + (B * LB) * bo' = (vx + B * d) + (vb + B * y) := by
  have e : B * (x + LB * bo') = B * (d + bo + y) := by rw [hd]
  rw [Nat.mul_add, Nat.mul_add, Nat.mul_add, ← Nat.mul_assoc] at e
  omega
/-- One place of a product. -/
theorem d0n {vw vx A B C c x y q vb vs t : Nat} (hC : C = A * B) (h : vw + C * c = vx + A * (x * vb)) (hs : vs + C * q = vw + C * (t % LB)) (ht : t = c + x * y + q) :
    vs + (C * LB) * (t / LB) = vx + A * (x * (vb + B * y)) := by
  have e : t % LB + LB * (t / LB) = t := Nat.mod_add_div _ _
  have e1 : C * (t % LB) + (C * LB) * (t / LB) = C * t := by rw [Nat.mul_assoc, ← Nat.mul_add, e]
  have e2 : C * t = C * c + C * (x * y) + C * q := by rw [ht, Nat.mul_add, Nat.mul_add]
  have e3 : A * (x * (vb + B * y)) = A * (x * vb) + C * (x * y) := by
    rw [hC, Nat.mul_add, Nat.mul_add, Nat.mul_assoc A B, Nat.mul_left_comm B x y]
  omega
theorem d0o {c x y q : Nat} (hc : c < LB) (hx : x < LB) (hy : y < LB) (hq : q < LB) : c + x * y + q < LB * LB := by
  have : x * y ≤ (LB - 1) * (LB - 1) := Nat.mul_le_mul (by omega) (by omega)
  have e : (LB - 1) * (LB - 1) + (LB - 1) + (LB - 1) < LB * LB := by decide
  omega
theorem c8q (a : List Nat) (n i : Nat) : (a.drop n).getD i 0 = a.getD (n + i) 0 := by simp [List.getD_eq_getElem?_getD, List.getElem?_drop]
theorem a5g (a : List Nat) (n : Nat) : val a = val (a.take n) + LB ^ n * val (a.drop n) := by
  rcases Nat.lt_or_ge a.length n with h | h
  · rw [List.take_of_length_le (by omega), List.drop_of_length_le (by omega)]; simp [val]
  · have := a5h (a.take n) (a.drop n)
    rwa [List.take_append_drop, List.length_take, Nat.min_eq_left h] at this
theorem a2A {a : List Nat} (h : Lim a) (n : Nat) : val (a.take n) < LB ^ n := by
  have h1 := a1i (h.take n)
  have h2 : LB ^ (a.take n).length ≤ LB ^ n := Nat.pow_le_pow_right (by decide) (by rw [List.length_take]; omega)
  omega
theorem b0R {a : List Nat} {i : Nat} (h : a.length ≤ i) : a.getD i 0 = 0 := by rw [List.getD_eq_getElem?_getD, List.getElem?_eq_none h]; rfl
theorem c0K {l : List Nat} {i : Nat} (h : i < l.length) : l.take (i + 1) = l.take i ++ [l.getD i 0] := by
  rw [List.take_succ_eq_append_getElem h, List.getD_eq_getElem?_getD, List.getElem?_eq_getElem h, Option.getD_some]
end Go.Abs
set_option linter.unusedVariables false
set_option linter.unusedSimpArgs false
set_option linter.defProp false
namespace Go.Abs
def u32s (l : List Nat) : List AV := l.map fun n : Nat => .int .u32 (n : Int)
def natV (l : List Nat) : AV := .sl 1 (u32s l)
theorem a0w (l : List Nat) : (u32s l).length = l.length := by simp [u32s]
theorem c2s (a b : List Nat) : u32s (a ++ b) = u32s a ++ u32s b := by simp [u32s]
theorem c9y : u32s [] = [] := rfl
theorem c0I (d : Nat) (l : List Nat) : u32s (d :: l) = .int .u32 (d : Int) :: u32s l := rfl
theorem b0v (l : List Nat) (n : Nat) : (u32s l).take n = u32s (l.take n) := by simp [u32s, List.map_take]
theorem b3O (l : List Nat) (i d : Nat) : (u32s l).set i (.int .u32 (d : Int)) = u32s (l.set i d) := by simp [u32s, List.map_set]
theorem a7b {l : List Nat} {i : Nat} (h : i < l.length) : (u32s l).getD i .top = .int .u32 (l.getD i 0 : Nat) := by
  simp [u32s, h]
theorem c6M (l : List Nat) : (u32s l).flatMap AV.cells = u32s l := by
  induction l with
  | nil => rfl
  | cons d l ih => rw [c0I, List.flatMap_cons, ih]; rfl
theorem c9x (n : Nat) : List.replicate n (AV.int .u32 0) = u32s (List.replicate n 0) := by simp [u32s]
theorem c6N {l : List Nat} {a : AV} (h : a ∈ u32s l) : Cl a := by
  obtain ⟨n, _, rfl⟩ := List.mem_map.1 h; exact .int _ _
theorem b3P {l : List Nat} {a : AV} (h : a ∈ (u32s l).flatMap AV.cells) : Cl a := by rw [c6M] at h; exact c6N h
theorem a0y (l : List Nat) : ∀ a ∈ (Blk.mk 1 (u32s l)).flat, Cl a := fun a h => b3P h
theorem a1P (l : List Nat) : Cl (natV l) := .sl 1 _ fun c h => b3P h
theorem c5V (l : List Nat) : (natV l).cells = [natV l] := rfl
theorem d0l (l : List Nat) : (natV l).fit = true := rfl
theorem c7I (id : Nat) (l : List Nat) : nref id (natV l) = true := a1y (a1P l)
theorem d0m (l : List Nat) : clb (natV l) = true := b7d (a1P l)
theorem d0k (id : Nat) (b : Blk) (l : List Nat) : frz id b (natV l) = natV l := b6w (a1P l)
theorem c7J (id : Nat) (b : Blk) (l : List Nat) : (u32s l).map (frz id b) = u32s l := by
  rw [List.map_congr_left (g := fun x => x) fun a h => b6w (c6N h)]; simp
theorem a4F (H : Heap) (l : List Nat) : lenV H (natV l) = some (.int .i64 l.length) := by simp [natV, c2W, a0w]
theorem b3U (H : Heap) (l : List Nat) : a0I H 1 false (natV l) = some (u32s l) := a5k H 1 _
theorem a0A (H : Heap) (l : List Nat) (k : IntKind) (i : Nat) (h : i < l.length) : idxV H 1 (natV l) (.int k i) = some (.ro (.int .u32 (l.getD i 0 : Nat)) 0) := by
  rw [natV, c8j _ _ _ _ _ (by omega) (by rw [a0w]; omega)]
  rw [Int.toNat_natCast, a7b h]
theorem d0i (H : Heap) (l : List Nat) (k : IntKind) (n : Nat) (h : n ≤ l.length) : slcV H 1 (natV l) none (some (.int k n)) none = some (natV (l.take n)) := by
  simp only [natV, slcV, a2v, Option.bind_some, a0w]
  rw [if_pos ⟨trivial, by omega, by omega, by omega⟩]
  simp [b0v]
theorem d4Y (H L : Heap) (i off len : Nat) (oc : Option Nat) {b : Blk} (h : L[i]? = some (some b)) : lenV (hap H L) (.mu (lid H i) off len oc) = some (.int .i64 len) := by
  rw [b6j, a1r, h]; simp
theorem c1k (H L : Heap) (wd i off len : Nat) (oc : Option Nat) (k : IntKind) (j : Nat) {b : Blk} (h : L[i]? = some (some b)) (hw : b.wd = wd) (hj : j < len) :
    idxV (hap H L) wd (.mu (lid H i) off len oc) (.int k j) = some (.loc (lid H i) (off + j) 0) := by
  rw [b6r _ _ _ _ _ _ _ _ (by omega) (by omega), a1r, h]; simp [hw]
theorem b9T (H L : Heap) (i k : Nat) {b : Blk} (h : L[i]? = some (some b)) (hk : k < b.xs.length) : atV (hap H L) (.loc (lid H i) k 0) = some (b.xs.getD k .top).cells := by
  rw [b0e, a1r, h]; simp [hk]
theorem b3N {n : Int} (h0 : 0 ≤ n) (h1 : n < 4294967296) : IntKind.wrap .u32 n = n := by
  simp [IntKind.wrap, IntKind.bits, IntKind.signed]; omega
theorem a0Y {n : Int} (h0 : 0 ≤ n) (h1 : n < 18446744073709551616) : IntKind.wrap .u64 n = n := by
  simp [IntKind.wrap, IntKind.bits, IntKind.signed]; omega
theorem a0a {n : Int} (h0 : -9223372036854775808 ≤ n) (h1 : n < 9223372036854775808) : IntKind.wrap .i64 n = n := by
  simp [IntKind.wrap, IntKind.bits, IntKind.signed]; omega
theorem a1B (n : Nat) : IntKind.wrap .u32 (n : Int) = ((n % LB : Nat) : Int) := by
  simp [IntKind.wrap, IntKind.bits, IntKind.signed]
theorem a1h (n : Int) : IntKind.wrap .u64 n = n % 18446744073709551616 := by
  simp [IntKind.wrap, IntKind.bits, IntKind.signed]
theorem c3G (n0 : Nat) (env : Env) (H L : Heap) (l : List Nat) (h : l.length ≤ 17592186044416) :
    appV n0 1 4 false .nil (natV l) env (hap H L) = some (.mu (lid H L.length) 0 l.length none, env, hap H (L ++ [some ⟨1, u32s l⟩])) := by
  have := c4H n0 env H L 1 4 false (natV l) (u32s l) (b3U _ l) (by decide) (by rw [a0w]; omega) (by rw [a0w]; omega)
  rwa [a0w] at this
theorem b1Y (H : Heap) (i : Nat) (l : List Nat) (oc : Option Nat) : frz (lid H i) ⟨1, u32s l⟩ (.mu (lid H i) 0 l.length oc) = natV l := by
  rw [b6v _ _ _ _ _ (by rw [a0w])]; rfl
/-- The rules for numbers. -/
def EN := And.intro @a4F (And.intro @b1Y (And.intro @c7J (And.intro @c7I (And.intro @d0m (And.intro @c5V (And.intro @d0l (And.intro @d0k (And.intro @b3U @a0w))))))))
theorem d2T (H : Heap) (X : Blk) (len : Nat) (oc : Option Nat) : lenV (hap H [some X]) (.mu (lid H 0) 0 len oc) = some (.int .i64 len) := d4Y H [some X] 0 0 len oc rfl
theorem b1x (H : Heap) (X : List AV) (wd len : Nat) (oc : Option Nat) (k : IntKind) (j : Nat) (h : j < len) : idxV (hap H [some ⟨wd, X⟩]) wd (.mu (lid H 0) 0 len oc) (.int k j) = some (.loc (lid H 0) j 0) := by
  rw [c1k H [some ⟨wd, X⟩] wd 0 0 len oc k j rfl rfl h, Nat.zero_add]
theorem d4U (H : Heap) (x : List Nat) (j : Nat) (h : j < x.length) : atV (hap H [some ⟨1, u32s x⟩]) (.loc (lid H 0) j 0) = some [.int .u32 (x.getD j 0 : Nat)] := by
  rw [b9T H [some ⟨1, u32s x⟩] 0 j rfl (by simpa [a0w] using h)]
  simp only [a7b h, AV.cells]
theorem c1c (H : Heap) (env : Env) (x : List Nat) (j d : Nat) (h : j < x.length) : a1C 1 (.loc (lid H 0) j 0) (.int .u32 (d : Int)) env (hap H [some ⟨1, u32s x⟩]) = some (.top, env, hap H [some ⟨1, u32s (x.set j d)⟩]) := by
  rw [a5j env H [some ⟨1, u32s x⟩] 1 0 j 0 _ rfl (by simpa [a0w] using h) rfl rfl (Nat.le_refl 1)]
  simp only [a2j, b3O, List.set_cons_zero]
theorem b0J (env : Env) (H L : Heap) (k k' : IntKind) (n : Nat) (h : n ≤ 35184372088832) : b5J 1 4 (.int .u32 0) (.int k n) (.int k' n) env (hap H L) = some (.mu (lid H L.length) 0 n (some n), env, hap H (L ++ [some ⟨1, u32s (List.replicate n 0)⟩])) := by
  rw [b0K env H L 1 4 _ k k' n n (by decide) (Nat.le_refl _) (by omega) (by omega), c9x]
theorem b0t (n : Int) : IntKind.wrap .u32 n = n % 4294967296 := by
  simp [IntKind.wrap, IntKind.bits, IntKind.signed]
theorem d4C (t : Nat) : Int.fdiv (t : Int) (2 ^ min (Int.toNat 32) IntKind.u64.bits) = ((t / LB : Nat) : Int) := by
  rw [show (2 : Int) ^ min (Int.toNat 32) IntKind.u64.bits = (LB : Int) by decide, Int.fdiv_eq_ediv_of_nonneg _ (by decide)]; rfl
def E1 := And.intro EV (And.intro EVC EN)
end Go.Abs
set_option linter.unusedVariables false
set_option linter.unusedSimpArgs false
set_option linter.defProp false
namespace Go.Abs
def sgn (neg : Bool) (n : Nat) : Int := if neg then -(n : Int) else n
/-- A number as it is handed round: a sign, limbs. -/
structure ZI where
  neg : Bool
  mag : List Nat
def ZI.av (x : ZI) : AV := .agg [.bool x.neg, natV x.mag]
def ZI.z (x : ZI) : Int := sgn x.neg (val x.mag)
/-- The number in its one form. -/
def canZ (z : Int) : ZI := ⟨decide (z < 0), limbs z.natAbs⟩
def Z (z : Int) : AV := .agg [.bool (decide (z < 0)), natV (limbs z.natAbs)]
theorem b2b (z : Int) : (canZ z).av = Z z := rfl
theorem a1l (z : Int) : (canZ z).z = z := by
  unfold canZ ZI.z sgn
  simp only [a0f, decide_eq_true_eq]
  split <;> omega
theorem d5V (neg : Bool) (n : Nat) : .agg [.bool (neg && decide (0 < n)), natV (limbs n)] = Z (sgn neg n) := by
  unfold Z sgn
  cases neg
  · simp <;> omega
  · rcases Nat.eq_zero_or_pos n with h | h
    · subst h; simp
    · simp [h]
theorem b3Q (neg : Bool) : sgn neg 0 = 0 := by cases neg <;> rfl
theorem b4F (neg : Bool) (n : Nat) : (sgn neg n).natAbs = n := by cases neg <;> simp [sgn]
theorem Z_cl (z : Int) : Cl (Z z) := .agg _ (by intro c hc; simp at hc; rcases hc with rfl | rfl; exact .bool _; exact a1P _)
theorem ZI.cl (x : ZI) : Cl x.av := .agg _ (by intro c hc; simp at hc; rcases hc with rfl | rfl; exact .bool _; exact a1P _)
theorem d2i : Z 0 = .agg [.bool false, natV []] := by unfold Z; simp [a0D]
theorem le_zero : Le (.agg [.bool false, .nil]) (Z 0) := by rw [d2i]; exact Le.agg2 (Le.refl _) (Le.nil 1 (by decide))
/-- The number's limbs. -/
structure Zok (k : Nat) (x : ZI) : Prop where
  lim : Lim x.mag
  len : x.mag.length ≤ k
theorem Zok.mono {k m : Nat} {x : ZI} (h : Zok k x) (hk : k ≤ m) : Zok m x := ⟨h.lim, Nat.le_trans h.len hk⟩
theorem Zok.lt {k : Nat} {x : ZI} (h : Zok k x) : val x.mag < LB ^ k := by
  have h1 := a1i h.lim
  have h2 : LB ^ x.mag.length ≤ LB ^ k := Nat.pow_le_pow_right (by decide) h.len
  omega
theorem Zok.abs {k : Nat} {x : ZI} (h : Zok k x) : x.z.natAbs < LB ^ k := by unfold ZI.z; rw [b4F]; exact h.lt
theorem a0N {k : Nat} {z : Int} (h : z.natAbs < LB ^ k) : Zok k (canZ z) := ⟨a0o _, a0E h⟩
section
variable (n0 : Nat) (env : Env) (H L : Heap)
def cpyV (wd : Nat) (x y : AV) (env : Env) (H : Heap) : Option (AV × Env × Heap) := (a0I H wd false y).bind fun ys => match x with
      | .mu id off len _ => (hrow H id).bind fun r =>
          if r.wd = wd ∧ off + len ≤ r.xs.length then
            some (.int .i64 (min ys.length len : Nat), env, H.set id (some ⟨wd, r.xs.take off ++ ys.take (min ys.length len) ++ r.xs.drop (off + min ys.length len)⟩)) else none
      | _ => none
theorem d5o (wd : Nat) (a b : Src) : ev n0 (.cpy wd a b) env H = cpyV wd (a.ev env) (b.ev env) env H := by
  simp only [ev, cpyV]; cases a0I H wd false (b.ev env) <;> simp only [Option.bind_none, Option.bind_some]; split <;> simp_all
theorem c4u (wd i len : Nat) (oc : Option Nat) (y : AV) (xs ys : List AV) (hl : L[i]? = some (some ⟨wd, xs⟩)) (hlen : len = xs.length) (hy : a0I (hap H L) wd false y = some ys) (hle : len ≤ ys.length) :
    cpyV wd (.mu (lid H i) 0 len oc) y env (hap H L) = some (.int .i64 len, env, hap H (L.set i (some ⟨wd, ys.take len⟩))) := by
  subst hlen
  simp only [cpyV, hy, Option.bind_some, a1r, hl, Option.join_some, a3J]
  rw [if_pos ⟨trivial, by omega⟩]
  simp [Nat.min_eq_right hle]
end
def EI := @d5o
def E2 := And.intro @EV2 (And.intro @EI @E1)
end Go.Abs
set_option linter.unusedVariables false
set_option linter.unusedSimpArgs false
set_option linter.defProp false
namespace Go.Abs
theorem ZI.av_fit (x : ZI) : x.av.fit = true := rfl
theorem ZI.av_cells (x : ZI) : x.av.cells = [.bool x.neg, natV x.mag] := rfl
theorem ZI.av_nref (id : Nat) (x : ZI) : nref id x.av = true := a1y x.cl
theorem ZI.av_frz (id : Nat) (b : Blk) (x : ZI) : frz id b x.av = x.av := b6w x.cl
theorem d4l (z : Int) : (Z z).cells = [.bool (decide (z < 0)), natV (limbs z.natAbs)] := rfl
theorem d5E (z : Int) : (Z z).fit = true := rfl
theorem d5D (id : Nat) (z : Int) : nref id (Z z) = true := a1y (Z_cl z)
theorem d5W (id : Nat) (b : Blk) (z : Int) : frz id b (Z z) = Z z := b6w (Z_cl z)
def vecV (v : List ZI) : AV := .sl 2 (v.map ZI.av)
def matV (b : List (List ZI)) : AV := .sl 1 (b.map vecV)
theorem a6e {a : AV} (h : Cl a) : ∀ c ∈ a.cells, Cl c := by
  intro c hc
  cases a with
  | agg cs => cases h with | agg _ h => exact h c hc
  | _ => simp [AV.cells] at hc; subst hc; exact h
theorem d5w {α : Type} (wd : Nat) (f : α → AV) (l : List α) (h : ∀ x, Cl (f x)) : Cl (.sl wd (l.map f)) := by
  refine .sl wd _ fun c hc => ?_
  obtain ⟨x, hx, hc⟩ := List.mem_flatMap.1 hc
  obtain ⟨y, _, rfl⟩ := List.mem_map.1 hx
  exact a6e (h y) c hc
theorem a0h (v : List ZI) : Cl (vecV v) := d5w 2 _ v ZI.cl
theorem a2U (b : List (List ZI)) : Cl (matV b) := d5w 1 _ b a0h
theorem c4X (v : List ZI) : (vecV v).cells = [vecV v] := rfl
theorem c9u (v : List ZI) : (vecV v).fit = true := rfl
theorem c6J (id : Nat) (v : List ZI) : nref id (vecV v) = true := a1y (a0h v)
theorem c9v (v : List ZI) : clb (vecV v) = true := b7d (a0h v)
theorem c9t (id : Nat) (b : Blk) (v : List ZI) : frz id b (vecV v) = vecV v := b6w (a0h v)
theorem c6b (v : List (List ZI)) : (matV v).cells = [matV v] := rfl
theorem d0t (v : List (List ZI)) : (matV v).fit = true := rfl
theorem c7O (id : Nat) (v : List (List ZI)) : nref id (matV v) = true := a1y (a2U v)
theorem d0u (v : List (List ZI)) : clb (matV v) = true := b7d (a2U v)
theorem d0s (id : Nat) (b : Blk) (v : List (List ZI)) : frz id b (matV v) = matV v := b6w (a2U v)
section
variable (H : Heap)
theorem c6X {α : Type} (wd : Nat) (f : α → AV) (l : List α) : lenV H (.sl wd (l.map f)) = some (.int .i64 l.length) := by rw [c2W, List.length_map]
theorem d1M {α : Type} (wd : Nat) (f : α → AV) (l : List α) (k : IntKind) (i : Nat) (h : i < l.length) : idxV H wd (.sl wd (l.map f)) (.int k i) = some (.ro (f l[i]) 0) := by
  rw [c8j _ _ _ _ _ (by omega) (by rw [List.length_map]; omega)]
  simp [h]
theorem c2p (v : List ZI) : lenV H (vecV v) = some (.int .i64 v.length) := c6X H 2 _ v
theorem a7a (v : List ZI) (k : IntKind) (i : Nat) (h : i < v.length) : idxV H 2 (vecV v) (.int k i) = some (.ro v[i].av 0) := d1M H 2 _ v k i h
theorem c7N (v : List (List ZI)) : lenV H (matV v) = some (.int .i64 v.length) := c6X H 1 _ v
theorem a3R (v : List (List ZI)) (k : IntKind) (i : Nat) (h : i < v.length) : idxV H 1 (matV v) (.int k i) = some (.ro (vecV v[i]) 0) := d1M H 1 _ v k i h
/-- The elements of a row of the call's own, each closed. -/
theorem a1K {α : Type} (wd : Nat) (f : α → AV) (l : List α) (h : ∀ x, Cl (f x)) : ∀ a ∈ (Blk.mk wd (l.map f)).flat, Cl a := by
  intro a ha
  obtain ⟨x, hx, hc⟩ := List.mem_flatMap.1 ha
  obtain ⟨y, _, rfl⟩ := List.mem_map.1 hx
  exact a6e (h y) a hc
theorem c8t {α : Type} (id : Nat) (b : Blk) (f : α → AV) (l : List α) (h : ∀ x, Cl (f x)) : (l.map f).map (frz id b) = l.map f := by
  rw [List.map_map]
  exact List.map_congr_left fun x _ => b6w (h x)
theorem b9l {α : Type} (i : Nat) (wd : Nat) (f : α → AV) (l : List α) (oc : Option Nat) : frz (lid H i) ⟨wd, l.map f⟩ (.mu (lid H i) 0 l.length oc) = .sl wd (l.map f) := by
  rw [b6v _ _ _ _ _ (by rw [List.length_map])]
end
structure Vok (k : Nat) (v : List ZI) : Prop where
  len : v.length ≤ 2097152
  el : ∀ x ∈ v, Zok k x
structure Mok (k : Nat) (b : List (List ZI)) : Prop where
  len : b.length ≤ 2097152
  el : ∀ v ∈ b, Vok k v
theorem Vok.mono {k m : Nat} {v : List ZI} (h : Vok k v) (hk : k ≤ m) : Vok m v := ⟨h.len, fun x hx => (h.el x hx).mono hk⟩
theorem Mok.mono {k m : Nat} {b : List (List ZI)} (h : Mok k b) (hk : k ≤ m) : Mok m b := ⟨h.len, fun x hx => (h.el x hx).mono hk⟩
theorem Vok.get {k : Nat} {v : List ZI} (h : Vok k v) {i : Nat} (hi : i < v.length) : Zok k v[i] := h.el _ (List.getElem_mem hi)
theorem Mok.get {k : Nat} {v : List (List ZI)} (h : Mok k v) {i : Nat} (hi : i < v.length) : Vok k v[i] := h.el _ (List.getElem_mem hi)
theorem c0D : (0 < 2) = True := by decide
/-- The rules for vectors. -/
def EM := And.intro c0D <| And.intro @c2p (And.intro @c7N (And.intro @c4X (And.intro @c9u (And.intro @c6J (And.intro @c9v (And.intro @c9t (And.intro @c6b (And.intro @d0t (And.intro @c7O (And.intro @d0u (And.intro @d0s
  (And.intro @ZI.av_fit (And.intro @ZI.av_cells (And.intro @ZI.av_nref (And.intro @ZI.av_frz (And.intro @d4l (And.intro @d5E (And.intro @d5D @d5W))))))))))))))))))
def ordZ : List Int → List Int → Int
  | [], [] => 0
  | [], _ :: _ => -1
  | _ :: _, [] => 1
  | a :: u, b :: v => if (a - b).sign = 0 then ordZ u v else (a - b).sign
theorem c1b : ∀ {u v : List Int}, ordZ u v = 0 ↔ u = v
  | [], [] => by simp [ordZ]
  | [], b :: v => by simp [ordZ]
  | a :: u, [] => by simp [ordZ]
  | a :: u, b :: v => by
    simp only [ordZ]
    split
    · rename_i h
      have hab : a = b := by
        have := Int.sign_eq_zero_iff_zero.1 h
        omega
      rw [c1b]; simp [hab]
    · rename_i h
      constructor
      · intro h'; exact absurd h' h
      · intro h'; simp at h'; exact absurd (by rw [h'.1]; simp) h
def zs (v : List ZI) : List Int := v.map ZI.z
def E3 := And.intro EM @E2
end Go.Abs
set_option linter.unusedVariables false
set_option linter.unusedSimpArgs false
set_option linter.defProp false
namespace Go.Abs
/-- The i-th entry of a vector, a matrix. -/
def zg (v : List ZI) (i : Nat) : Int := (v.getD i ⟨false, []⟩).z
def mg (b : List (List ZI)) (i : Nat) : List ZI := b.getD i []
theorem c6C {v : List ZI} {i : Nat} (h : i < v.length) : zg v i = v[i].z := by simp [zg, h]
theorem a2M {b : List (List ZI)} {i : Nat} (h : i < b.length) : mg b i = b[i] := by simp [mg, h]
/-- The vector in the one form of these entries. -/
def vec (n : Nat) (f : Nat → Int) : List ZI := (List.range n).map fun i => canZ (f i)
def mat (n : Nat) (f : Nat → List ZI) : List (List ZI) := (List.range n).map f
theorem a0b (n : Nat) (f : Nat → Int) : (vec n f).length = n := by simp [vec]
theorem a0d (n : Nat) (f : Nat → List ZI) : (mat n f).length = n := by simp [mat]
theorem a5A (n : Nat) (f : Nat → Int) : vec (n + 1) f = vec n f ++ [canZ (f n)] := by simp [vec, List.range_succ]
theorem a4K (n : Nat) (f : Nat → List ZI) : mat (n + 1) f = mat n f ++ [f n] := by simp [mat, List.range_succ]
theorem a9y {n : Nat} {f : Nat → Int} {i : Nat} (h : i < (vec n f).length) : (vec n f)[i] = canZ (f i) := by simp [vec]
theorem b9P {n : Nat} {f : Nat → List ZI} {i : Nat} (h : i < (mat n f).length) : (mat n f)[i] = f i := by simp [mat]
theorem b4C {n : Nat} {f g : Nat → Int} (h : ∀ i, i < n → f i = g i) : vec n f = vec n g :=
  List.map_congr_left fun i hi => by rw [h i (List.mem_range.1 hi)]
theorem c3L {n : Nat} {f : Nat → Int} {i : Nat} (h : i < n) : zg (vec n f) i = f i := by
  rw [c6C (by rw [a0b]; exact h), a9y, a1l]
theorem a8N {n : Nat} {f : Nat → List ZI} {i : Nat} (h : i < n) : mg (mat n f) i = f i := by
  rw [a2M (by rw [a0d]; exact h), b9P]
theorem b4g {k n : Nat} {f : Nat → Int} (hn : n ≤ 2097152) (h : ∀ i, i < n → (f i).natAbs < LB ^ k) : Vok k (vec n f) := by
  refine ⟨by rw [a0b]; exact hn, fun x hx => ?_⟩
  obtain ⟨i, hi, rfl⟩ := List.mem_map.1 hx
  exact a0N (h i (List.mem_range.1 hi))
theorem c9q {k m n : Nat} {f : Nat → Int} (hn : n ≤ 2097152) (h : ∀ i, i < n → (f i).natAbs < LB ^ k) (hkm : k ≤ m) : Vok m (vec n f) := (b4g hn h).mono hkm
theorem b9M {k n : Nat} {f : Nat → List ZI} (hn : n ≤ 2097152) (h : ∀ i, i < n → Vok k (f i)) : Mok k (mat n f) := by
  refine ⟨by rw [a0d]; exact hn, fun x hx => ?_⟩
  obtain ⟨i, hi, rfl⟩ := List.mem_map.1 hx
  exact h i (List.mem_range.1 hi)
theorem Vok.abs {k : Nat} {v : List ZI} (h : Vok k v) (i : Nat) : (zg v i).natAbs < LB ^ k := by
  rcases Nat.lt_or_ge i v.length with hi | hi
  · rw [c6C hi]; exact (h.get hi).abs
  · simp [zg, hi, ZI.z, sgn, val]
    exact Nat.pow_pos (by decide)
theorem Mok.row {k : Nat} {b : List (List ZI)} (h : Mok k b) (i : Nat) : Vok k (mg b i) := by
  rcases Nat.lt_or_ge i b.length with hi | hi
  · rw [a2M hi]; exact h.get hi
  · simp [mg, hi]
    exact ⟨by simp, by simp⟩
theorem c7X (a b : Nat) : LB ^ (a + b) = LB ^ a * LB ^ b := Nat.pow_add _ _ _
theorem c4d (a : Nat) : 0 < LB ^ a := Nat.pow_pos (by decide)
theorem c2X {a b : Nat} (h : a ≤ b) : LB ^ a ≤ LB ^ b := Nat.pow_le_pow_right (by decide) h
theorem b9L {x y : Int} {k l : Nat} (hx : x.natAbs < LB ^ k) (hy : y.natAbs < LB ^ l) : (x * y).natAbs < LB ^ (k + l) := by
  rw [Int.natAbs_mul, c7X]
  exact Nat.mul_lt_mul'' hx hy
theorem d4j {x y : Int} {k : Nat} (hx : x.natAbs < LB ^ k) (hy : y.natAbs < LB ^ k) : (x + y).natAbs < LB ^ (k + 1) := by
  have h := Int.natAbs_add_le x y
  rw [c7X]
  have : LB = 4294967296 := rfl
  have := c4d k
  rw [Nat.pow_one]
  generalize LB ^ k = c at *
  calc (x + y).natAbs ≤ x.natAbs + y.natAbs := h
    _ < c * 2 := by omega
    _ ≤ c * LB := Nat.mul_le_mul_left _ (by decide)
theorem d2s {x y : Int} {k : Nat} (hx : x.natAbs < LB ^ k) (hy : y.natAbs < LB ^ k) : (x - y).natAbs < LB ^ (k + 1) := by
  rw [Int.sub_eq_add_neg]
  exact d4j hx (by rwa [Int.natAbs_neg])
/-- Sums. -/
def b9D (f : Nat → Int) : Nat → Int
  | 0 => 0
  | n + 1 => b9D f n + f n
theorem c3R {f : Nat → Int} {B : Nat} : ∀ (n : Nat), (∀ i, i < n → (f i).natAbs < B) → (b9D f n).natAbs ≤ n * B
  | 0, _ => by simp [b9D]
  | n + 1, h => by
    have h1 := c3R n fun i hi => h i (by omega)
    have h2 := h n (by omega)
    have h3 := Int.natAbs_add_le (b9D f n) (f n)
    rw [b9D, Nat.add_mul]
    omega
/-- A sum of so many, each of k limbs, has two limbs more. -/
theorem c6R {f : Nat → Int} {k n : Nat} (hn : n ≤ 2097152) (h : ∀ i, i < n → (f i).natAbs < LB ^ k) : (b9D f n).natAbs < LB ^ (k + 2) := by
  have h1 := c3R n h
  rw [c7X]
  have hp := c4d k
  generalize LB ^ k = c at *
  have h2 : n * c ≤ 2097152 * c := Nat.mul_le_mul_right _ hn
  have h3 : c * LB ^ 2 = 18446744073709551616 * c := by rw [Nat.mul_comm]; rfl
  omega
section
variable {H : Heap}
/-- b9s rows. -/
def RC (L : Heap) : Prop := ∀ b, some b ∈ L → ∀ a ∈ b.flat, Cl a
theorem RC.nil : RC [] := fun b h => by cases h
theorem RC.none {L : Heap} (h : RC L) : RC (none :: L) := fun b hb a ha => by
  rcases List.mem_cons.1 hb with e | e
  · cases e
  · exact h b e a ha
theorem RC.cons {b : Blk} {L : Heap} (hb : ∀ a ∈ b.flat, Cl a) (h : RC L) : RC (some b :: L) := fun c hc a ha => by
  rcases List.mem_cons.1 hc with e | e
  · cases e; exact hb a ha
  · exact h c e a ha
theorem RC.row {α : Type} {wd : Nat} {f : α → AV} {l : List α} {L : Heap} (hf : ∀ x, Cl (f x)) (h : RC L) : RC (some ⟨wd, l.map f⟩ :: L) := .cons (a1K wd f l hf) h
theorem RC.one {wd : Nat} {x : AV} {L : Heap} (hx : Cl x) (h : RC L) : RC (some ⟨wd, [x]⟩ :: L) := .cons (fun a ha => by
  simp only [Blk.flat, List.flatMap_cons, List.flatMap_nil, List.append_nil] at ha
  exact a6e hx a ha) h
theorem RC.emp {wd : Nat} {L : Heap} (h : RC L) : RC (some ⟨wd, []⟩ :: L) := .cons (fun a ha => by cases ha) h
theorem RC.zero {L : Heap} (h : RC L) : RC (some ⟨2, [.agg [.bool false, .nil]]⟩ :: L) := .one (.agg _ (by
  intro c hc
  simp only [List.mem_cons, List.not_mem_nil, or_false] at hc
  rcases hc with rfl | rfl
  · exact .bool _
  · exact .nil)) h
theorem b7h {α : Type} (hH : a0U H) {L : Heap} (i : Nat) {n0 : Nat} (hn : n0 ≤ lid H i) {env : Env} {wd bytes : Nat} {f : α → AV} (hf : ∀ x, Cl (f x)) (l : List α) (x : α) (l' : List α) {y : AV} {len : Nat}
    (hlen : len = l.length) (hl : L[i]? = some (some ⟨wd, l.map f⟩)) (hL : RC L) (hy : y = f x) (hl' : l' = l ++ [x]) (hb : (len + 1) * bytes ≤ 140737488355328) (hbb : len + 1 ≤ 9223372036854775807) :
    appV n0 wd bytes false (.mu (lid H i) 0 len none) (.sl wd [y]) env (hap H L) = some (.mu (lid H i) 0 (len + 1) none, scrub (lid H i) env, hap H (L.set i (some ⟨wd, l'.map f⟩))) := by
  subst hy
  subst hl'
  have := b4f n0 env H L wd bytes false i len none (.sl wd [f x]) (l.map f) [f x] hH hl (by rw [List.length_map]; exact hlen) hn (a5k _ wd _) (c0s hL) (by
    intro a ha
    simp at ha
    exact (a6e (hf x) a ha).ref) (by simpa using hb) (by simpa using hbb) rfl
  simpa [a1d] using this
theorem c0u {α : Type} {L : Heap} (i : Nat) {n0 : Nat} (hn : n0 ≤ lid H i) {env : Env} {wd bytes : Nat} {f : α → AV} (l : List α) (x : α) (l' : List α) {y : AV} {len c : Nat}
    (hlen : len = l.length) (hl : L[i]? = some (some ⟨wd, l.map f⟩)) (hy : y = f x) (hl' : l' = l ++ [x]) (hc : len + 1 ≤ c) :
    appV n0 wd bytes false (.mu (lid H i) 0 len (some c)) (.sl wd [y]) env (hap H L) = some (.mu (lid H i) 0 (len + 1) (some c), env, hap H (L.set i (some ⟨wd, l'.map f⟩))) := by
  subst hy
  subst hl'
  have := c9i n0 env H L wd bytes false i len c (.sl wd [f x]) (l.map f) [f x] hl (by rw [List.length_map]; exact hlen) hn (a5k _ wd _) (by simp) (by simpa using hc)
  simpa using this
theorem b9N (env : Env) (L : Heap) (wd bytes : Nat) (z : AV) (k k' : IntKind) (c : Nat) (h0 : 0 < wd) (h2 : bytes * c ≤ 281474976710656) (h3 : c ≤ 9223372036854775807) :
    b5J wd bytes z (.int k 0) (.int k' c) env (hap H L) = some (.mu (lid H L.length) 0 0 (some c), env, hap H (L ++ [some ⟨wd, []⟩])) := by
  have := b0K env H L wd bytes z k k' 0 c h0 (Nat.zero_le _) h2 h3
  simpa using this
theorem b6u {α : Type} (i wd : Nat) (f : α → AV) (l : List α) (len : Nat) (oc : Option Nat) (h : len = l.length) : frz (lid H i) ⟨wd, l.map f⟩ (.mu (lid H i) 0 len oc) = .sl wd (l.map f) := by
  subst h; exact b9l H i wd f l oc
section
variable {x : Cx} {todo : List AItem} {env : Env} {R : AV → Heap → Prop} {a b c d e : Option Blk}
theorem Safe.drop1 (hH : a0U H) (hx : x.n0 = H.length) (he : env.all (fun p => nref (lid H 1) p.2) = true) (hL : RC [a]) (h : Safe x todo env (hap H [a]) R) : Safe x todo env (hap H [a, b]) R := Safe.dropC (L := [a]) hH hx he hL h
theorem Safe.drop2 (hH : a0U H) (hx : x.n0 = H.length) (he : env.all (fun p => nref (lid H 2) p.2) = true) (hL : RC [a, b]) (h : Safe x todo env (hap H [a, b]) R) : Safe x todo env (hap H [a, b, c]) R := Safe.dropC (L := [a, b]) hH hx he hL h
theorem Safe.drop3 (hH : a0U H) (hx : x.n0 = H.length) (he : env.all (fun p => nref (lid H 3) p.2) = true) (hL : RC [a, b, c]) (h : Safe x todo env (hap H [a, b, c]) R) : Safe x todo env (hap H [a, b, c, d]) R := Safe.dropC (L := [a, b, c]) hH hx he hL h
theorem Safe.drop4 (hH : a0U H) (hx : x.n0 = H.length) (he : env.all (fun p => nref (lid H 4) p.2) = true) (hL : RC [a, b, c, d]) (h : Safe x todo env (hap H [a, b, c, d]) R) : Safe x todo env (hap H [a, b, c, d, e]) R := Safe.dropC (L := [a, b, c, d]) hH hx he hL h
end
end
end Go.Abs
set_option linter.unusedVariables false
set_option linter.unusedSimpArgs false
set_option linter.defProp false
namespace Go.Abs
section
variable {x : Cx} {todo : List AItem} {env : Env} {R : AV → Heap → Prop} {H : Heap} {b : Option Blk}
theorem Safe.drop0 (hH : a0U H) (hx : x.n0 = H.length) (he : env.all (fun p => nref (lid H 0) p.2) = true) (hL : RC []) (h : Safe x todo env (hap H []) R) : Safe x todo env (hap H [b]) R := Safe.dropC (L := []) hH hx he hL h
theorem b3t {n : Nat} {a : AV} {k : Nat} {c : AV} (h : ((List.replicate n a).flatMap AV.cells)[k]? = some c) : ∃ j, a.cells[j]? = some c ∧ j = k % a.cells.length ∧ k / a.cells.length < n := by
  induction n generalizing k with
  | zero => simp at h
  | succ n ih =>
    rw [List.replicate_succ, List.flatMap_cons] at h
    rcases Nat.lt_or_ge k a.cells.length with hk | hk
    · rw [List.getElem?_append_left hk] at h
      exact ⟨k, h, (Nat.mod_eq_of_lt hk).symm, by rw [Nat.div_eq_of_lt hk]; omega⟩
    · rw [List.getElem?_append_right hk] at h
      obtain ⟨j, h1, h2, h3⟩ := ih h
      have hp : 0 < a.cells.length := by
        rcases Nat.eq_zero_or_pos a.cells.length with h0 | h0
        · have := a0c h1; omega
        · exact h0
      refine ⟨j, h1, ?_, ?_⟩
      · rw [h2, Nat.mod_eq_sub_mod hk]
      · rw [Nat.div_eq_sub_div hp hk]; omega
theorem b2y {n wd : Nat} {a : AV} (h : a.cells.length = wd) : ((List.replicate n a).flatMap AV.cells).length = n * wd := by
  rw [a1x (wd := wd)]
  · simp
  · intro x hx; rw [List.eq_of_mem_replicate hx]; exact h
/-- Numbers not yet written are told as 0. -/
theorem Safe.toldRep (i n : Nat) {L : Heap} (hl : L[i]? = some (some ⟨2, List.replicate n (.agg [.bool false, .nil])⟩)) (h : Safe x todo env (hap H (L.set i (some ⟨2, (vec n fun _ => 0).map ZI.av⟩))) R) : Safe x todo env (hap H L) R := by
  have e : (vec n fun _ => 0).map ZI.av = List.replicate n (.agg [.bool false, natV []]) := by
    apply List.ext_getElem
    · simp [a0b]
    · intro j h1 h2
      simp only [List.getElem_map, a9y, b2b, d2i, List.getElem_replicate]
  rw [e] at h
  refine Safe.toldRow (b' := ⟨2, List.replicate n (.agg [.bool false, natV []])⟩) i hl rfl (by intro y hy; rw [List.eq_of_mem_replicate hy]; rfl) ?_ (by simp) ?_ h
  · show ((List.replicate n _).flatMap AV.cells).length = ((List.replicate n _).flatMap AV.cells).length
    rw [b2y (wd := 2) rfl, b2y (wd := 2) rfl]
  · intro k a c ha hc
    obtain ⟨j, h1, h2, _⟩ := b3t ha
    obtain ⟨j', h1', h2', _⟩ := b3t hc
    have : j' = j := by rw [h2, h2']; rfl
    subst this
    match j' with
    | 0 => cases h1; cases h1'; exact Le.refl _
    | 1 => cases h1; cases h1'; exact Le.nil 1 (by decide)
    | j + 2 => simp [AV.cells] at h1
end
/-- One entry written. -/
def updF (f : Nat → Int) (i : Nat) (z : Int) : Nat → Int := fun k => if k = i then z else f k
theorem c6I (n : Nat) (f : Nat → Int) (i : Nat) (z : Int) : ((vec n f).map ZI.av).set i (Z z) = (vec n (updF f i z)).map ZI.av := by
  apply List.ext_getElem
  · simp [a0b]
  · intro j h1 h2
    rw [List.getElem_set]
    simp only [List.getElem_map, a9y, updF]
    by_cases h : i = j
    · subst h; simp [b2b]
    · rw [if_neg h, if_neg (fun e => h e.symm)]
theorem c1E (p : Nat → Prop) [DecidablePred p] : ∀ (n : Nat), (∀ i, i < n → p i) ∨ ∃ i, i < n ∧ ¬ p i ∧ ∀ j, j < i → p j
  | 0 => .inl fun i hi => absurd hi (by omega)
  | n + 1 => by
    rcases c1E p n with h | ⟨i, hi, h1, h2⟩
    · by_cases hp : p n
      · exact .inl fun i hi => by
          rcases Nat.lt_or_ge i n with h' | h'
          · exact h i h'
          · rw [show i = n by omega]; exact hp
      · exact .inr ⟨n, by omega, hp, h⟩
    · exact .inr ⟨i, by omega, h1, h2⟩
def Rect (b : List (List ZI)) : Prop := ∀ i, i < b.length → (mg b i).length = (mg b 0).length
def wid (b : List (List ZI)) : Nat := (mg b 0).length
theorem c5l (b : List (List ZI)) : Rect b ∨ ∃ i, i < b.length ∧ (mg b i).length ≠ (mg b 0).length ∧ ∀ j, j < i → (mg b j).length = (mg b 0).length :=
  c1E (fun i => (mg b i).length = (mg b 0).length) b.length
theorem b0N (H : Heap) (v : List (List ZI)) (k : IntKind) (h : 0 < v.length) : idxV H 1 (matV v) (.int k 0) = some (.ro (vecV v[0]) 0) := a3R H v k 0 h
theorem b1W (H : Heap) (i : Nat) (v : List ZI) (len : Nat) (oc : Option Nat) (h : len = v.length) : frz (lid H i) ⟨2, v.map ZI.av⟩ (.mu (lid H i) 0 len oc) = vecV v := b6u i 2 ZI.av v len oc h
theorem c3k (H : Heap) (i : Nat) (v : List (List ZI)) (len : Nat) (oc : Option Nat) (h : len = v.length) : frz (lid H i) ⟨1, v.map vecV⟩ (.mu (lid H i) 0 len oc) = matV v := b6u i 1 vecV v len oc h
theorem a3U (id : Nat) (b : Blk) (v : List ZI) : (v.map ZI.av).map (frz id b) = v.map ZI.av := c8t id b ZI.av v ZI.cl
theorem a2E (id : Nat) (b : Blk) (v : List (List ZI)) : (v.map vecV).map (frz id b) = v.map vecV := c8t id b vecV v a0h
end Go.Abs
set_option linter.unusedVariables false
set_option linter.unusedSimpArgs false
set_option linter.defProp false
namespace Go.Abs
section
variable {H L : Heap} {a b : Option Blk} {wd len j n : Nat} {X : List AV} {oc : Option Nat} {k : IntKind} {f : Nat → Int} {z : Int} {env : Env}
theorem d1P (h : j < len) : idxV (hap H (some ⟨wd, X⟩ :: L)) wd (.mu (lid H 0) 0 len oc) (.int k j) = some (.loc (lid H 0) j 0) := by
  rw [c1k H _ wd 0 0 len oc k j rfl rfl h, Nat.zero_add]
theorem c9s (h : j < n) : ((vec n f).map ZI.av).getD j .top = Z (f j) := by
  rw [List.getD_eq_getElem?_getD, List.getElem?_map, List.getElem?_eq_getElem (by rw [a0b]; exact h), a9y]
  rfl
theorem d5U (h : j < n) : atV (hap H (some ⟨2, (vec n f).map ZI.av⟩ :: L)) (.loc (lid H 0) j 0) = some (Z (f j)).cells := by
  rw [b9T H _ 0 j rfl (by rw [List.length_map, a0b]; exact h), c9s h]
theorem d5K (h : j < n) : a1C 2 (.loc (lid H 0) j 0) (Z z) env (hap H (some ⟨2, (vec n f).map ZI.av⟩ :: L)) = some (.top, env, hap H (some ⟨2, (vec n (updF f j z)).map ZI.av⟩ :: L)) := by
  rw [a5j env H _ 2 0 j 0 (Z z) rfl (by rw [List.length_map, a0b]; exact h) rfl rfl (Nat.le_refl 2)]
  rw [← c6I]; rfl
end
/-- Sums of rows. -/
def cmbS (x : List ZI) (b : List (List ZI)) (k i : Nat) : Int := b9D (fun l => zg x l * zg (mg b l) k) i
def c3A (x : List ZI) (b : List (List ZI)) : List ZI := vec (wid b) fun k => cmbS x b k b.length
def b3D (a b : List (List ZI)) : List (List ZI) := mat a.length fun i => c3A (mg a i) b
def a2y (b : List (List ZI)) : List (List ZI) := mat (wid b) fun k => vec b.length fun i => zg (mg b i) k
/-- Row i being added: the first j entries are done. -/
def cmbF (x : List ZI) (b : List (List ZI)) (i j : Nat) : Nat → Int := fun k => if k < j then cmbS x b k (i + 1) else cmbS x b k i
theorem c8Q (x : List ZI) (b : List (List ZI)) (i : Nat) : cmbF x b i 0 = fun k => cmbS x b k i := by
  funext k; simp [cmbF]
theorem c8R (x : List ZI) (b : List (List ZI)) (i j n : Nat) : vec n (updF (cmbF x b i j) j (cmbF x b i j j + zg x i * zg (mg b i) j)) = vec n (cmbF x b i (j + 1)) := by
  refine b4C fun k _ => ?_
  simp only [updF, cmbF, Nat.lt_irrefl, if_false]
  by_cases h : k = j
  · subst h
    rw [if_pos rfl, if_pos (by omega)]; rfl
  · rw [if_neg h]
    by_cases h2 : k < j
    · rw [if_pos h2, if_pos (by omega)]
    · rw [if_neg h2, if_neg (by omega)]
theorem d1f (x : List ZI) (b : List (List ZI)) (i n : Nat) : vec n (cmbF x b i n) = vec n fun k => cmbS x b k (i + 1) := by
  refine b4C fun k hk => ?_
  simp [cmbF, hk]
theorem c4v {x : List ZI} {b : List (List ZI)} {p q : Nat} (hx : Vok p x) (hb : Mok q b) (k : Nat) {i : Nat} (hi : i ≤ b.length) : (cmbS x b k i).natAbs < LB ^ (p + q + 2) :=
  c6R (Nat.le_trans hi (Nat.le_trans hb.len (by decide))) fun l _ => b9L (hx.abs l) ((hb.row l).abs k)
theorem d1g {x : List ZI} {b : List (List ZI)} {p q : Nat} (hx : Vok p x) (hb : Mok q b) {i j : Nat} (hi : i < b.length) (k : Nat) : (cmbF x b i j k).natAbs < LB ^ (p + q + 2) := by
  unfold cmbF
  split
  · exact c4v hx hb k (by omega)
  · exact c4v hx hb k (by omega)
theorem d2q {b : List (List ZI)} {p : Nat} (hb : Mok p b) : Mok p (a2y b) := b9M (hb.row 0).len fun k _ => b4g hb.len fun i _ => (hb.row i).abs k
theorem mgz {b : List (List ZI)} {i j : Nat} (hi : i < b.length) (hj : j < b[i].length) : b[i][j].z = zg (mg b i) j := by rw [a2M hi, c6C hj]
theorem c7o {b : List (List ZI)} (hr : Rect b) {i : Nat} (hi : i < b.length) : b[i].length = wid b := by
  have := hr i hi
  rwa [a2M hi] at this
end Go.Abs
set_option linter.unusedVariables false
set_option linter.unusedSimpArgs false
namespace Go.Abs
/-- The guess is not below the digit. -/
theorem d0J {u v : List Nat} {n : Nat} (hu : Lim u) (hv : Lim v) (hun : u.length = n + 1) (hvn : v.length = n) (hn : 0 < n) (hv0 : 0 < val v) (hlt : val u < LB * val v) (ht : 0 < v.getD (n - 1) 0) :
    val u / val v ≤ min ((u.getD n 0 * LB + u.getD (n - 1) 0) / v.getD (n - 1) 0) (LB - 1) := by
  have hq1 : val u / val v ≤ LB - 1 := by
    have : val u / val v < LB := by rw [Nat.div_lt_iff_lt_mul hv0]; exact hlt
    omega
  refine Nat.le_min.2 ⟨?_, hq1⟩
  rw [Nat.le_div_iff_mul_le ht]
  have hs := a5g u (n - 1)
  have hsv := a5g v (n - 1)
  have hdu : val (u.drop (n - 1)) = u.getD (n - 1) 0 + LB * u.getD n 0 := by
    have e : u.drop (n - 1) = [u.getD (n - 1) 0, u.getD n 0] := by
      apply List.ext_getElem
      · simp; omega
      · intro i h1 h2
        match i with
        | 0 => simp [List.getD_eq_getElem?_getD, List.getElem?_eq_getElem (show n - 1 < u.length by omega)]
        | 1 =>
          simp only [List.getElem_drop, List.getElem_cons_succ, List.getElem_cons_zero]
          rw [List.getD_eq_getElem?_getD, List.getElem?_eq_getElem (show n < u.length by omega)]
          simp only [show n - 1 + 1 = n by omega]; rfl
        | i + 2 => simp at h2; omega
    rw [e]; simp [val]
  have hdv : val (v.drop (n - 1)) = v.getD (n - 1) 0 := by
    have e : v.drop (n - 1) = [v.getD (n - 1) 0] := by
      apply List.ext_getElem
      · simp; omega
      · intro i h1 h2
        match i with
        | 0 => simp [List.getD_eq_getElem?_getD, List.getElem?_eq_getElem (show n - 1 < v.length by omega)]
        | i + 1 => simp at h2
    rw [e]; simp [val]
  have htu := a2A hu (n - 1)
  have hle : val u / val v * val v ≤ val u := Nat.div_mul_le_self _ _
  generalize val u / val v = q at *
  generalize hP : LB ^ (n - 1) = P at *
  have hPp : 0 < P := by rw [← hP]; exact Nat.pow_pos (by decide)
  rw [hdu] at hs
  rw [hdv] at hsv
  generalize v.getD (n - 1) 0 = vt at *
  have e2 : LB * u.getD n 0 = u.getD n 0 * LB := Nat.mul_comm _ _
  generalize u.getD (n - 1) 0 = ua at *
  have hbig : q * vt * P < (u.getD n 0 * LB + ua + 1) * P := by
    have h1 : q * (P * vt) ≤ q * val v := Nat.mul_le_mul_left _ (by omega)
    have h2 : q * (P * vt) = q * vt * P := by rw [Nat.mul_comm P vt, Nat.mul_assoc]
    have h3 : (u.getD n 0 * LB + ua + 1) * P = P * (ua + LB * u.getD n 0) + P := by
      rw [Nat.add_mul, Nat.one_mul, Nat.mul_comm _ P, e2, Nat.add_comm ua]
    omega
  have := Nat.lt_of_mul_lt_mul_right hbig
  omega
end Go.Abs
set_option linter.unusedVariables false
set_option linter.unusedSimpArgs false
namespace Go.Abs
def fl (n : Nat) (f : Nat → Nat) : List Nat := (List.range n).map f
/-- A digit. -/
def dig (M i : Nat) : Nat := M / LB ^ i % LB
theorem c4q (M i : Nat) : dig M i < LB := Nat.mod_lt _ (by decide)
theorem a1g (n : Nat) (f : Nat → Nat) : (fl n f).length = n := by simp [fl]
theorem b6y {n : Nat} {f : Nat → Nat} {i : Nat} (h : i < n) : (fl n f).getD i 0 = f i := by
  simp [fl, List.getD_eq_getElem?_getD, h]
theorem a2o {n : Nat} {f g : Nat → Nat} (h : ∀ i, i < n → f i = g i) : fl n f = fl n g := List.map_congr_left fun i hi => h i (List.mem_range.1 hi)
theorem c8z (n : Nat) (f : Nat → Nat) (i v : Nat) : (fl n f).set i v = fl n fun j => if j = i then v else f j := by
  apply List.ext_getElem
  · simp [fl]
  · intro j h1 h2
    rw [List.getElem_set]
    simp only [fl, List.getElem_map, List.getElem_range]
    by_cases h : i = j
    · subst h; simp
    · rw [if_neg h, if_neg (fun e => h e.symm)]
theorem d1X {n : Nat} {f : Nat → Nat} (h : ∀ i, i < n → f i < LB) : Lim (fl n f) := by
  intro d hd
  obtain ⟨i, hi, rfl⟩ := List.mem_map.1 hd
  exact h i (List.mem_range.1 hi)
theorem d3u (n : Nat) : List.replicate n 0 = fl n fun _ => 0 := by
  apply List.ext_getElem <;> simp [fl]
theorem c3n (n : Nat) (f : Nat → Nat) : fl (n + 1) f = fl n f ++ [f n] := by simp [fl, List.range_succ]
theorem d3v {l : List Nat} {n : Nat} (h : l.length = n) : l = fl n fun i => l.getD i 0 := by
  subst h
  apply List.ext_getElem
  · simp [fl]
  · intro i h1 h2; simp [fl, List.getD_eq_getElem?_getD, h1]
theorem c3m {n k : Nat} (f : Nat → Nat) (h : k ≤ n) : (fl n f).take k = fl k f := by
  apply List.ext_getElem
  · simp [fl]; omega
  · intro i h1 h2; simp [fl]
theorem d1K (M : Nat) : ∀ n, val (fl n (dig M)) = M % LB ^ n
  | 0 => by simp [fl, val, Nat.mod_one]
  | n + 1 => by
    rw [c3n, a3q, d1K M n, a1g, Nat.pow_succ, Nat.mod_mul]; rfl
theorem a3C {M n : Nat} (h : M < LB ^ n) : val (fl n (dig M)) = M := by rw [d1K, Nat.mod_eq_of_lt h]
theorem a5W (M n : Nat) : Lim (fl n (dig M)) := d1X fun i _ => c4q M i
/-- A row's digits. -/
theorem c8H {l : List Nat} (hl : Lim l) (i : Nat) : dig (val l) i = l.getD i 0 := by
  unfold dig
  rw [a5g l i]
  rcases Nat.lt_or_ge l.length i with h | h
  · have : l.drop i = [] := List.drop_eq_nil_of_le (by omega)
    rw [this, List.take_of_length_le (by omega), b0R (by omega)]
    simp only [val, Nat.mul_zero, Nat.add_zero]
    have h2 : val l < LB ^ i := Nat.lt_of_lt_of_le (a1i hl) (Nat.pow_le_pow_right (by decide) (by omega))
    rw [Nat.div_eq_of_lt h2]; rfl
  · have h1 := a2A hl i
    rw [Nat.add_mul_div_left _ _ (a3r i), Nat.div_eq_of_lt h1, Nat.zero_add]
    have : l.getD i 0 = (l.drop i).getD 0 0 := by rw [c8q, Nat.add_zero]
    rw [this]
    cases hd : l.drop i with
    | nil => rfl
    | cons d r =>
      have hlt : d < LB := (hl.drop i) d (by rw [hd]; simp)
      simp only [val, List.getD_cons_zero]
      rw [Nat.add_mul_mod_self_left, Nat.mod_eq_of_lt hlt]
theorem b1O {l : List Nat} (hl : Lim l) {n : Nat} (h : l.length = n) : l = fl n (dig (val l)) := by
  rw [d3v h]
  refine a2o fun i _ => ?_
  rw [← d3v h, c8H hl]
theorem a8y {M i : Nat} (h : M < LB ^ i) : dig M i = 0 := by unfold dig; rw [Nat.div_eq_of_lt h]; rfl
theorem c8I (M a i : Nat) : dig (M / LB ^ a) i = dig M (a + i) := by
  unfold dig; rw [Nat.div_div_eq_div_mul, ← Nat.pow_add]
theorem b6W {M a i : Nat} (K : Nat) (h : i < a) : dig (M + LB ^ a * K) i = dig M i := by
  unfold dig
  have : LB ^ a * K = LB ^ i * (LB * (LB ^ (a - i - 1) * K)) := by
    rw [← Nat.mul_assoc LB, ← Nat.pow_succ', Nat.succ_eq_add_one, show a - i - 1 + 1 = a - i by omega, ← Nat.mul_assoc, ← Nat.pow_add, show i + (a - i) = a by omega]
  rw [this, Nat.add_mul_div_left _ _ (a3r i), Nat.add_mul_mod_self_left]
/-- Words side by side. -/
theorem d4T {x y : Nat} (k : Nat) (hx : x < 2 ^ (64 - k)) (hk : k ≤ 64) (hy : y < 2 ^ k) : (BitVec.ofInt 64 ((x * 2 ^ k : Nat) : Int) ||| BitVec.ofInt 64 ((y : Nat) : Int)).toNat = x * 2 ^ k + y := by
  have e : 2 ^ 64 = 2 ^ (64 - k) * 2 ^ k := by rw [← Nat.pow_add]; congr 1; omega
  have hx2 : x * 2 ^ k < 2 ^ 64 := by rw [e]; exact Nat.mul_lt_mul_of_pos_right hx (Nat.pow_pos (by decide))
  have hy2 : y < 2 ^ 64 := Nat.lt_of_lt_of_le hy (Nat.pow_le_pow_right (by decide) hk)
  rw [BitVec.toNat_or]
  simp only [BitVec.ofInt_natCast, BitVec.toNat_ofNat]
  rw [Nat.mod_eq_of_lt hx2, Nat.mod_eq_of_lt hy2]
  have := Nat.shiftLeft_add_eq_or_of_lt hy x
  rw [Nat.shiftLeft_eq] at this
  exact this.symm
theorem c9X {x y : Nat} (k : Nat) (hx : x < 2 ^ (32 - k)) (hk : k ≤ 32) (hy : y < 2 ^ k) : (BitVec.ofInt 32 ((y : Nat) : Int) ||| BitVec.ofInt 32 ((x * 2 ^ k : Nat) : Int)).toNat = x * 2 ^ k + y := by
  have e : 2 ^ 32 = 2 ^ (32 - k) * 2 ^ k := by rw [← Nat.pow_add]; congr 1; omega
  have hx2 : x * 2 ^ k < 2 ^ 32 := by rw [e]; exact Nat.mul_lt_mul_of_pos_right hx (Nat.pow_pos (by decide))
  have hy2 : y < 2 ^ 32 := Nat.lt_of_lt_of_le hy (Nat.pow_le_pow_right (by decide) hk)
  rw [BitVec.toNat_or]
  simp only [BitVec.ofInt_natCast, BitVec.toNat_ofNat]
  rw [Nat.mod_eq_of_lt hx2, Nat.mod_eq_of_lt hy2, Nat.or_comm]
  have := Nat.shiftLeft_add_eq_or_of_lt hy x
  rw [Nat.shiftLeft_eq] at this
  exact this.symm
theorem c2w (B d L : Nat) : (B / L % d) * L + B % L = B - d * ((B / L / d) * L) ∧ d * ((B / L / d) * L) ≤ B := by
  have h1 := Nat.mod_add_div B L
  have h2 := Nat.mod_add_div (B / L) d
  have h3 : (B / L % d) * L + (d * (B / L / d)) * L = B / L * L := by rw [← Nat.add_mul, h2]
  have h4 : B / L * L = L * (B / L) := Nat.mul_comm _ _
  have h5 : d * (B / L / d * L) = (d * (B / L / d)) * L := (Nat.mul_assoc _ _ _).symm
  omega
theorem d4E (B d L : Nat) : ((B / L % d) * L + B % L) % d = B % d := by
  rw [(c2w B d L).1, Nat.sub_mul_mod (c2w B d L).2]
theorem d4F (B d L : Nat) : ((B / L % d) * L + B % L) / d = B / d % L := by
  rw [(c2w B d L).1, Nat.sub_mul_div]
  have h2 : B / L / d = B / d / L := by rw [Nat.div_div_eq_div_mul, Nat.mul_comm, ← Nat.div_div_eq_div_mul]
  rw [h2]
  have h4 := Nat.mod_add_div (B / d) L
  have h5 : L * (B / d / L) = B / d / L * L := Nat.mul_comm _ _
  omega
theorem a8i (A i : Nat) : A / LB ^ (i + 1) = A / LB ^ i / LB := by rw [Nat.pow_succ, Nat.div_div_eq_div_mul]
theorem c7a (A d i : Nat) : ((A / LB ^ (i + 1) % d) * LB + dig A i) % d = A / LB ^ i % d := by
  rw [a8i]; exact d4E _ _ _
theorem c7b (A d i : Nat) : ((A / LB ^ (i + 1) % d) * LB + dig A i) / d = dig (A / d) i := by
  rw [a8i]
  have e : dig (A / d) i = A / LB ^ i / d % LB := by unfold dig; rw [Nat.div_div_eq_div_mul, Nat.mul_comm d, ← Nat.div_div_eq_div_mul]
  rw [e]
  exact d4F _ _ _
end Go.Abs
set_option linter.unusedVariables false
set_option linter.unusedSimpArgs false
set_option linter.defProp false
namespace Go.Abs
theorem a2d {x : Nat} (h : x < 18446744073709551616) : IntKind.wrap .u64 (x : Int) = (x : Int) := a0Y (by omega) (by omega)
theorem c0G {x : Nat} (h : x < 9223372036854775808) : IntKind.wrap .i64 (x : Int) = (x : Int) := a0a (by omega) (by omega)
theorem c7q {x y : Nat} (h : 0 < y) (hx : x < 18446744073709551616) : binV .quo (.int .u64 (x : Int)) (.int .u64 (y : Int)) = some (.int .u64 ((x / y : Nat) : Int)) := by
  rw [c4D _ _ _ (by omega), Int.tdiv_eq_ediv_of_nonneg (by omega)]
  have h2 : x / y ≤ x := Nat.div_le_self _ _
  have : (x : Int) / (y : Int) = ((x / y : Nat) : Int) := rfl
  rw [this, a2d (by omega)]
theorem d2F {x y : Nat} (h : 0 < y) : binV .rem (.int .u64 (x : Int)) (.int .u64 (y : Int)) = some (.int .u64 ((x % y : Nat) : Int)) := by
  rw [c4C _ _ _ (by omega), Int.tmod_eq_emod_of_nonneg (by omega)]; rfl
theorem d4I {x y : Nat} (h : 0 < y) (hx : x < 9223372036854775808) : binV .quo (.int .i64 (x : Int)) (.int .i64 (y : Int)) = some (.int .i64 ((x / y : Nat) : Int)) := by
  rw [c4D _ _ _ (by omega), Int.tdiv_eq_ediv_of_nonneg (by omega)]
  have h2 : x / y ≤ x := Nat.div_le_self _ _
  have : (x : Int) / (y : Int) = ((x / y : Nat) : Int) := rfl
  rw [this, c0G (by omega)]
theorem d4H {x y : Nat} (h : 0 < y) : binV .rem (.int .i64 (x : Int)) (.int .i64 (y : Int)) = some (.int .i64 ((x % y : Nat) : Int)) := by
  rw [c4C _ _ _ (by omega), Int.tmod_eq_emod_of_nonneg (by omega)]; rfl
theorem b7Q {x : Nat} (h : x < LB) : IntKind.wrap .u32 (x : Int) = (x : Int) := b3N (by omega) (by have : LB = 4294967296 := rfl; omega)
theorem b1q {x y : Nat} (h : x + y < 18446744073709551616) : IntKind.wrap .u64 ((x : Int) + (y : Int)) = ((x + y : Nat) : Int) := by rw [a0Y (by omega) (by omega)]; omega
theorem c4U {x y : Nat} (h : x * y < 18446744073709551616) : IntKind.wrap .u64 ((x : Int) * (y : Int)) = ((x * y : Nat) : Int) := by
  rw [← Int.natCast_mul]; exact a2d h
/-- Shifts by less than 32. -/
theorem d4D {x n : Nat} (hx : x < LB) (hn : n < 33) : a8F .shl .u64 (x : Int) (n : Int) = some (.int .u64 ((x * 2 ^ n : Nat) : Int)) := by
  rw [c7c _ _ _ (by omega)]
  have hm : min (Int.toNat (n : Int)) IntKind.u64.bits = n := by
    show min n 64 = n
    omega
  rw [hm]
  have h2 : x * 2 ^ n < 18446744073709551616 := by
    have h3 : 2 ^ n ≤ 2 ^ 32 := Nat.pow_le_pow_right (by decide) (by omega)
    have h4 : x * 2 ^ n ≤ x * 2 ^ 32 := Nat.mul_le_mul_left _ h3
    have : LB = 4294967296 := rfl
    have : (2 : Nat) ^ 32 = 4294967296 := by decide
    omega
  have : (x : Int) * 2 ^ n = ((x * 2 ^ n : Nat) : Int) := by simp
  rw [this, a2d h2]
theorem d2w {x : Nat} (hx : x < LB) : a8F .shl .u64 (x : Int) 32 = some (.int .u64 ((x * LB : Nat) : Int)) := d4D (n := 32) hx (by decide)
theorem d4B {x n : Nat} (hn : n ≤ 64) : a8F .shr .u64 (x : Int) (n : Int) = some (.int .u64 ((x / 2 ^ n : Nat) : Int)) := by
  rw [a2L _ _ _ (by omega)]
  have hm : min (Int.toNat (n : Int)) IntKind.u64.bits = n := by
    show min n 64 = n
    omega
  rw [hm, Int.fdiv_eq_ediv_of_nonneg _ (by exact Int.pow_nonneg (by decide))]
  have : (2 : Int) ^ n = ((2 ^ n : Nat) : Int) := by simp
  rw [this]; rfl
theorem c6Z (x : Nat) : a8F .shr .u64 (x : Int) 32 = some (.int .u64 ((x / LB : Nat) : Int)) := d4B (n := 32) (by decide)
theorem b4B {x y : Nat} (hx : x < LB) (hy : y < LB) : IntKind.wrap .u64 (((BitVec.ofInt (IntKind.bits .u64) ((x * LB : Nat) : Int) ||| BitVec.ofInt (IntKind.bits .u64) (y : Int)).toNat : Nat) : Int) = ((x * LB + y : Nat) : Int) := by
  have h := d4T (x := x) (y := y) 32 hx (by decide) hy
  have e : (2 : Nat) ^ 32 = LB := by decide
  rw [e] at h
  have h' : (BitVec.ofInt (IntKind.bits .u64) ((x * LB : Nat) : Int) ||| BitVec.ofInt (IntKind.bits .u64) (y : Int)).toNat = x * LB + y := h
  rw [h', a2d (by
    have : LB = 4294967296 := rfl
    have : x * LB ≤ 4294967295 * LB := Nat.mul_le_mul_right _ (by omega)
    omega)]
theorem c4T {x y : Nat} (hx : x < LB) (hy : y < LB) : IntKind.wrap .u64 (((BitVec.ofInt (IntKind.bits .u64) (y : Int) ||| BitVec.ofInt (IntKind.bits .u64) ((x * LB : Nat) : Int)).toNat : Nat) : Int) = ((x * LB + y : Nat) : Int) := by
  rw [BitVec.or_comm]; exact b4B hx hy
theorem c6G {x y : Nat} (k : Nat) (hx : x < 2 ^ (32 - k)) (hk : k ≤ 32) (hy : y < 2 ^ k) : IntKind.wrap .u32 (((BitVec.ofInt (IntKind.bits .u32) (y : Int) ||| BitVec.ofInt (IntKind.bits .u32) ((x * 2 ^ k : Nat) : Int)).toNat : Nat) : Int) = ((x * 2 ^ k + y : Nat) : Int) := by
  have h : (BitVec.ofInt (IntKind.bits .u32) (y : Int) ||| BitVec.ofInt (IntKind.bits .u32) ((x * 2 ^ k : Nat) : Int)).toNat = x * 2 ^ k + y := c9X k hx hk hy
  rw [h, b7Q]
  have e : 2 ^ 32 = 2 ^ (32 - k) * 2 ^ k := by rw [← Nat.pow_add]; congr 1; omega
  have h1 : (x + 1) * 2 ^ k ≤ 2 ^ (32 - k) * 2 ^ k := Nat.mul_le_mul_right _ hx
  rw [← e, Nat.add_mul] at h1
  have : LB = 2 ^ 32 := by decide
  omega
section
variable {H L : Heap} {n j len : Nat} {f : Nat → Nat} {oc : Option Nat} {k : IntKind} {env : Env}
theorem d0V (h : j < len) {X : List AV} : idxV (hap H (some ⟨1, X⟩ :: L)) 1 (.mu (lid H 0) 0 len oc) (.int k j) = some (.loc (lid H 0) j 0) := by
  rw [c1k H _ 1 0 0 len oc k j rfl rfl h, Nat.zero_add]
theorem d5S {a : Option Blk} (h : j < len) {X : List AV} : idxV (hap H (a :: some ⟨1, X⟩ :: L)) 1 (.mu (lid H 1) 0 len oc) (.int k j) = some (.loc (lid H 1) j 0) := by
  rw [c1k H _ 1 1 0 len oc k j rfl rfl h, Nat.zero_add]
theorem fat0 (h : j < n) : atV (hap H (some ⟨1, u32s (fl n f)⟩ :: L)) (.loc (lid H 0) j 0) = some [.int .u32 (f j : Nat)] := by
  rw [b9T H _ 0 j rfl (by rw [a0w, a1g]; exact h)]
  simp only [a7b (l := fl n f) (i := j) (by rw [a1g]; exact h), b6y h, AV.cells]
theorem fst0 (h : j < n) (d : Nat) : a1C 1 (.loc (lid H 0) j 0) (.int .u32 (d : Int)) env (hap H (some ⟨1, u32s (fl n f)⟩ :: L)) = some (.top, env, hap H (some ⟨1, u32s (fl n fun i => if i = j then d else f i)⟩ :: L)) := by
  rw [a5j env H _ 1 0 j 0 _ rfl (by rw [a0w, a1g]; exact h) rfl rfl (Nat.le_refl 1)]
  simp only [a2j, b3O, List.set_cons_zero, c8z]
theorem fst1 {a : Option Blk} (h : j < n) (d : Nat) : a1C 1 (.loc (lid H 1) j 0) (.int .u32 (d : Int)) env (hap H (a :: some ⟨1, u32s (fl n f)⟩ :: L)) = some (.top, env, hap H (a :: some ⟨1, u32s (fl n fun i => if i = j then d else f i)⟩ :: L)) := by
  rw [a5j env H _ 1 1 j 0 _ rfl (by rw [a0w, a1g]; exact h) rfl rfl (Nat.le_refl 1)]
  simp only [a2j, b3O, List.set_cons_succ, List.set_cons_zero, c8z]
theorem b9O {k' : IntKind} (h : n ≤ 35184372088832) : b5J 1 4 (.int .u32 0) (.int k n) (.int k' n) env (hap H L) = some (.mu (lid H L.length) 0 n (some n), env, hap H (L ++ [some ⟨1, u32s (fl n fun _ => 0)⟩])) := by
  rw [b0J env H L k k' n h, d3u]
theorem c8u (i : Nat) : frz (lid H i) ⟨1, u32s (fl n f)⟩ (.mu (lid H i) 0 n oc) = natV (fl n f) := by
  have := b1Y H i (fl n f) oc
  rwa [a1g] at this
end
end Go.Abs
namespace Go.Abs
def sumR (f : Nat → Rat) : Nat → Rat
  | 0 => 0
  | n + 1 => sumR f n + f n
theorem a0u {f g : Nat → Rat} : ∀ {n : Nat}, (∀ i, i < n → f i = g i) → sumR f n = sumR g n
  | 0, _ => rfl
  | n + 1, h => by rw [sumR, sumR, a0u fun i hi => h i (by omega), h n (by omega)]
theorem a2G (x y : Rat) (f g : Nat → Rat) : ∀ n, sumR (fun i => x * f i + y * g i) n = x * sumR f n + y * sumR g n
  | 0 => by simp only [sumR]; grind
  | n + 1 => by simp only [sumR, a2G x y f g n]; grind
theorem b4E {f : Nat → Rat} : ∀ {n : Nat}, (∀ i, i < n → f i = 0) → sumR f n = 0
  | 0, _ => rfl
  | n + 1, h => by rw [sumR, b4E fun i hi => h i (by omega), h n (by omega)]; grind
theorem a8q {f : Nat → Rat} {t : Nat} : ∀ {n : Nat}, t < n → (∀ i, i < n → i ≠ t → f i = 0) → sumR f n = f t
  | 0, h, _ => absurd h (by omega)
  | n + 1, h, h0 => by
    rw [sumR]
    by_cases e : t = n
    · subst e
      rw [b4E fun i hi => h0 i (by omega) (by omega)]; grind
    · rw [a8q (by omega) fun i hi he => h0 i (by omega) he, h0 n (by omega) (by omega)]; grind
theorem c3S {f : Nat → Rat} {t : Nat} : ∀ {n : Nat}, t + 1 < n → (∀ i, i < n → i ≠ t → i ≠ t + 1 → f i = 0) → sumR f n = f t + f (t + 1)
  | 0, h, _ => absurd h (by omega)
  | n + 1, h, h0 => by
    rw [sumR]
    by_cases e : t + 1 = n
    · subst e
      rw [a8q (t := t) (by omega) fun i hi he => h0 i (by omega) he (by omega)]
    · rw [c3S (t := t) (by omega) fun i hi h1 h2 => h0 i (by omega) h1 h2, h0 n (by omega) (by omega) (by omega)]; grind
def sg : Nat → Rat
  | 0 => 1
  | n + 1 => -sg n
def skip (i k : Nat) : Nat := if k < i then k else k + 1
def det : Nat → (Nat → Nat → Rat) → Rat
  | 0, _ => 1
  | n + 1, M => sumR (fun i => sg i * M i 0 * det n fun r c => M (skip i r) (c + 1)) (n + 1)
theorem c2u (i k : Nat) : skip i k ≠ i := by unfold skip; split <;> omega
theorem c2v {i k n : Nat} (hk : k < n) : skip i k < n + 1 := by unfold skip; split <;> omega
theorem a0r : ∀ {n : Nat} {M N : Nat → Nat → Rat}, (∀ r c, r < n → c < n → M r c = N r c) → det n M = det n N
  | 0, _, _, _ => rfl
  | n + 1, M, N, h => by
    unfold det
    refine a0u fun i hi => ?_
    rw [h i 0 hi (by omega), a0r (n := n) fun r c hr hc => h (skip i r) (c + 1) (c2v hr) (by omega)]
def a0g (M : Nat → Nat → Rat) (t : Nat) (u : Nat → Rat) : Nat → Nat → Rat := fun r c => if r = t then u c else M r c
theorem a2a (M : Nat → Nat → Rat) (t : Nat) : a0g M t (M t) = M := by
  funext r c; unfold a0g; split
  · rename_i h; rw [h]
  · rfl
/-- Row t of the part without row i. -/
def a6O (i t : Nat) : Nat := if t < i then t else t - 1
theorem b7S {i t r : Nat} (h : i ≠ t) : (skip i r = t) = (r = a6O i t) := by
  rw [eq_iff_iff]; unfold skip a6O
  split <;> split <;> omega
theorem a7e {M : Nat → Nat → Rat} {t i : Nat} {u : Nat → Rat} (h : i ≠ t) : (fun r c => a0g M t u (skip i r) (c + 1)) = a0g (fun r c => M (skip i r) (c + 1)) (a6O i t) fun c => u (c + 1) := by
  funext r c
  unfold a0g
  simp only [b7S h]
theorem a2C {M : Nat → Nat → Rat} {t : Nat} {u : Nat → Rat} : (fun r c => a0g M t u (skip t r) (c + 1)) = fun r c => M (skip t r) (c + 1) := by
  funext r c
  unfold a0g
  rw [if_neg (c2u t r)]
theorem b1Z : ∀ {n : Nat} {M : Nat → Nat → Rat} {t : Nat} (x y : Rat) (u w : Nat → Rat), t < n → det n (a0g M t fun c => x * u c + y * w c) = x * det n (a0g M t u) + y * det n (a0g M t w)
  | 0, _, _, _, _, _, _, h => absurd h (by omega)
  | n + 1, M, t, x, y, u, w, h => by
    unfold det
    rw [← a2G]
    refine a0u fun i hi => ?_
    by_cases e : i = t
    · subst e
      rw [a2C, a2C, a2C]
      simp only [a0g, if_true]
      grind
    · rw [a7e e, a7e e, a7e e, b1Z x y _ _ (by unfold a6O; split <;> omega)]
      simp only [a0g, if_neg e]
      grind
theorem c3y : ∀ {n : Nat} {M : Nat → Nat → Rat} {t : Nat}, t + 1 < n → (∀ c, M t c = M (t + 1) c) → det n M = 0
  | 0, _, _, h, _ => absurd h (by omega)
  | n + 1, M, t, h, he => by
    unfold det
    have hm : (fun r c => M (skip t r) (c + 1)) = fun r c => M (skip (t + 1) r) (c + 1) := by
      funext r c
      unfold skip
      by_cases h1 : r < t
      · rw [if_pos h1, if_pos (by omega)]
      · rw [if_neg h1]
        by_cases h2 : r = t
        · rw [if_pos (by omega), h2, he]
        · rw [if_neg (by omega)]
    rw [c3S (t := t) h fun i hi h1 h2 => by
      have hz : det n (fun r c => M (skip i r) (c + 1)) = 0 := by
        refine c3y (t := if i < t then t - 1 else t) (by split <;> omega) fun c => ?_
        unfold skip
        by_cases h3 : i < t
        · rw [if_pos h3, if_neg (by omega), if_neg (by omega)]
          rw [show t - 1 + 1 = t by omega]
          exact he _
        · rw [if_neg h3, if_pos (by omega), if_pos (by omega)]
          exact he _
      rw [hz]; grind]
    rw [hm, he 0]
    simp only [sg]
    grind
/-- Two rows exchanged. -/
def a0t (s t : Nat) (M : Nat → Nat → Rat) : Nat → Nat → Rat := fun r c => if r = s then M t c else if r = t then M s c else M r c
theorem a0K {M : Nat → Nat → Rat} {s t : Nat} {u w : Nat → Rat} (h : s ≠ t) : a0g (a0g M s u) t w = a0g (a0g M t w) s u := by
  funext r c; unfold a0g
  by_cases h1 : r = t
  · by_cases h2 : r = s
    · omega
    · simp [h1]; intro e; omega
  · by_cases h2 : r = s
    · simp [h2]; intro e; omega
    · simp [h1, h2]
theorem c3z {n : Nat} {M : Nat → Nat → Rat} {t : Nat} (u w : Nat → Rat) (h : t < n) : det n (a0g M t fun c => u c + w c) = det n (a0g M t u) + det n (a0g M t w) := by
  have := b1Z (M := M) 1 1 u w h
  have e : (fun c => (1 : Rat) * u c + 1 * w c) = fun c => u c + w c := by funext c; grind
  rw [e] at this
  grind
/-- If equal rows give 0, exchanged ones give the negative. -/
theorem b6Y {n : Nat} {M : Nat → Nat → Rat} {s t : Nat} (hst : s ≠ t) (hs : s < n) (ht : t < n) (heq : ∀ N : Nat → Nat → Rat, (∀ c, N s c = N t c) → det n N = 0) : det n (a0t s t M) = -det n M := by
  let u := M s
  let w := M t
  have A : ∀ p q : Nat → Rat, (∀ c, p c = q c) → det n (a0g (a0g M s p) t q) = 0 := fun p q h => heq _ fun c => by
    unfold a0g
    simp [hst, h c]
  have h0 := A (fun c => u c + w c) (fun c => u c + w c) fun _ => rfl
  rw [c3z _ _ ht, a0K hst, a0K hst, c3z _ _ hs, c3z _ _ hs, ← a0K hst, ← a0K hst, ← a0K hst, ← a0K hst, A u u fun _ => rfl, A w w fun _ => rfl] at h0
  have e1 : a0g (a0g M s u) t w = M := by
    show a0g (a0g M s (M s)) t (M t) = M
    rw [a2a]; exact a2a M t
  have e2 : a0g (a0g M s w) t u = a0t s t M := by
    funext r c; unfold a0g a0t
    by_cases h1 : r = s
    · subst h1; simp [hst]; rfl
    · by_cases h2 : r = t
      · subst h2; simp [h1]; rfl
      · simp [h1, h2]
  rw [e1, e2] at h0
  grind
theorem c1K {n : Nat} {M : Nat → Nat → Rat} {t : Nat} (h : t + 1 < n) : det n (a0t t (t + 1) M) = -det n M :=
  b6Y (by omega) (by omega) h fun N he => c3y h he
theorem c8K : ∀ (d : Nat) {n : Nat} {M : Nat → Nat → Rat} {s : Nat}, s + d + 1 < n → (∀ c, M s c = M (s + d + 1) c) → det n M = 0
  | 0, n, M, s, h, he => c3y (t := s) h he
  | d + 1, n, M, s, h, he => by
    have hsw := c1K (M := M) (t := s + d + 1) (n := n) (by omega)
    have : det n (a0t (s + d + 1) (s + d + 1 + 1) M) = 0 := c8K d (s := s) (by omega) fun c => by
      unfold a0t
      rw [if_neg (by omega), if_neg (by omega), if_pos rfl, he c]
      rfl
    rw [this] at hsw
    grind
theorem b1h {n : Nat} {M : Nat → Nat → Rat} {s t : Nat} (hst : s ≠ t) (hs : s < n) (ht : t < n) (he : ∀ c, M s c = M t c) : det n M = 0 := by
  rcases Nat.lt_or_gt_of_ne hst with h | h
  · exact c8K (t - s - 1) (s := s) (by omega) fun c => by rw [he c]; congr 1; omega
  · exact c8K (s - t - 1) (s := t) (by omega) fun c => by rw [← he c]; congr 1; omega
theorem c0k {n : Nat} {M : Nat → Nat → Rat} {s t : Nat} (hst : s ≠ t) (hs : s < n) (ht : t < n) : det n (a0t s t M) = -det n M :=
  b6Y hst hs ht fun N he => b1h hst hs ht he
/-- So many times another row added. -/
theorem c6t {n : Nat} {M : Nat → Nat → Rat} {s t : Nat} (x : Rat) (hst : s ≠ t) (hs : s < n) (ht : t < n) : det n (a0g M t fun c => M t c + x * M s c) = det n M := by
  have h := b1Z (M := M) 1 x (M t) (M s) ht
  have e : (fun c => (1 : Rat) * M t c + x * M s c) = fun c => M t c + x * M s c := by funext c; grind
  rw [e, a2a] at h
  have h0 : det n (a0g M t (M s)) = 0 := b1h hst hs ht fun c => by unfold a0g; simp [hst]
  rw [h, h0]
  grind
/-- What is left behind the first row and the first column. -/
def a2z (M : Nat → Nat → Rat) : Nat → Nat → Rat := fun i k => M (i + 1) (k + 1) - M (i + 1) 0 / M 0 0 * M 0 (k + 1)
def a4n (M : Nat → Nat → Rat) (k : Nat) : Nat → Nat → Rat := fun r c => if 0 < r ∧ r ≤ k then M r c + -(M r 0 / M 0 0) * M 0 c else M r c
theorem c4r {n : Nat} (M : Nat → Nat → Rat) : ∀ k, k < n → det n (a4n M k) = det n M
  | 0, _ => by congr 1; funext r c; unfold a4n; rw [if_neg (by omega)]
  | k + 1, h => by
    rw [← c4r M k (by omega), ← c6t (M := a4n M k) (s := 0) (t := k + 1) (-(M (k + 1) 0 / M 0 0)) (by omega) (by omega) h]
    congr 1
    funext r c
    unfold a0g a4n
    by_cases e : r = k + 1
    · subst e
      rw [if_pos ⟨by omega, Nat.le_refl _⟩, if_pos rfl]
      show _ = (if 0 < k + 1 ∧ k + 1 ≤ k then _ else _) + _ * (if 0 < 0 ∧ 0 ≤ k then _ else _)
      rw [if_neg (by omega), if_neg (by omega)]
    · by_cases h2 : 0 < r ∧ r ≤ k
      · rw [if_pos ⟨h2.1, by omega⟩, if_neg e, if_pos h2]
      · rw [if_neg (by omega), if_neg e, if_neg h2]
theorem a8j {n : Nat} {M : Nat → Nat → Rat} (h : M 0 0 ≠ 0) : det (n + 1) M = M 0 0 * det n (a2z M) := by
  rw [← c4r M n (by omega)]
  rw [det, a8q (t := 0) (by omega) fun i hi h0 => by
    have : a4n M n i 0 = 0 := by
      unfold a4n
      rw [if_pos ⟨by omega, by omega⟩]
      grind
    rw [this]; grind]
  have e0 : a4n M n 0 0 = M 0 0 := by unfold a4n; rw [if_neg (by omega)]
  rw [e0]
  have : det n (fun r c => a4n M n (skip 0 r) (c + 1)) = det n (a2z M) := by
    refine a0r fun r c hr hc => ?_
    have hs : skip 0 r = r + 1 := by unfold skip; rw [if_neg (by omega)]
    rw [hs]
    unfold a4n a2z
    rw [if_pos ⟨by omega, by omega⟩]
    generalize M (r + 1) 0 / M 0 0 = x
    grind
  rw [this]
  simp only [sg]
  grind
/-- A determinant of whole numbers is whole. -/
theorem c8J : ∀ {n : Nat} {M : Nat → Nat → Rat}, (∀ r c, ∃ z : Int, M r c = z) → ∃ z : Int, det n M = z
  | 0, _, _ => ⟨1, rfl⟩
  | n + 1, M, h => by
    unfold det
    have hs : ∀ i, ∃ z : Int, sg i = z := by
      intro i
      induction i with
      | zero => exact ⟨1, rfl⟩
      | succ i ih => obtain ⟨z, hz⟩ := ih; exact ⟨-z, by rw [sg, hz, Rat.intCast_neg]⟩
    have ht : ∀ i, ∃ z : Int, sg i * M i 0 * det n (fun r c => M (skip i r) (c + 1)) = z := fun i => by
      obtain ⟨a, ha⟩ := hs i
      obtain ⟨b, hb⟩ := h i 0
      obtain ⟨c, hc⟩ := c8J (n := n) (M := fun r c => M (skip i r) (c + 1)) fun r c => h _ _
      exact ⟨a * b * c, by rw [ha, hb, hc, Rat.intCast_mul, Rat.intCast_mul]⟩
    have : ∀ k, ∃ z : Int, sumR (fun i => sg i * M i 0 * det n fun r c => M (skip i r) (c + 1)) k = z := by
      intro k
      induction k with
      | zero => exact ⟨0, rfl⟩
      | succ k ih =>
        obtain ⟨z, hz⟩ := ih
        obtain ⟨y, hy⟩ := ht k
        exact ⟨z + y, by rw [sumR, hz, hy, Rat.intCast_add]⟩
    exact this (n + 1)
end Go.Abs
namespace Go.Abs
def SS : Nat → (Nat → Nat → Rat) → Nat → Nat → Rat
  | 0, M => M
  | r + 1, M => SS r (a2z M)
def piv : Nat → (Nat → Nat → Rat) → Prop
  | 0, _ => True
  | r + 1, M => M 0 0 ≠ 0 ∧ piv r (a2z M)
theorem c3I : ∀ (r : Nat) (M : Nat → Nat → Rat), SS (r + 1) M = a2z (SS r M)
  | 0, _ => rfl
  | r + 1, M => c3I r (a2z M)
theorem b0A : ∀ (r : Nat) (M : Nat → Nat → Rat), piv (r + 1) M ↔ piv r M ∧ SS r M 0 0 ≠ 0
  | 0, M => by simp [piv, SS]
  | r + 1, M => by
    have h := b0A r (a2z M)
    show M 0 0 ≠ 0 ∧ piv (r + 1) (a2z M) ↔ (M 0 0 ≠ 0 ∧ piv r (a2z M)) ∧ SS r (a2z M) 0 0 ≠ 0
    rw [h, and_assoc]
theorem d2a : ∀ (r n : Nat) {M : Nat → Nat → Rat}, piv r M → det (r + n) M = det r M * det n (SS r M)
  | 0, n, M, _ => by simp only [Nat.zero_add, det, SS]; grind
  | r + 1, n, M, h => by
    rw [show r + 1 + n = (r + n) + 1 by omega, a8j h.1, a8j h.1, d2a r n h.2]
    show _ = M 0 0 * det r (a2z M) * det n (SS r (a2z M))
    grind
theorem d3M (M : Nat → Nat → Rat) : det 1 M = M 0 0 := by
  simp only [det, sumR, sg]; grind
theorem c0l (r : Nat) {M : Nat → Nat → Rat} (h : piv r M) : det (r + 1) M = det r M * SS r M 0 0 := by
  rw [d2a r 1 h, d3M]
theorem d1Z : ∀ (r : Nat) {M : Nat → Nat → Rat}, piv r M → det r M ≠ 0
  | 0, _, _ => by simp only [det]; grind
  | r + 1, M, h => by
    have h' := (b0A r M).1 h
    rw [c0l r h'.1]
    have := d1Z r h'.1
    have := h'.2
    grind
/-- What is left depends on the first rows and columns, and on its own row and column. -/
theorem b7k : ∀ (r : Nat) {M N : Nat → Nat → Rat} {i j k l : Nat}, (∀ a b, a < r → b < r → M a b = N a b) → (∀ b, b < r → M (r + i) b = N (r + j) b) → (∀ a, a < r → M a (r + k) = N a (r + l)) → M (r + i) (r + k) = N (r + j) (r + l) → SS r M i k = SS r N j l
  | 0, M, N, i, j, k, l, _, _, _, h => by simpa [SS] using h
  | r + 1, M, N, i, j, k, l, h1, h2, h3, h4 => by
    show SS r (a2z M) i k = SS r (a2z N) j l
    have e : ∀ x : Nat, r + 1 + x = r + x + 1 := fun x => by omega
    have h2' : ∀ b, b < r + 1 → M (r + i + 1) b = N (r + j + 1) b := fun b hb => by rw [← e, ← e]; exact h2 b hb
    have h3' : ∀ a, a < r + 1 → M a (r + k + 1) = N a (r + l + 1) := fun a ha => by rw [← e, ← e]; exact h3 a ha
    have h4' : M (r + i + 1) (r + k + 1) = N (r + j + 1) (r + l + 1) := by rw [← e, ← e, ← e, ← e]; exact h4
    refine b7k r (fun a b ha hb => ?_) (fun b hb => ?_) (fun a ha => ?_) ?_
    · simp only [a2z]; rw [h1 (a + 1) (b + 1) (by omega) (by omega), h1 (a + 1) 0 (by omega) (by omega), h1 0 0 (by omega) (by omega), h1 0 (b + 1) (by omega) (by omega)]
    · simp only [a2z]; rw [h2' (b + 1) (by omega), h2' 0 (by omega), h1 0 0 (by omega) (by omega), h1 0 (b + 1) (by omega) (by omega)]
    · simp only [a2z]; rw [h3' (a + 1) (by omega), h1 (a + 1) 0 (by omega) (by omega), h1 0 0 (by omega) (by omega), h3' 0 (by omega)]
    · simp only [a2z]; rw [h4', h2' 0 (by omega), h1 0 0 (by omega) (by omega), h3' 0 (by omega)]
theorem a9B : ∀ (r : Nat) {M N : Nat → Nat → Rat}, (∀ a b, a < r → b < r → M a b = N a b) → piv r M → piv r N
  | 0, _, _, _, _ => trivial
  | r + 1, M, N, h, hp => by
    rw [b0A] at hp ⊢
    refine ⟨a9B r (fun a b ha hb => h a b (by omega) (by omega)) hp.1, ?_⟩
    rw [← b7k r (M := M) (N := N) (i := 0) (j := 0) (k := 0) (l := 0) (fun a b ha hb => h a b (by omega) (by omega)) (fun b hb => h _ _ (by omega) (by omega)) (fun a ha => h _ _ (by omega) (by omega)) (h _ _ (by omega) (by omega))]
    exact hp.2
/-- The columns in their order: the heads' places first, then all. -/
def colm (cs : List Nat) (b : Nat) : Nat := if b < cs.length then cs.getD b 0 else b - cs.length
def a0v (B : Nat → Nat → Rat) (cs : List Nat) : Nat → Nat → Rat := fun a b => B a (colm cs b)
/-- Row i, as it stands when the a0v cs are done; i is not among their rows. -/
def a1U (B : Nat → Nat → Rat) (cs : List Nat) (i k : Nat) : Rat := SS cs.length (a0v B cs) (i - cs.length) k
def a4a (B : Nat → Nat → Rat) (cs : List Nat) : Rat := det cs.length (a0v B cs)
def Piv (B : Nat → Nat → Rat) (cs : List Nat) : Prop := piv cs.length (a0v B cs)
theorem c1A (B : Nat → Nat → Rat) (i k : Nat) : a1U B [] i k = B i k := by simp [a1U, SS, a0v, colm]
theorem c8a (B : Nat → Nat → Rat) : a4a B [] = 1 := rfl
theorem a2u {cs : List Nat} {c b : Nat} (h : b < cs.length) : colm (cs ++ [c]) b = colm cs b := by
  simp only [colm, List.length_append, List.length_cons, List.length_nil]
  rw [if_pos (by omega), if_pos h]
  simp [List.getD_eq_getElem?_getD, List.getElem?_append_left h]
theorem a8A {cs : List Nat} {c : Nat} : colm (cs ++ [c]) cs.length = c := by
  simp only [colm, List.length_append, List.length_cons, List.length_nil]
  rw [if_pos (by omega)]
  simp
theorem a1I (cs : List Nat) (k : Nat) : colm cs (cs.length + k) = k := by
  simp only [colm]; rw [if_neg (by omega)]; omega
theorem c4J {B : Nat → Nat → Rat} {cs : List Nat} {c : Nat} (i : Nat) : SS cs.length (a0v B (cs ++ [c])) i 0 = a1U B cs (cs.length + i) c := by
  unfold a1U
  rw [Nat.add_sub_cancel_left]
  refine b7k _ (fun a b _ hb => ?_) (fun b hb => ?_) (fun a _ => ?_) ?_
  · simp only [a0v]; rw [a2u hb]
  · simp only [a0v]; rw [a2u hb]
  · simp only [a0v]; rw [Nat.add_zero, a8A, a1I]
  · simp only [a0v]; rw [Nat.add_zero, a8A, a1I]
theorem d2j {B : Nat → Nat → Rat} {cs : List Nat} {c : Nat} (i k : Nat) : SS cs.length (a0v B (cs ++ [c])) i (k + 1) = a1U B cs (cs.length + i) k := by
  unfold a1U
  rw [Nat.add_sub_cancel_left]
  have e : colm (cs ++ [c]) (cs.length + (k + 1)) = k := by
    have := a1I (cs ++ [c]) k
    simp only [List.length_append, List.length_cons, List.length_nil] at this
    rw [show cs.length + (k + 1) = cs.length + (0 + 1) + k by omega]; exact this
  refine b7k _ (fun a b _ hb => ?_) (fun b hb => ?_) (fun a _ => ?_) ?_
  · simp only [a0v]; rw [a2u hb]
  · simp only [a0v]; rw [a2u hb]
  · simp only [a0v]; rw [e, a1I]
  · simp only [a0v]; rw [e, a1I]
theorem a1N (cs : List Nat) (c : Nat) : (cs ++ [c]).length = cs.length + 1 := by simp
/-- One more head. -/
theorem c6k (B : Nat → Nat → Rat) (cs : List Nat) (c : Nat) {i k : Nat} (hi : cs.length < i) : a1U B (cs ++ [c]) i k = a1U B cs i k - a1U B cs i c / a1U B cs cs.length c * a1U B cs cs.length k := by
  have h := c3I cs.length (a0v B (cs ++ [c]))
  have e : a1U B (cs ++ [c]) i k = a2z (SS cs.length (a0v B (cs ++ [c]))) (i - (cs.length + 1)) k := by
    unfold a1U
    rw [a1N, h]
  rw [e]
  simp only [a2z]
  rw [d2j, c4J, c4J, d2j, Nat.add_zero]
  rw [show cs.length + (i - (cs.length + 1) + 1) = i by omega]
  rfl
theorem c6e {B : Nat → Nat → Rat} {cs : List Nat} (hp : Piv B cs) (c : Nat) : a4a B (cs ++ [c]) = a4a B cs * a1U B cs cs.length c := by
  unfold a4a
  have hp' : piv cs.length (a0v B (cs ++ [c])) := a9B _ (fun a b _ hb => by simp only [a0v]; rw [a2u hb]) hp
  rw [a1N, c0l _ hp', c4J, Nat.add_zero]
  congr 1
  exact a0r fun a b _ hb => by simp only [a0v]; rw [a2u hb]
theorem c3W {B : Nat → Nat → Rat} {cs : List Nat} (hp : Piv B cs) {c : Nat} (h : a1U B cs cs.length c ≠ 0) : Piv B (cs ++ [c]) := by
  unfold Piv
  rw [a1N, b0A]
  refine ⟨a9B _ (fun a b _ hb => by simp only [a0v]; rw [a2u hb]) hp, ?_⟩
  rw [c4J, Nat.add_zero]; exact h
theorem b0P {B : Nat → Nat → Rat} {cs : List Nat} (hp : Piv B cs) : a4a B cs ≠ 0 := d1Z _ hp
/-- Multiplied with the last head, what is left is whole. -/
theorem c8s {B : Nat → Nat → Rat} {cs : List Nat} (hp : Piv B cs) (hB : ∀ i k, ∃ z : Int, B i k = z) {i : Nat} (k : Nat) (hi : cs.length ≤ i) : ∃ z : Int, a4a B cs * a1U B cs i k = z := by
  let N : Nat → Nat → Rat := fun a b => B (if a = cs.length then i else a) (colm (cs ++ [k]) b)
  obtain ⟨z, hz⟩ := c8J (n := cs.length + 1) (M := N) fun r c => hB _ _
  refine ⟨z, ?_⟩
  have hN : ∀ a b, a < cs.length → b < cs.length → a0v B cs a b = N a b := fun a b ha hb => by
    simp only [N, a0v]
    rw [if_neg (by omega), a2u hb]
  rw [← hz, c0l _ (a9B _ hN hp)]
  unfold a4a a1U
  rw [a0r hN]
  congr 1
  refine b7k _ hN (fun b hb => ?_) (fun a ha => ?_) ?_
  · simp only [N, a0v]; rw [Nat.add_zero, if_pos rfl, a2u hb]
    rw [show cs.length + (i - cs.length) = i by omega]
  · simp only [N, a0v]; rw [if_neg (by omega), Nat.add_zero, a8A, a1I]
  · simp only [N, a0v]; rw [Nat.add_zero, if_pos rfl, a8A, a1I, show cs.length + (i - cs.length) = i by omega]
/-- Rows below the a0v exchanged. -/
theorem a8w {B : Nat → Nat → Rat} {cs : List Nat} {s t : Nat} (hs : cs.length ≤ s) (ht : cs.length ≤ t) {i : Nat} (k : Nat) (hi : cs.length ≤ i) : a1U (a0t s t B) cs i k = a1U B cs (if i = s then t else if i = t then s else i) k := by
  unfold a1U
  have hj : cs.length ≤ (if i = s then t else if i = t then s else i) := by split; exact ht; split; exact hs; exact hi
  generalize hj' : (if i = s then t else if i = t then s else i) = j at hj
  have hr : ∀ c, a0t s t B i c = B j c := fun c => by
    unfold a0t; rw [← hj']
    split
    · rfl
    · split <;> rfl
  refine b7k _ (fun a b ha hb => ?_) (fun b hb => ?_) (fun a ha => ?_) ?_
  · simp only [a0v, a0t]; rw [if_neg (by omega), if_neg (by omega)]
  · simp only [a0v]; rw [show cs.length + (i - cs.length) = i by omega, show cs.length + (j - cs.length) = j by omega, hr]
  · simp only [a0v, a0t]; rw [if_neg (by omega), if_neg (by omega)]
  · simp only [a0v]; rw [show cs.length + (i - cs.length) = i by omega, show cs.length + (j - cs.length) = j by omega, hr]
theorem b1S {B : Nat → Nat → Rat} {cs : List Nat} {s t : Nat} (hs : cs.length ≤ s) (ht : cs.length ≤ t) : a4a (a0t s t B) cs = a4a B cs := by
  unfold a4a
  exact a0r fun a b ha _ => by simp only [a0v, a0t]; rw [if_neg (by omega), if_neg (by omega)]
theorem b9K {B : Nat → Nat → Rat} {cs : List Nat} {s t : Nat} (hs : cs.length ≤ s) (ht : cs.length ≤ t) (hp : Piv B cs) : Piv (a0t s t B) cs := by
  unfold Piv at hp ⊢
  exact a9B _ (fun a b ha _ => by simp only [a0v, a0t]; rw [if_neg (by omega), if_neg (by omega)]) hp
end Go.Abs
namespace Go.Abs
/-- The first row from r on that has an entry there. -/
def a2p (f : Nat → Rat) (r n : Nat) : Option Nat := (List.range n).find? fun p => decide (r ≤ p) && decide (f p ≠ 0)
theorem a0P (f : Nat → Rat) (r n : Nat) : (∃ p, a2p f r n = some p ∧ r ≤ p ∧ p < n ∧ f p ≠ 0 ∧ ∀ j, r ≤ j → j < p → f j = 0) ∨ (a2p f r n = none ∧ ∀ j, r ≤ j → j < n → f j = 0) := by
  unfold a2p
  cases h : (List.range n).find? fun p => decide (r ≤ p) && decide (f p ≠ 0) with
  | none =>
    refine .inr ⟨rfl, fun j h1 h2 => ?_⟩
    rw [List.find?_eq_none] at h
    have := h j (List.mem_range.2 h2)
    simp [h1] at this
    exact this
  | some p =>
    refine .inl ⟨p, rfl, ?_⟩
    rw [List.find?_range_eq_some] at h
    obtain ⟨h1, h2, h3⟩ := h
    simp at h1
    refine ⟨h1.1, List.mem_range.1 h2, h1.2, fun j hj1 hj2 => ?_⟩
    have := h3 j hj2
    simp [hj1] at this
    exact this
structure GS where
  B : Nat → Nat → Rat
  cs : List Nat
  odd : Bool
def GS.g (s : GS) (i k : Nat) : Rat := a1U s.B s.cs i k
def GS.last (s : GS) : Rat := a4a s.B s.cs
def a7R (n : Nat) (s : GS) (c : Nat) : GS := match a2p (fun p => s.g p c) s.cs.length n with
  | none => s
  | some p => ⟨a0t p s.cs.length s.B, s.cs ++ [c], if p = s.cs.length then s.odd else !s.odd⟩
def gproc (n : Nat) (B : Nat → Nat → Rat) : Nat → GS
  | 0 => ⟨B, [], false⟩
  | c + 1 => a7R n (gproc n B c) c
structure GOk (n : Nat) (s : GS) : Prop where
  piv : Piv s.B s.cs
  int : ∀ i k, ∃ z : Int, s.B i k = z
  len : s.cs.length ≤ n
theorem c5f (r : Nat) (M : Nat → Nat → Rat) : a0t r r M = M := by
  funext i k; unfold a0t
  split
  · rename_i h; rw [h]
  · rfl
theorem c3P {B : Nat → Nat → Rat} (h : ∀ i k, ∃ z : Int, B i k = z) (s t : Nat) : ∀ i k, ∃ z : Int, a0t s t B i k = z := by
  intro i k; unfold a0t
  split
  · exact h _ _
  · split <;> exact h _ _
theorem a1O {n c : Nat} {s : GS} (h : a2p (fun p => s.g p c) s.cs.length n = none) : a7R n s c = s := by unfold a7R; rw [h]
theorem a0H {n c p : Nat} {s : GS} (h : a2p (fun p => s.g p c) s.cs.length n = some p) : a7R n s c = ⟨a0t p s.cs.length s.B, s.cs ++ [c], if p = s.cs.length then s.odd else !s.odd⟩ := by unfold a7R; rw [h]
/-- The head as it stands behind the exchange. -/
theorem a2f {s : GS} {p : Nat} (hp : s.cs.length ≤ p) (k : Nat) : a1U (a0t p s.cs.length s.B) s.cs s.cs.length k = s.g p k := by
  rw [a8w hp (Nat.le_refl _) k (Nat.le_refl _)]
  unfold GS.g
  by_cases h : s.cs.length = p
  · rw [if_pos h, ← h]
  · rw [if_neg h, if_pos rfl]
theorem c0e {n c : Nat} {s : GS} (h : GOk n s) : GOk n (a7R n s c) := by
  rcases a0P (fun p => s.g p c) s.cs.length n with ⟨p, hf, h1, h2, h3, _⟩ | ⟨hf, _⟩
  · rw [a0H hf]
    refine ⟨c3W (b9K h1 (Nat.le_refl _) h.piv) ?_, c3P h.int _ _, by rw [a1N]; omega⟩
    rw [a2f h1]; exact h3
  · rw [a1O hf]; exact h
theorem a3v {n : Nat} {B : Nat → Nat → Rat} (hB : ∀ i k, ∃ z : Int, B i k = z) : ∀ c, GOk n (gproc n B c)
  | 0 => ⟨trivial, hB, Nat.zero_le _⟩
  | c + 1 => c0e (a3v hB c)
/-- Behind a step, for the rows below the new head. -/
theorem b9E {s : GS} {p : Nat} (hp : s.cs.length ≤ p) {i : Nat} (k c : Nat) (hi : s.cs.length < i) :
    a1U (a0t p s.cs.length s.B) (s.cs ++ [c]) i k = s.g (if i = p then s.cs.length else i) k - s.g (if i = p then s.cs.length else i) c / s.g p c * s.g p k := by
  rw [c6k _ _ _ hi, a2f hp, a2f hp, a8w hp (Nat.le_refl _) k (by omega), a8w hp (Nat.le_refl _) c (by omega)]
  unfold GS.g
  have e : (if i = p then s.cs.length else if i = s.cs.length then p else i) = if i = p then s.cs.length else i := by
    by_cases h : i = p
    · rw [if_pos h, if_pos h]
    · rw [if_neg h, if_neg h, if_neg (by omega)]
  rw [e]
theorem c0N {n : Nat} {s : GS} (h : GOk n s) {p : Nat} (hp : s.cs.length ≤ p) (c : Nat) : a4a (a0t p s.cs.length s.B) (s.cs ++ [c]) = s.last * s.g p c := by
  rw [c6e (b9K hp (Nat.le_refl _) h.piv), a2f hp, b1S hp (Nat.le_refl _)]; rfl
/-- The cross product of whole rows is a multiple of the last head: the quotient is the next row. -/
theorem c0r {n : Nat} {s : GS} (h : GOk n s) {p c i k : Nat} (hp : s.cs.length ≤ p) (hf : s.g p c ≠ 0) (hi : s.cs.length < i) {last a b x y : Int} (hl : (last : Rat) = s.last)
    (ha : (a : Rat) = s.last * s.g p c) (hb : (b : Rat) = s.last * s.g (if i = p then s.cs.length else i) k) (hx : (x : Rat) = s.last * s.g (if i = p then s.cs.length else i) c) (hy : (y : Rat) = s.last * s.g p k) :
    ∃ z : Int, a * b - x * y = last * z ∧ (z : Rat) = (s.last * s.g p c) * a1U (a0t p s.cs.length s.B) (s.cs ++ [c]) i k := by
  have hok := c0e (c := c) h
  have hpiv : Piv (a0t p s.cs.length s.B) (s.cs ++ [c]) := c3W (b9K hp (Nat.le_refl _) h.piv) (by rw [a2f hp]; exact hf)
  obtain ⟨z, hz⟩ := c8s hpiv (c3P h.int _ _) k (by rw [a1N]; omega : (s.cs ++ [c]).length ≤ i)
  rw [c0N h hp] at hz
  refine ⟨z, ?_, hz.symm⟩
  have hq : ((a * b - x * y : Int) : Rat) = ((last * z : Int) : Rat) := by
    rw [Rat.intCast_sub, Rat.intCast_mul, Rat.intCast_mul, Rat.intCast_mul, ha, hb, hx, hy, hl, ← hz, b9E hp k c hi]
    have hne := b0P h.piv
    generalize s.g (if i = p then s.cs.length else i) k = u
    generalize s.g (if i = p then s.cs.length else i) c = v
    generalize s.last = l
    generalize s.g p k = w
    generalize s.g p c = t at *
    grind
  exact Rat.intCast_inj.1 hq
end Go.Abs
namespace Go.Abs
def a0s (M : Nat → Nat → Rat) (t : Nat) (u : Nat → Rat) : Nat → Nat → Rat := fun r c => if c = t then u r else M r c
theorem b7c (M : Nat → Nat → Rat) (t : Nat) : a0s M t (fun r => M r t) = M := by
  funext r c; unfold a0s; split
  · rename_i h; rw [h]
  · rfl
theorem a2R {M : Nat → Nat → Rat} {t i : Nat} {u : Nat → Rat} : (fun r c => a0s M (t + 1) u (skip i r) (c + 1)) = a0s (fun r c => M (skip i r) (c + 1)) t fun r => u (skip i r) := by
  funext r c; unfold a0s
  by_cases h : c = t
  · rw [if_pos (by omega), if_pos h]
  · rw [if_neg (by omega), if_neg h]
theorem a6d {M : Nat → Nat → Rat} {i : Nat} {u : Nat → Rat} : (fun r c => a0s M 0 u (skip i r) (c + 1)) = fun r c => M (skip i r) (c + 1) := by
  funext r c; unfold a0s; rw [if_neg (by omega)]
theorem a8z : ∀ {n : Nat} {M : Nat → Nat → Rat} {t : Nat} (x y : Rat) (u w : Nat → Rat), t < n → det n (a0s M t fun r => x * u r + y * w r) = x * det n (a0s M t u) + y * det n (a0s M t w)
  | 0, _, _, _, _, _, _, h => absurd h (by omega)
  | n + 1, M, 0, x, y, u, w, h => by
    unfold det
    rw [← a2G]
    refine a0u fun i hi => ?_
    rw [a6d, a6d, a6d]
    simp only [a0s, if_true]
    grind
  | n + 1, M, t + 1, x, y, u, w, h => by
    unfold det
    rw [← a2G]
    refine a0u fun i hi => ?_
    rw [a2R, a2R, a2R, a8z x y _ _ (by omega)]
    simp only [a0s]
    rw [if_neg (by omega), if_neg (by omega), if_neg (by omega)]
    grind
theorem a4o {n t : Nat} {M : Nat → Nat → Rat} (ht : t < n) (h : ∀ r, M r t = 0) : det n M = 0 := by
  have := a8z (n := n) (M := M) (t := t) 0 0 (fun r => M r t) (fun r => M r t) ht
  have e : (fun r => 0 * M r t + 0 * M r t) = fun r => M r t := by funext r; rw [h r]; grind
  rw [e, b7c] at this
  grind
/-- A zero column below the first row's, told for the entries that count. -/
theorem b3z {n t : Nat} {M : Nat → Nat → Rat} (ht : t < n) (h : ∀ r, r < n → M r t = 0) : det n M = 0 := by
  have e : det n M = det n (a0s M t fun _ => 0) := a0r fun r c hr _ => by
    unfold a0s; split
    · rename_i hc; rw [hc, h r hr]
    · rfl
  rw [e]
  exact a4o ht fun r => by unfold a0s; rw [if_pos rfl]
theorem c6s {n t : Nat} {M : Nat → Nat → Rat} (ht : t < n) (h : ∀ r, M r 0 = M r (t + 1)) : det (n + 1) M = 0 := by
  have key : ∀ N : Nat → Nat → Rat, (∀ r, N r 0 = N r (t + 1)) → N 0 0 ≠ 0 → det (n + 1) N = 0 := by
    intro N hN h0
    rw [a8j h0, a4o (n := n) (t := t) ht (M := a2z N) fun r => by
      unfold a2z
      rw [← hN, ← hN]
      grind]
    grind
  by_cases hz : ∀ r, r < n + 1 → M r 0 = 0
  · exact b3z (t := 0) (by omega) hz
  · have : ∃ p, p < n + 1 ∧ M p 0 ≠ 0 := Classical.byContradiction fun hc => hz fun r hr => Classical.byContradiction fun h1 => hc ⟨r, hr, h1⟩
    obtain ⟨p, hp, hp0⟩ := this
    by_cases h0 : p = 0
    · subst h0; exact key M h hp0
    · have hs := c0k (M := M) (s := 0) (t := p) (Ne.symm h0) (by omega) hp
      have hk := key (a0t 0 p M) (fun r => by
        unfold a0t
        split
        · exact h p
        · split
          · exact h 0
          · exact h r) (by unfold a0t; rw [if_pos rfl]; exact hp0)
      rw [hk] at hs
      grind
theorem b6Z : ∀ (s : Nat) {n t : Nat} {M : Nat → Nat → Rat}, s + t + 1 < n → (∀ r, M r s = M r (s + t + 1)) → det n M = 0
  | s, 0, t, M, h, _ => absurd h (by omega)
  | 0, n + 1, t, M, h, he => c6s (t := t) (by omega) fun r => by have := he r; rwa [Nat.zero_add] at this
  | s + 1, n + 1, t, M, h, he => by
    unfold det
    refine b4E fun i hi => ?_
    rw [b6Z s (t := t) (by omega) fun r => by
      have := he (skip i r)
      rwa [show s + 1 + t + 1 = s + t + 1 + 1 by omega] at this]
    grind
theorem b9p {n s t : Nat} {M : Nat → Nat → Rat} (hs : s < n) (ht : t < n) (hst : s ≠ t) (he : ∀ r, M r s = M r t) : det n M = 0 := by
  rcases Nat.lt_or_gt_of_ne hst with h | h
  · exact b6Z s (t := t - s - 1) (by omega) fun r => by rw [show s + (t - s - 1) + 1 = t by omega]; exact he r
  · exact b6Z t (t := s - t - 1) (by omega) fun r => by rw [show t + (s - t - 1) + 1 = s by omega]; exact (he r).symm
/-- Cramer's rule. -/
theorem c8N {n i : Nat} {A : Nat → Nat → Rat} (x : Nat → Rat) (hi : i < n) : ∀ m, m ≤ n → det n (a0s A i fun r => sumR (fun j => A r j * x j) m) = if i < m then x i * det n A else 0
  | 0, _ => by
    rw [if_neg (by omega)]
    exact a4o hi fun r => by unfold a0s; rw [if_pos rfl]; rfl
  | m + 1, h => by
    have hl := a8z (M := A) 1 (x m) (fun r => sumR (fun j => A r j * x j) m) (fun r => A r m) hi
    have e : (fun r => (1 : Rat) * sumR (fun j => A r j * x j) m + x m * A r m) = fun r => sumR (fun j => A r j * x j) (m + 1) := by
      funext r; simp only [sumR]; grind
    rw [e, c8N x hi m (by omega)] at hl
    rw [hl]
    by_cases him : i = m
    · subst him
      rw [if_neg (by omega), if_pos (by omega), b7c]
      grind
    · have h0 : det n (a0s A i fun r => A r m) = 0 := b9p hi (show m < n by omega) him fun r => by
        unfold a0s
        rw [if_pos rfl, if_neg (Ne.symm him)]
      rw [h0]
      by_cases h1 : i < m
      · rw [if_pos h1, if_pos (by omega)]; grind
      · rw [if_neg h1, if_neg (by omega)]; grind
theorem b1i : ∀ {n e : Nat} {M : Nat → Nat → Rat}, n ≤ LB → (∀ r c, r < n → c < n → ∃ z : Int, M r c = z ∧ z.natAbs ≤ LB ^ e) → ∃ z : Int, det n M = z ∧ z.natAbs ≤ LB ^ (n * (e + 1))
  | 0, e, _, _, _ => ⟨1, rfl, by simp⟩
  | n + 1, e, M, hn, h => by
    unfold det
    have hs : ∀ i, ∃ z : Int, sg i = z ∧ z.natAbs = 1 := by
      intro i
      induction i with
      | zero => exact ⟨1, rfl, rfl⟩
      | succ i ih => obtain ⟨z, hz, ha⟩ := ih; exact ⟨-z, by rw [sg, hz, Rat.intCast_neg], by rw [Int.natAbs_neg]; exact ha⟩
    have ht : ∀ i, i < n + 1 → ∃ z : Int, sg i * M i 0 * det n (fun r c => M (skip i r) (c + 1)) = z ∧ z.natAbs ≤ LB ^ e * LB ^ (n * (e + 1)) := fun i hi => by
      obtain ⟨a, ha, ha1⟩ := hs i
      obtain ⟨b, hb, hb1⟩ := h i 0 hi (by omega)
      obtain ⟨c, hc, hc1⟩ := b1i (n := n) (e := e) (M := fun r c => M (skip i r) (c + 1)) (by omega) fun r c hr hc => h _ _ (c2v hr) (by omega)
      refine ⟨a * b * c, by rw [ha, hb, hc, Rat.intCast_mul, Rat.intCast_mul], ?_⟩
      rw [Int.natAbs_mul, Int.natAbs_mul, ha1, Nat.one_mul]
      exact Nat.mul_le_mul hb1 hc1
    have : ∀ k, k ≤ n + 1 → ∃ z : Int, sumR (fun i => sg i * M i 0 * det n fun r c => M (skip i r) (c + 1)) k = z ∧ z.natAbs ≤ k * (LB ^ e * LB ^ (n * (e + 1))) := by
      intro k
      induction k with
      | zero => exact fun _ => ⟨0, rfl, by simp⟩
      | succ k ih =>
        intro hk
        obtain ⟨z, hz, hz1⟩ := ih (by omega)
        obtain ⟨y, hy, hy1⟩ := ht k (by omega)
        refine ⟨z + y, by rw [sumR, hz, hy, Rat.intCast_add], ?_⟩
        have := Int.natAbs_add_le z y
        rw [Nat.add_mul, Nat.one_mul]
        omega
    obtain ⟨z, hz, hz1⟩ := this (n + 1) (Nat.le_refl _)
    refine ⟨z, hz, Nat.le_trans hz1 ?_⟩
    rw [show (n + 1) * (e + 1) = 1 + (e + n * (e + 1)) by rw [Nat.add_mul]; omega, Nat.pow_add, Nat.pow_add, Nat.pow_one]
    exact Nat.mul_le_mul_right _ hn
end Go.Abs
namespace Go.Abs
structure JS where
  s : GS
  M : Nat → Nat → Rat
def JS.r (j : JS) : Nat := j.s.cs.length
/-- Row r by its entry at c; the others without it. -/
def jel (r c : Nat) (M : Nat → Nat → Rat) : Nat → Nat → Rat := fun i k => if i = r then M r k / M r c else M i k - M i c * (M r k / M r c)
def b9Z (n : Nat) (j : JS) (c : Nat) : JS := match a2p (fun p => j.s.g p c) j.s.cs.length n with
  | none => j
  | some p => ⟨a7R n j.s c, jel j.s.cs.length c (a0t p j.s.cs.length j.M)⟩
def a4b (n : Nat) (B : Nat → Nat → Rat) : Nat → JS
  | 0 => ⟨⟨B, [], false⟩, B⟩
  | c + 1 => b9Z n (a4b n B c) c
theorem d3c (n : Nat) (j : JS) (c : Nat) : (b9Z n j c).s = a7R n j.s c := by
  unfold b9Z
  cases h : a2p (fun p => j.s.g p c) j.s.cs.length n with
  | none => rw [a1O h]
  | some p => rfl
theorem a4V (n : Nat) (B : Nat → Nat → Rat) : ∀ c, (a4b n B c).s = gproc n B c
  | 0 => rfl
  | c + 1 => by rw [a4b, d3c, a4V n B c]; rfl
theorem c6g {n c : Nat} {j : JS} (h : a2p (fun p => j.s.g p c) j.s.cs.length n = none) : b9Z n j c = j := by unfold b9Z; rw [h]
theorem c6f {n c p : Nat} {j : JS} (h : a2p (fun p => j.s.g p c) j.s.cs.length n = some p) : b9Z n j c = ⟨⟨a0t p j.s.cs.length j.s.B, j.s.cs ++ [c], if p = j.s.cs.length then j.s.odd else !j.s.odd⟩, jel j.s.cs.length c (a0t p j.s.cs.length j.M)⟩ := by
  have : b9Z n j c = ⟨a7R n j.s c, jel j.s.cs.length c (a0t p j.s.cs.length j.M)⟩ := by unfold b9Z; rw [h]
  rw [this, a0H h]
structure JOk (n : Nat) (j : JS) : Prop where
  g : GOk n j.s
  low : ∀ i k, j.s.cs.length ≤ i → j.M i k = j.s.g i k
  up : ∀ a k, j.s.B a k = sumR (fun i => j.s.B a (j.s.cs.getD i 0) * j.M i k) j.s.cs.length + if j.s.cs.length ≤ a then j.M a k else 0
theorem c9z (s t : Nat) (M : Nat → Nat → Rat) (a : Nat) : ∃ b, (∀ N : Nat → Nat → Rat, ∀ k, a0t s t N a k = N b k) ∧ ((s ≤ a ∨ t ≤ a) → True) ∧ (b = if a = s then t else if a = t then s else a) := by
  refine ⟨if a = s then t else if a = t then s else a, fun N k => ?_, fun _ => trivial, rfl⟩
  unfold a0t
  split
  · rfl
  · split <;> rfl
theorem d0z {n c : Nat} {j : JS} (h : JOk n j) : JOk n (b9Z n j c) := by
  rcases a0P (fun p => j.s.g p c) j.s.cs.length n with ⟨p, hf, h1, h2, h3, _⟩ | ⟨hf, _⟩
  · have hg := c0e (c := c) h.g
    rw [a0H hf] at hg
    rw [c6f hf]
    have hlow : ∀ i k, j.s.cs.length ≤ i → a0t p j.s.cs.length j.M i k = j.s.g (if i = p then j.s.cs.length else if i = j.s.cs.length then p else i) k := by
      intro i k hi
      unfold a0t
      split
      · exact h.low _ _ (Nat.le_refl _)
      · split
        · exact h.low _ _ h1
        · exact h.low _ _ hi
    have hr : ∀ k, a0t p j.s.cs.length j.M j.s.cs.length k = j.s.g p k := by
      intro k
      rw [hlow _ _ (Nat.le_refl _)]
      by_cases e : j.s.cs.length = p
      · rw [if_pos e, e]
      · rw [if_neg e, if_pos rfl]
    refine ⟨hg, fun i k hi => ?_, fun a k => ?_⟩
    · simp only [a1N] at hi
      show jel _ c _ i k = a1U (a0t p j.s.cs.length j.s.B) (j.s.cs ++ [c]) i k
      unfold jel
      rw [if_neg (by omega), b9E h1 k c (by omega), hr, hr, hlow _ _ (by omega), hlow _ _ (by omega)]
      have e : (if i = p then j.s.cs.length else if i = j.s.cs.length then p else i) = if i = p then j.s.cs.length else i := by
        by_cases h : i = p
        · rw [if_pos h, if_pos h]
        · rw [if_neg h, if_neg h, if_neg (by omega)]
      rw [e]
      generalize j.s.g (if i = p then j.s.cs.length else i) k = u
      generalize j.s.g (if i = p then j.s.cs.length else i) c = v
      generalize j.s.g p k = w
      generalize j.s.g p c = t at *
      grind
    · -- the rows are made of those above
      show a0t p j.s.cs.length j.s.B a k = sumR (fun i => a0t p j.s.cs.length j.s.B a ((j.s.cs ++ [c]).getD i 0) * jel j.s.cs.length c (a0t p j.s.cs.length j.M) i k) (j.s.cs ++ [c]).length +
        if (j.s.cs ++ [c]).length ≤ a then jel j.s.cs.length c (a0t p j.s.cs.length j.M) a k else 0
      rw [a1N]
      obtain ⟨b, hb, _, hbe⟩ := c9z p j.s.cs.length j.s.B a
      have hba : (j.s.cs.length ≤ a) = (j.s.cs.length ≤ b) := by
        rw [hbe, eq_iff_iff]
        split
        · constructor <;> intro _ <;> omega
        · split
          · constructor <;> intro _ <;> omega
          · exact Iff.rfl
      have hinv : ∀ k, a0t p j.s.cs.length j.s.B a k = sumR (fun i => a0t p j.s.cs.length j.s.B a (j.s.cs.getD i 0) * j.M i k) j.s.cs.length + if j.s.cs.length ≤ a then a0t p j.s.cs.length j.M a k else 0 := by
        intro k
        simp only [hb, hba]
        exact h.up b k
      have hq0 : a0t p j.s.cs.length j.M j.s.cs.length c ≠ 0 := by rw [hr]; exact h3
      have hold : ∀ i, i < j.s.cs.length → ∀ k, a0t p j.s.cs.length j.M i k = j.M i k := by
        intro i hi k; unfold a0t; rw [if_neg (by omega), if_neg (by omega)]
      generalize hB : a0t p j.s.cs.length j.s.B = B' at *
      generalize hM : a0t p j.s.cs.length j.M = M0 at *
      generalize hq : M0 j.s.cs.length k / M0 j.s.cs.length c = q
      rw [sumR]
      have hs : sumR (fun i => B' a ((j.s.cs ++ [c]).getD i 0) * jel j.s.cs.length c M0 i k) j.s.cs.length = 1 * sumR (fun i => B' a (j.s.cs.getD i 0) * j.M i k) j.s.cs.length + (-q) * sumR (fun i => B' a (j.s.cs.getD i 0) * j.M i c) j.s.cs.length := by
        rw [← a2G]
        refine a0u fun i hi => ?_
        have e : (j.s.cs ++ [c]).getD i 0 = j.s.cs.getD i 0 := by
          simp [List.getD_eq_getElem?_getD, List.getElem?_append_left hi]
        rw [e]
        unfold jel
        rw [if_neg (by omega), hq, hold i hi, hold i hi]
        grind
      rw [hs]
      have e2 : (j.s.cs ++ [c]).getD j.s.cs.length 0 = c := by simp [List.getD_eq_getElem?_getD]
      rw [e2]
      have e3 : jel j.s.cs.length c M0 j.s.cs.length k = q := by unfold jel; rw [if_pos rfl, hq]
      rw [e3]
      have i1 := hinv k
      have i2 := hinv c
      by_cases ha : j.s.cs.length ≤ a
      · rw [if_pos ha] at i1 i2
        by_cases ha2 : j.s.cs.length + 1 ≤ a
        · rw [if_pos ha2]
          have e4 : jel j.s.cs.length c M0 a k = M0 a k - M0 a c * q := by unfold jel; rw [if_neg (by omega), hq]
          rw [e4]
          grind
        · rw [if_neg ha2]
          have : a = j.s.cs.length := by omega
          subst this
          have e5 : q * M0 j.s.cs.length c = M0 j.s.cs.length k := by rw [← hq]; exact Rat.div_mul_cancel hq0
          grind
      · rw [if_neg ha] at i1 i2
        rw [if_neg (by omega)]
        grind
  · rw [c6g hf]; exact h
theorem b3X {n : Nat} {B : Nat → Nat → Rat} (hB : ∀ i k, ∃ z : Int, B i k = z) : ∀ c, JOk n (a4b n B c)
  | 0 => ⟨⟨trivial, hB, Nat.zero_le _⟩, fun i k _ => by simp [a4b, GS.g, c1A], fun a k => by simp only [a4b, sumR, List.length_nil, Nat.zero_le, if_true]; grind⟩
  | c + 1 => d0z (b3X hB c)
def Bd (e : Nat) (B : Nat → Nat → Rat) : Prop := ∀ i k, ∃ z : Int, B i k = z ∧ z.natAbs ≤ LB ^ e
theorem Bd.swap {e : Nat} {B : Nat → Nat → Rat} (h : Bd e B) (s t : Nat) : Bd e (a0t s t B) := by
  intro i k; unfold a0t
  split
  · exact h _ _
  · split <;> exact h _ _
theorem Bd.gproc {e n : Nat} {B : Nat → Nat → Rat} (h : Bd e B) : ∀ c, Bd e (gproc n B c).B
  | 0 => h
  | c + 1 => by
    have ih := Bd.gproc (n := n) h c
    show Bd e (a7R n (Abs.gproc n B c) c).B
    unfold a7R
    cases a2p (fun p => (Abs.gproc n B c).g p c) (Abs.gproc n B c).cs.length n with
    | none => exact ih
    | some p => exact ih.swap _ _
theorem c3d {e : Nat} {B : Nat → Nat → Rat} (hB : Bd e B) (cs : List Nat) (hn : cs.length ≤ LB) : ∃ z : Int, a4a B cs = z ∧ z.natAbs ≤ LB ^ (cs.length * (e + 1)) :=
  b1i hn fun _ _ _ _ => hB _ _
/-- What is left, times the last head, is a determinant. -/
theorem b6t {e : Nat} {B : Nat → Nat → Rat} {cs : List Nat} (hp : Piv B cs) (hB : Bd e B) (hn : cs.length + 1 ≤ LB) {i : Nat} (k : Nat) (hi : cs.length ≤ i) : ∃ z : Int, a4a B cs * a1U B cs i k = z ∧ z.natAbs ≤ LB ^ ((cs.length + 1) * (e + 1)) := by
  let N : Nat → Nat → Rat := fun a b => B (if a = cs.length then i else a) (colm (cs ++ [k]) b)
  obtain ⟨z, hz, hz1⟩ := b1i (n := cs.length + 1) (e := e) (M := N) hn fun r c _ _ => hB _ _
  refine ⟨z, ?_, hz1⟩
  have hN : ∀ a b, a < cs.length → b < cs.length → a0v B cs a b = N a b := fun a b ha hb => by
    simp only [N, a0v]
    rw [if_neg (by omega), a2u hb]
  rw [← hz, c0l _ (a9B _ hN hp)]
  unfold a4a a1U
  rw [a0r hN]
  congr 1
  refine b7k _ hN (fun b hb => ?_) (fun a ha => ?_) ?_
  · simp only [N, a0v]; rw [Nat.add_zero, if_pos rfl, a2u hb]
    rw [show cs.length + (i - cs.length) = i by omega]
  · simp only [N, a0v]; rw [if_neg (by omega), Nat.add_zero, a8A, a1I]
  · simp only [N, a0v]; rw [Nat.add_zero, if_pos rfl, a8A, a1I, show cs.length + (i - cs.length) = i by omega]
/-- An entry above, times the last head, is a determinant. -/
theorem c2r {e n : Nat} {j : JS} (h : JOk n j) (hB : Bd e j.s.B) (hn : j.s.cs.length ≤ LB) {i : Nat} (k : Nat) (hi : i < j.s.cs.length) : ∃ z : Int, a4a j.s.B j.s.cs * j.M i k = z ∧ z.natAbs ≤ LB ^ (j.s.cs.length * (e + 1)) := by
  obtain ⟨z, hz, hz1⟩ := b1i (n := j.s.cs.length) (e := e) (M := a0s (a0v j.s.B j.s.cs) i fun a => j.s.B a k) hn fun r c _ _ => by
    unfold a0s; split
    · exact hB _ _
    · exact hB _ _
  refine ⟨z, ?_, hz1⟩
  have hc := c8N (A := a0v j.s.B j.s.cs) (fun t => j.M t k) hi j.s.cs.length (Nat.le_refl _)
  rw [if_pos hi] at hc
  have e1 : det j.s.cs.length (a0s (a0v j.s.B j.s.cs) i fun r => sumR (fun t => a0v j.s.B j.s.cs r t * j.M t k) j.s.cs.length) = det j.s.cs.length (a0s (a0v j.s.B j.s.cs) i fun a => j.s.B a k) := by
    refine a0r fun a b ha hb => ?_
    unfold a0s
    split
    · show sumR (fun t => a0v j.s.B j.s.cs a t * j.M t k) j.s.cs.length = j.s.B a k
      rw [h.up a k, if_neg (by omega)]
      rw [a0u (g := fun t => j.s.B a (j.s.cs.getD t 0) * j.M t k) fun t ht => by
        simp only [a0v, colm]; rw [if_pos ht]]
      grind
    · rfl
  rw [e1] at hc
  unfold a4a
  rw [← hz, hc]
  grind
def KB (e : Nat) : Nat := 65 * (e + 1)
theorem lbm {a b : Nat} (h : a ≤ b) : LB ^ a ≤ LB ^ b := Nat.pow_le_pow_right (by decide) h
theorem c4e {e n : Nat} {j : JS} (h : JOk n j) (hn : j.s.cs.length ≤ 64) (hB : Bd e j.s.B) : ∃ z : Int, a4a j.s.B j.s.cs = z ∧ z.natAbs ≤ LB ^ KB e := by
  have hl := h.g.len
  obtain ⟨z, hz, hz1⟩ := c3d hB j.s.cs (by have : LB = 4294967296 := rfl; omega)
  exact ⟨z, hz, Nat.le_trans hz1 (lbm (Nat.mul_le_mul_right _ (by omega)))⟩
theorem d1a {e n : Nat} {j : JS} (h : JOk n j) (hn : j.s.cs.length ≤ 64) (hB : Bd e j.s.B) (i k : Nat) : ∃ z : Int, a4a j.s.B j.s.cs * j.M i k = z ∧ z.natAbs ≤ LB ^ KB e := by
  have hl := h.g.len
  have hLB : LB = 4294967296 := rfl
  rcases Nat.lt_or_ge i j.s.cs.length with hi | hi
  · obtain ⟨z, hz, hz1⟩ := c2r (n := n) h hB (by omega) k hi
    exact ⟨z, hz, Nat.le_trans hz1 (lbm (Nat.mul_le_mul_right _ (by omega)))⟩
  · obtain ⟨z, hz, hz1⟩ := b6t h.g.piv hB (by omega) k hi
    rw [h.low i k hi]
    exact ⟨z, hz, Nat.le_trans hz1 (lbm (Nat.mul_le_mul_right _ (by omega)))⟩
end Go.Abs
namespace Go.Abs
def dv (n : Nat) (B : Nat → Nat → Rat) (t : Nat) : Rat := if (gproc n B t).cs.length = t then (if (gproc n B t).odd then -(gproc n B t).last else (gproc n B t).last) else 0
theorem a5o (n : Nat) (B : Nat → Nat → Rat) : ∀ t, (gproc n B t).cs.length ≤ t
  | 0 => Nat.le_refl _
  | t + 1 => by
    have ih := a5o n B t
    show (a7R n (gproc n B t) t).cs.length ≤ t + 1
    unfold a7R
    cases a2p (fun p => (gproc n B t).g p t) (gproc n B t).cs.length n with
    | none => exact Nat.le_succ_of_le ih
    | some p => simp only [a1N]; omega
theorem d3B {e n : Nat} {B : Nat → Nat → Rat} (hB : Bd e B) (t : Nat) (hn : n ≤ 64 ∨ t ≤ 64) : (gproc n B t).cs.length ≤ 64 := by
  have h1 := (a3v (n := n) (fun i k => by obtain ⟨z, h, _⟩ := hB i k; exact ⟨z, h⟩) t).len
  have h2 := a5o n B t
  omega
theorem a9f {e n : Nat} {B : Nat → Nat → Rat} (hB : Bd e B) (t : Nat) (hn : n ≤ 64 ∨ t ≤ 64) : ∃ z : Int, (gproc n B t).last = z ∧ z.natAbs ≤ LB ^ KB e := by
  have hi : ∀ i k, ∃ z : Int, B i k = z := fun i k => by obtain ⟨z, h, _⟩ := hB i k; exact ⟨z, h⟩
  have := c4e (e := e) (b3X (n := n) hi t) (by rw [a4V]; exact d3B hB t hn) (by rw [a4V]; exact hB.gproc t)
  rwa [a4V] at this
theorem d5s {e n : Nat} {B : Nat → Nat → Rat} (hB : Bd e B) (t : Nat) (hn : n ≤ 64 ∨ t ≤ 64) : ∃ z : Int, dv n B t = z ∧ z.natAbs ≤ LB ^ KB e := by
  obtain ⟨z, hz, hz1⟩ := a9f hB t hn
  unfold dv
  split
  · split
    · exact ⟨-z, by rw [hz, Rat.intCast_neg], by rw [Int.natAbs_neg]; exact hz1⟩
    · exact ⟨z, hz, hz1⟩
  · exact ⟨0, rfl, by simp⟩
end Go.Abs
namespace Go.Abs
/-- Row a as it stands: times the last head that was taken off it. -/
def Zg (s : GS) (a b : Nat) : Rat := a4a s.B (s.cs.take a) * a1U s.B (s.cs.take a) a b
theorem c9m {s : GS} {a : Nat} (b : Nat) (h : s.cs.length ≤ a) : Zg s a b = s.last * s.g a b := by
  unfold Zg; rw [List.take_of_length_le h]; rfl
theorem c6h {B : Nat → Nat → Rat} {cs : List Nat} {m a b : Nat} (hb : b < (cs.take m).length) : a0v B (cs.take m) a b = a0v B cs a b := by
  rw [List.length_take] at hb
  simp only [a0v, colm]
  rw [if_pos (by rw [List.length_take]; exact hb), if_pos (by omega)]
  congr 1
  simp [List.getD_eq_getElem?_getD, List.getElem?_take]
  rw [if_pos (by omega)]
theorem c9U {B : Nat → Nat → Rat} : ∀ (m : Nat) {cs : List Nat}, Piv B cs → Piv B (cs.take m) := by
  intro m cs h
  have key : ∀ k, piv (k + (cs.take m).length) (a0v B cs) → piv (cs.take m).length (a0v B cs) := by
    intro k
    induction k with
    | zero => intro h; rwa [Nat.zero_add] at h
    | succ k ih => intro h; rw [show k + 1 + (cs.take m).length = (k + (cs.take m).length) + 1 by omega, b0A] at h; exact ih h.1
  have h1 := key (cs.length - (cs.take m).length) (by
    have : cs.length - (cs.take m).length + (cs.take m).length = cs.length := by rw [List.length_take]; omega
    rw [this]; exact h)
  exact a9B _ (fun a b _ hb => (c6h hb).symm) h1
/-- Processed columns are empty below the a0v. -/
theorem c1B {n : Nat} {B : Nat → Nat → Rat} (hB : ∀ i k, ∃ z : Int, B i k = z) : ∀ t a b, (gproc n B t).cs.length ≤ a → a < n → b < t → (gproc n B t).g a b = 0
  | 0, _, _, _, _, h => absurd h (by omega)
  | t + 1, a, b, ha, han, hb => by
    have ih := c1B (n := n) hB t
    rcases a0P (fun p => (gproc n B t).g p t) (gproc n B t).cs.length n with ⟨p, hf, h1, h2, h3, _⟩ | ⟨hf, h4⟩
    · have e : gproc n B (t + 1) = _ := a0H hf
      rw [e] at ha ⊢
      simp only [a1N] at ha
      show a1U (a0t p (gproc n B t).cs.length (gproc n B t).B) ((gproc n B t).cs ++ [t]) a b = 0
      rw [b9E h1 b t (by omega)]
      have hj : (if a = p then (gproc n B t).cs.length else a) < n := by split <;> omega
      have hj2 : (gproc n B t).cs.length ≤ (if a = p then (gproc n B t).cs.length else a) := by split <;> omega
      generalize (if a = p then (gproc n B t).cs.length else a) = i at *
      by_cases hbt : b = t
      · subst hbt
        generalize (gproc n B b).g i b = u
        generalize (gproc n B b).g p b = v at *
        grind
      · rw [ih i b hj2 hj (by omega), ih p b h1 h2 (by omega)]
        grind
    · have e : gproc n B (t + 1) = _ := a1O hf
      rw [e] at ha ⊢
      by_cases hbt : b = t
      · subst hbt; exact h4 a ha han
      · exact ih a b ha han (by omega)
section
variable {n t p : Nat} {B : Nat → Nat → Rat} (hB : ∀ i k, ∃ z : Int, B i k = z) (hf : a2p (fun p => (gproc n B t).g p t) (gproc n B t).cs.length n = some p) (hp : (gproc n B t).cs.length ≤ p)
include hf hp
theorem d1H {a : Nat} (b : Nat) (ha : a < (gproc n B t).cs.length) : Zg (gproc n B (t + 1)) a b = Zg (gproc n B t) a b := by
  have e : gproc n B (t + 1) = _ := a0H hf
  rw [e]
  unfold Zg
  simp only
  have ht : ((gproc n B t).cs ++ [t]).take a = (gproc n B t).cs.take a := by rw [List.take_append_of_le_length (by omega)]
  have hl : ((gproc n B t).cs.take a).length = a := by rw [List.length_take]; omega
  rw [ht, b1S (by omega) (by omega), a8w (by omega) (by omega) b (by omega), if_neg (by omega), if_neg (by omega)]
theorem d4k (b : Nat) : Zg (gproc n B (t + 1)) (gproc n B t).cs.length b = (gproc n B t).last * (gproc n B t).g p b := by
  have e : gproc n B (t + 1) = _ := a0H hf
  rw [e]
  unfold Zg
  simp only
  rw [List.take_append_of_le_length (Nat.le_refl _), List.take_length, b1S hp (Nat.le_refl _), a2f hp]; rfl
omit hp in
theorem c4I {a : Nat} (b : Nat) (ha : (gproc n B t).cs.length < a) : Zg (gproc n B (t + 1)) a b = (gproc n B (t + 1)).last * (gproc n B (t + 1)).g a b := by
  have e : gproc n B (t + 1) = _ := a0H hf
  exact c9m b (by rw [e]; simp only [a1N]; omega)
theorem c7Z (h : GOk n (gproc n B t)) : (gproc n B (t + 1)).last = (gproc n B t).last * (gproc n B t).g p t := by
  have e : gproc n B (t + 1) = _ := a0H hf
  rw [e]
  exact c0N h hp t
end
theorem d1G {e n : Nat} {B : Nat → Nat → Rat} (hB : Bd e B) (hn : n ≤ 64) (t : Nat) {a : Nat} (b : Nat) (ha : a < n) : ∃ z : Int, Zg (gproc n B t) a b = z ∧ z.natAbs ≤ LB ^ KB e := by
  have hi : ∀ i k, ∃ z : Int, B i k = z := fun i k => by obtain ⟨z, h, _⟩ := hB i k; exact ⟨z, h⟩
  have hok := a3v (n := n) hi t
  have hl : ((gproc n B t).cs.take a).length ≤ a := by rw [List.length_take]; omega
  have hLB : LB = 4294967296 := rfl
  obtain ⟨z, hz, hz1⟩ := b6t (c9U a hok.piv) (hB.gproc t) (by omega) (i := a) b hl
  exact ⟨z, hz, Nat.le_trans hz1 (lbm (Nat.mul_le_mul_right _ (by omega)))⟩
end Go.Abs
namespace Go.Abs
def a4v (w : Nat → Int) : Nat → Nat
  | 0 => 0
  | n + 1 => Int.gcd (a4v w n) (w n)
/-- The sign of the first entry that is not 0. -/
def sgF (w : Nat → Int) : Nat → Int
  | 0 => 1
  | n + 1 => if (∀ i, i < n → w i = 0) ∧ w n < 0 then -1 else sgF w n
def a7h (w : Nat → Int) (c : Nat) (i : Nat) : Int := w i / (sgF w c * (a4v w c : Int))
theorem b6s {w v : Nat → Int} : ∀ {n : Nat}, (∀ i, i < n → w i = v i) → a4v w n = a4v v n
  | 0, _ => rfl
  | n + 1, h => by rw [a4v, a4v, b6s fun i hi => h i (by omega), h n (by omega)]
theorem c0R {w v : Nat → Int} : ∀ {n : Nat}, (∀ i, i < n → w i = v i) → sgF w n = sgF v n
  | 0, _ => rfl
  | n + 1, h => by
    have e : (∀ i, i < n → w i = 0) = (∀ i, i < n → v i = 0) := by
      rw [eq_iff_iff]
      exact ⟨fun q i hi => by rw [← h i (by omega)]; exact q i hi, fun q i hi => by rw [h i (by omega)]; exact q i hi⟩
    unfold sgF
    rw [c0R fun i hi => h i (by omega), h n (by omega)]
    simp only [e]
theorem c7g (w : Nat → Int) : ∀ n, sgF w n = 1 ∨ sgF w n = -1
  | 0 => .inl rfl
  | n + 1 => by
    unfold sgF; split
    · exact .inr rfl
    · exact c7g w n
theorem c1y (w : Nat → Int) : ∀ {n i : Nat}, i < n → (a4v w n : Int) ∣ w i
  | 0, _, h => absurd h (by omega)
  | n + 1, i, h => by
    rw [a4v]
    by_cases e : i = n
    · subst e; exact Int.gcd_dvd_right ..
    · exact Int.dvd_trans (Int.gcd_dvd_left ..) (c1y w (by omega))
theorem b1V {w : Nat → Int} : ∀ {n : Nat}, a4v w n = 0 ↔ ∀ i, i < n → w i = 0
  | 0 => ⟨fun _ i h => absurd h (by omega), fun _ => rfl⟩
  | n + 1 => by
    rw [a4v, Int.gcd_eq_zero_iff]
    constructor
    · rintro ⟨h1, h2⟩ i hi
      by_cases e : i = n
      · subst e; exact h2
      · exact (b1V (n := n)).1 (by omega) i (by omega)
    · intro h
      exact ⟨by rw [(b1V (n := n)).2 fun i hi => h i (by omega)]; rfl, h n (by omega)⟩
theorem b9k (a : Int) (w : Nat → Int) : ∀ n, a4v (fun i => a * w i) n = a.natAbs * a4v w n
  | 0 => rfl
  | n + 1 => by
    rw [a4v, a4v, b9k a w n]
    rw [Int.gcd, Int.gcd, Int.natAbs_mul, Int.natAbs_natCast, Int.natAbs_natCast, Nat.gcd_mul_left]
theorem c3U {a : Int} (ha : a ≠ 0) {w : Nat → Int} : ∀ {n : Nat}, (∃ i, i < n ∧ w i ≠ 0) → sgF (fun i => a * w i) n = a.sign * sgF w n
  | 0, h => by obtain ⟨i, hi, _⟩ := h; omega
  | n + 1, h => by
    have e : (∀ i, i < n → a * w i = 0) = (∀ i, i < n → w i = 0) := by
      rw [eq_iff_iff]
      exact ⟨fun q i hi => by rcases Int.mul_eq_zero.1 (q i hi) with h | h; exact absurd h ha; exact h, fun q i hi => by rw [q i hi, Int.mul_zero]⟩
    by_cases h0 : ∀ i, i < n → w i = 0
    · have hn : w n ≠ 0 := by
        obtain ⟨i, hi, hw⟩ := h
        by_cases e : i = n
        · subst e; exact hw
        · exact absurd (h0 i (by omega)) hw
      have hs0 : ∀ (v : Nat → Int) (m : Nat), (∀ i, i < m → v i = 0) → sgF v m = 1 := by
        intro v m
        induction m with
        | zero => intro _; rfl
        | succ m ih => intro hv; unfold sgF; rw [if_neg (by intro h; have := h.2; rw [hv m (by omega)] at this; omega)]; exact ih fun i hi => hv i (by omega)
      unfold sgF
      rw [hs0 w n h0, hs0 (fun i => a * w i) n fun i hi => by rw [h0 i hi, Int.mul_zero]]
      simp only [e]
      rcases Int.lt_or_gt_of_ne ha with ha' | ha'
      · rw [Int.sign_eq_neg_one_of_neg ha']
        rcases Int.lt_or_gt_of_ne hn with hn' | hn'
        · rw [if_neg (by intro h; have := h.2; have := Int.mul_pos_of_neg_of_neg ha' hn'; omega), if_pos ⟨h0, hn'⟩]; rfl
        · rw [if_pos ⟨h0, Int.mul_neg_of_neg_of_pos ha' hn'⟩, if_neg (by intro h; have := h.2; omega)]; rfl
      · rw [Int.sign_eq_one_of_pos ha', Int.one_mul]
        rcases Int.lt_or_gt_of_ne hn with hn' | hn'
        · rw [if_pos ⟨h0, Int.mul_neg_of_pos_of_neg ha' hn'⟩, if_pos ⟨h0, hn'⟩]
        · rw [if_neg (by intro h; have := h.2; have := Int.mul_pos ha' hn'; omega), if_neg (by intro h; have := h.2; omega)]
    · have hex : ∃ i, i < n ∧ w i ≠ 0 := Classical.byContradiction fun hc => h0 fun i hi => Classical.byContradiction fun h1 => hc ⟨i, hi, h1⟩
      unfold sgF
      simp only [e]
      rw [if_neg (fun h => h0 h.1), if_neg (fun h => h0 h.1), c3U ha hex]
def Nz (w : Nat → Int) (c : Nat) : Prop := ∃ i, i < c ∧ w i ≠ 0
theorem d0K {w : Nat → Int} {c : Nat} (h : Nz w c) : a4v w c ≠ 0 := fun h0 => by
  obtain ⟨i, hi, hw⟩ := h
  exact hw (b1V.1 h0 i hi)
theorem d5N {w : Nat → Int} {c : Nat} (h : Nz w c) : sgF w c * (a4v w c : Int) ≠ 0 := by
  have := d0K h
  exact Int.mul_ne_zero (by rcases c7g w c with h | h <;> omega) (by omega)
/-- A multiple of what is left. -/
theorem c9T {w : Nat → Int} {c i : Nat} (hi : i < c) : w i = (sgF w c * (a4v w c : Int)) * a7h w c i := by
  obtain ⟨q, hq⟩ := c1y w hi
  unfold a7h
  rcases Nat.eq_zero_or_pos (a4v w c) with h0 | h0
  · rw [h0] at hq; rw [h0]; simp at hq ⊢; exact hq
  · have hd : (sgF w c * (a4v w c : Int)) ∣ w i := by
      rcases c7g w c with h | h
      · rw [h, Int.one_mul]; exact ⟨q, hq⟩
      · rw [h]; exact ⟨-q, by rw [hq, Int.neg_mul, Int.one_mul, Int.neg_mul_neg]⟩
    rw [Int.mul_ediv_cancel' hd]
theorem c0X {a : Int} (ha : a ≠ 0) {w : Nat → Int} {c : Nat} (h : Nz w c) {i : Nat} (hi : i < c) : a7h (fun i => a * w i) c i = a7h w c i := by
  have h1 := c9T (w := w) hi
  have hne := d5N h
  unfold a7h
  rw [c3U ha h, b9k]
  have e : a.sign * sgF w c * ((a.natAbs * a4v w c : Nat) : Int) = a * (sgF w c * (a4v w c : Int)) := by
    rw [Int.natCast_mul]
    have key : ∀ t s m g : Int, t * s * (m * g) = t * m * (s * g) := by
      intro t s m g; rw [Int.mul_assoc, Int.mul_assoc, Int.mul_left_comm s m g]
    rw [key, Int.sign_mul_natAbs a]
  rw [e]
  show a * w i / _ = w i / _
  generalize a7h w c i = p at *
  generalize sgF w c * (a4v w c : Int) = x at *
  rw [h1, ← Int.mul_assoc, Int.mul_ediv_cancel_left _ (Int.mul_ne_zero ha hne), Int.mul_ediv_cancel_left _ hne]
theorem c5o {w v : Nat → Int} {c : Nat} (h : ∀ i, i < c → w i = v i) {i : Nat} (hi : i < c) : a7h w c i = a7h v c i := by
  unfold a7h; rw [b6s h, c0R h, h i hi]
/-- Parallel vectors have one such. -/
theorem c9S {a b : Int} (ha : a ≠ 0) (hb : b ≠ 0) {w v : Nat → Int} {c : Nat} (hw : Nz w c) (h : ∀ i, i < c → a * w i = b * v i) {i : Nat} (hi : i < c) : a7h w c i = a7h v c i := by
  have hv : Nz v c := by
    obtain ⟨j, hj, hw⟩ := hw
    refine ⟨j, hj, fun h0 => ?_⟩
    have := h j hj
    rw [h0, Int.mul_zero] at this
    rcases Int.mul_eq_zero.1 this with h | h
    · exact ha h
    · exact hw h
  rw [← c0X ha hw hi, ← c0X hb hv hi]
  exact c5o h hi
end Go.Abs
namespace Go.Abs
/-- The a0v are columns that were gone through. -/
theorem d3Q {n : Nat} {B : Nat → Nat → Rat} : ∀ t c, c ∈ (gproc n B t).cs → c < t
  | 0, _, h => by simp [gproc] at h
  | t + 1, c, h => by
    have h' : c ∈ (a7R n (gproc n B t) t).cs := h
    unfold a7R at h'
    cases hf : a2p (fun p => (gproc n B t).g p t) (gproc n B t).cs.length n with
    | none => rw [hf] at h'; exact Nat.lt_succ_of_lt (d3Q t c h')
    | some p =>
      rw [hf] at h'
      rcases List.mem_append.1 h' with h | h
      · exact Nat.lt_succ_of_lt (d3Q t c h)
      · simp at h; omega
theorem b9q {n : Nat} {B : Nat → Nat → Rat} {t i : Nat} (h : i < (gproc n B t).cs.length) : (gproc n B t).cs.getD i 0 < t := by
  refine d3Q (n := n) (B := B) t _ ?_
  rw [List.getD_eq_getElem?_getD, List.getElem?_eq_getElem h]
  exact List.getElem_mem h
end Go.Abs
namespace Go.Abs
structure Alt (n : Nat) (F : (Nat → Nat → Rat) → Rat) : Prop where
  congr : ∀ M N, (∀ r c, r < n → c < n → M r c = N r c) → F M = F N
  eq0 : ∀ M s t, s ≠ t → s < n → t < n → (∀ c, M s c = M t c) → F M = 0
  lin : ∀ M t (x y : Rat) (u w : Nat → Rat), t < n → F (a0g M t fun c => x * u c + y * w c) = x * F (a0g M t u) + y * F (a0g M t w)
def oneR : Nat → Nat → Rat := fun i k => if i = k then 1 else 0
section
variable {n : Nat} {F : (Nat → Nat → Rat) → Rat} (h : Alt n F)
include h
theorem Alt.add {M : Nat → Nat → Rat} {t : Nat} (u w : Nat → Rat) (ht : t < n) : F (a0g M t fun c => u c + w c) = F (a0g M t u) + F (a0g M t w) := by
  have := h.lin M t 1 1 u w ht
  have e : (fun c => (1 : Rat) * u c + 1 * w c) = fun c => u c + w c := by funext c; grind
  rw [e] at this
  grind
theorem Alt.swap {M : Nat → Nat → Rat} {s t : Nat} (hst : s ≠ t) (hs : s < n) (ht : t < n) : F (a0t s t M) = -F M := by
  let u := M s
  let w := M t
  have A : ∀ p q : Nat → Rat, (∀ c, p c = q c) → F (a0g (a0g M s p) t q) = 0 := fun p q hpq => h.eq0 _ s t hst hs ht fun c => by
    unfold a0g
    simp [hst, hpq c]
  have h0 := A (fun c => u c + w c) (fun c => u c + w c) fun _ => rfl
  rw [h.add _ _ ht, a0K hst, a0K hst, h.add _ _ hs, h.add _ _ hs, ← a0K hst, ← a0K hst, ← a0K hst, ← a0K hst, A u u fun _ => rfl, A w w fun _ => rfl] at h0
  have e1 : a0g (a0g M s u) t w = M := by
    show a0g (a0g M s (M s)) t (M t) = M
    rw [a2a]; exact a2a M t
  have e2 : a0g (a0g M s w) t u = a0t s t M := by
    funext r c; unfold a0g a0t
    by_cases h1 : r = s
    · subst h1; simp [hst]; rfl
    · by_cases h2 : r = t
      · subst h2; simp [h1]; rfl
      · simp [h1, h2]
  rw [e1, e2] at h0
  grind
theorem Alt.addrow {M : Nat → Nat → Rat} {s t : Nat} (x : Rat) (hst : s ≠ t) (hs : s < n) (ht : t < n) : F (a0g M t fun c => M t c + x * M s c) = F M := by
  have h1 := h.lin M t 1 x (M t) (M s) ht
  have e : (fun c => (1 : Rat) * M t c + x * M s c) = fun c => M t c + x * M s c := by funext c; grind
  rw [e, a2a] at h1
  have h0 : F (a0g M t (M s)) = 0 := h.eq0 _ s t hst hs ht fun c => by unfold a0g; simp [hst]
  rw [h1, h0]
  grind
theorem Alt.elim (M : Nat → Nat → Rat) : ∀ k, k < n → F (a4n M k) = F M
  | 0, _ => by congr 1; funext r c; unfold a4n; rw [if_neg (by omega)]
  | k + 1, hk => by
    rw [← Alt.elim M k (by omega), ← h.addrow (M := a4n M k) (s := 0) (t := k + 1) (-(M (k + 1) 0 / M 0 0)) (by omega) (by omega) hk]
    congr 1
    funext r c
    unfold a0g a4n
    by_cases e : r = k + 1
    · subst e
      rw [if_pos ⟨by omega, Nat.le_refl _⟩, if_pos rfl]
      show _ = (if 0 < k + 1 ∧ k + 1 ≤ k then _ else _) + _ * (if 0 < 0 ∧ 0 ≤ k then _ else _)
      rw [if_neg (by omega), if_neg (by omega)]
    · by_cases h2 : 0 < r ∧ r ≤ k
      · rw [if_pos ⟨h2.1, by omega⟩, if_neg e, if_pos h2]
      · rw [if_neg (by omega), if_neg e, if_neg h2]
end
/-- A first row, and behind it a smaller matrix with nought ahead. -/
def und (u : Nat → Rat) (N : Nat → Nat → Rat) : Nat → Nat → Rat := fun r c => if r = 0 then u c else if c = 0 then 0 else N (r - 1) (c - 1)
def shR (v : Nat → Rat) : Nat → Rat := fun c => if c = 0 then 0 else v (c - 1)
theorem b1s (u v : Nat → Rat) (N : Nat → Nat → Rat) (t : Nat) : und u (a0g N t v) = a0g (und u N) (t + 1) (shR v) := by
  funext r c
  cases r with
  | zero => exact (if_neg (show ¬ 0 = t + 1 by omega)).symm
  | succ r =>
    cases c with
    | zero =>
      show (0 : Rat) = if r + 1 = t + 1 then 0 else 0
      split <;> rfl
    | succ c =>
      show (if r = t then v c else N r c) = if r + 1 = t + 1 then v c else N r c
      by_cases e : r = t
      · rw [if_pos e, if_pos (by omega)]
      · rw [if_neg e, if_neg (by omega)]
theorem Alt.und {n : Nat} {F : (Nat → Nat → Rat) → Rat} (h : Alt (n + 1) F) (u : Nat → Rat) : Alt n fun N => F (und u N) := by
  refine ⟨fun M N he => h.congr _ _ fun r c hr hc => ?_, fun M s t hst hs ht he => h.eq0 _ (s + 1) (t + 1) (by omega) (by omega) (by omega) fun c => ?_, fun M t x y v w ht => ?_⟩
  · cases r with
    | zero => rfl
    | succ r =>
      cases c with
      | zero => rfl
      | succ c => exact he r c (by omega) (by omega)
  · cases c with
    | zero => rfl
    | succ c => exact he c
  · show F (Abs.und u (a0g M t _)) = x * F (Abs.und u (a0g M t v)) + y * F (Abs.und u (a0g M t w))
    rw [b1s, b1s, b1s, ← h.lin _ _ _ _ _ _ (by omega)]
    congr 2
    funext c
    unfold shR
    split
    · grind
    · rfl
/-- The first row above the unit matrix. -/
theorem Alt.und_one {n : Nat} {F : (Nat → Nat → Rat) → Rat} (h : Alt (n + 1) F) (u : Nat → Rat) : F (Abs.und u oneR) = u 0 * F oneR := by
  have key : ∀ k, k ≤ n → F (Abs.und (fun c => if 0 < c ∧ c ≤ k then 0 else u c) oneR) = F (Abs.und u oneR) := by
    intro k
    induction k with
    | zero =>
      intro _
      congr 2
      funext c; rw [if_neg (by omega)]
    | succ k ih =>
      intro hk
      rw [← ih (by omega), ← h.addrow (M := Abs.und (fun c => if 0 < c ∧ c ≤ k then 0 else u c) oneR) (s := k + 1) (t := 0) (-(u (k + 1))) (by omega) (by omega) (by omega)]
      congr 1
      funext r c
      cases r with
      | zero =>
        cases c with
        | zero =>
          show (if 0 < 0 ∧ 0 ≤ k + 1 then 0 else u 0) = (if 0 < 0 ∧ 0 ≤ k then 0 else u 0) + -(u (k + 1)) * 0
          rw [if_neg (by omega), if_neg (by omega)]; grind
        | succ c =>
          show (if 0 < c + 1 ∧ c + 1 ≤ k + 1 then 0 else u (c + 1)) = (if 0 < c + 1 ∧ c + 1 ≤ k then 0 else u (c + 1)) + -(u (k + 1)) * (if k = c then 1 else 0)
          by_cases e : k = c
          · subst e; rw [if_pos ⟨by omega, Nat.le_refl _⟩, if_neg (by omega), if_pos rfl]; grind
          · rw [if_neg e]
            by_cases h2 : 0 < c + 1 ∧ c + 1 ≤ k
            · rw [if_pos ⟨h2.1, by omega⟩, if_pos h2]; grind
            · rw [if_neg (by omega), if_neg h2]; grind
      | succ r => rfl
  rw [← key n (Nat.le_refl n)]
  have e : ∀ r c, r < n + 1 → c < n + 1 → Abs.und (fun c => if 0 < c ∧ c ≤ n then 0 else u c) oneR r c = a0g oneR 0 (fun c => u 0 * oneR 0 c + 0 * oneR 0 c) r c := by
    intro r c hr hc
    cases r with
    | zero =>
      cases c with
      | zero =>
        show (if 0 < 0 ∧ 0 ≤ n then 0 else u 0) = u 0 * 1 + 0 * 1
        rw [if_neg (by omega)]; grind
      | succ c =>
        show (if 0 < c + 1 ∧ c + 1 ≤ n then 0 else u (c + 1)) = u 0 * 0 + 0 * 0
        rw [if_pos ⟨by omega, by omega⟩]; grind
    | succ r =>
      cases c with
      | zero => rfl
      | succ c =>
        show (if r = c then (1 : Rat) else 0) = if r + 1 = c + 1 then 1 else 0
        by_cases e : r = c
        · rw [if_pos e, if_pos (by omega)]
        · rw [if_neg e, if_neg (by omega)]
  rw [h.congr _ _ e, h.lin _ _ _ _ _ _ (by omega), a2a]
  grind
theorem Alt.uniq : ∀ {n : Nat} {F : (Nat → Nat → Rat) → Rat}, Alt n F → ∀ M, F M = F oneR * det n M
  | 0, F, h, M => by
    rw [h.congr M oneR fun r c hr => absurd hr (by omega)]
    simp only [det]; grind
  | n + 1, F, h, M => by
    have small : ∀ M : Nat → Nat → Rat, M 0 0 ≠ 0 → F M = F oneR * det (n + 1) M := by
      intro M h0
      have e : F M = F (Abs.und (M 0) (a2z M)) := by
        rw [← h.elim M n (by omega)]
        refine h.congr _ _ fun r c hr hc => ?_
        cases r with
        | zero => exact if_neg (by omega)
        | succ r =>
          have e1 : a4n M n (r + 1) c = M (r + 1) c + -(M (r + 1) 0 / M 0 0) * M 0 c := if_pos ⟨by omega, by omega⟩
          rw [e1]
          cases c with
          | zero => show _ = (0 : Rat); grind
          | succ c => show _ = M (r + 1) (c + 1) - M (r + 1) 0 / M 0 0 * M 0 (c + 1); grind
      have h1 := Alt.uniq (h.und (M 0)) (a2z M)
      have h2 := h.und_one (M 0)
      rw [e, h1, h2, a8j h0]
      grind
    by_cases h0 : ∀ r, r < n + 1 → M r 0 = 0
    · have e : F M = F (Abs.und (M 0) fun i k => M (i + 1) (k + 1)) := by
        refine h.congr _ _ fun r c hr hc => ?_
        cases r with
        | zero => rfl
        | succ r =>
          cases c with
          | zero => exact h0 (r + 1) hr
          | succ c => rfl
      have h1 := Alt.uniq (h.und (M 0)) fun i k => M (i + 1) (k + 1)
      have h2 := h.und_one (M 0)
      rw [e, h1, h2, h0 0 (by omega), b3z (t := 0) (by omega) h0]
      grind
    · obtain ⟨p, hp, hne⟩ : ∃ p, p < n + 1 ∧ M p 0 ≠ 0 := by
        refine Classical.byContradiction fun hq => h0 fun r hr => Classical.byContradiction fun hz => hq ⟨r, hr, hz⟩
      by_cases hp0 : p = 0
      · subst hp0; exact small M hne
      · have hs := small (a0t 0 p M) (by unfold a0t; rw [if_pos rfl]; exact hne)
        rw [h.swap (by omega) (by omega) hp, c0k (by omega) (by omega) hp] at hs
        grind
theorem c0m : ∀ n, det n oneR = 1
  | 0 => rfl
  | n + 1 => by
    have h0 : oneR 0 0 = 1 := if_pos rfl
    rw [a8j (by rw [h0]; decide), h0]
    have : det n (a2z oneR) = det n oneR := a0r fun r c _ _ => by
      unfold a2z oneR
      rw [if_neg (show ¬ r + 1 = 0 by omega)]
      by_cases e : r = c
      · rw [if_pos e, if_pos (by omega)]; grind
      · rw [if_neg e, if_neg (by omega)]; grind
    rw [this, c0m n]; grind
def mulR (n : Nat) (A B : Nat → Nat → Rat) : Nat → Nat → Rat := fun i k => sumR (fun j => A i j * B j k) n
theorem d3N (n : Nat) (A B : Nat → Nat → Rat) : det n (mulR n A B) = det n A * det n B := by
  have h : Alt n fun A => det n (mulR n A B) := by
    refine ⟨fun M N he => a0r fun r c hr hc => a0u fun j hj => by rw [he r j hr hj], fun M s t hst hs ht he => b1h hst hs ht fun c => a0u fun j _ => by rw [he j], fun M t x y u w ht => ?_⟩
    have e : ∀ v : Nat → Rat, mulR n (a0g M t v) B = a0g (mulR n M B) t fun c => sumR (fun j => v j * B j c) n := fun v => by
      funext r c
      unfold mulR a0g
      split <;> rfl
    show det n (mulR n (a0g M t _) B) = _ * det n (mulR n (a0g M t u) B) + _ * det n (mulR n (a0g M t w) B)
    rw [e, e, e, ← b1Z _ _ _ _ ht]
    congr 2
    funext c
    rw [← a2G]
    exact a0u fun j _ => by grind
  have h1 := h.uniq A
  have h2 : det n (mulR n oneR B) = det n B := a0r fun r c hr hc => by
    unfold mulR
    rw [a8q hr fun j _ hj => by unfold oneR; rw [if_neg (Ne.symm hj)]; grind]
    unfold oneR; rw [if_pos rfl]; grind
  show det n (mulR n A B) = _
  have h3 : det n (mulR n A B) = det n (mulR n oneR B) * det n A := h1
  rw [h3, h2]
  grind
theorem d1d (n : Nat) (A : Nat → Nat → Rat) : det n (fun i k => A k i) = det n A := by
  have h : Alt n fun A => det n fun i k => A k i := by
    refine ⟨fun M N he => a0r fun r c hr hc => he c r hc hr, fun M s t hst hs ht he => b9p hs ht hst he, fun M t x y u w ht => ?_⟩
    have e : ∀ v : Nat → Rat, (fun i k => a0g M t v k i) = a0s (fun i k => M k i) t v := fun v => by
      funext r c
      unfold a0g a0s
      rfl
    show det n (fun i k => a0g M t _ k i) = _ * det n (fun i k => a0g M t u k i) + _ * det n (fun i k => a0g M t w k i)
    rw [e, e, e, ← a8z _ _ _ _ ht]
  have h1 : det n (fun i k => A k i) = det n (fun i k => oneR k i) * det n A := h.uniq A
  have h2 : det n (fun i k => oneR k i) = det n oneR := a0r fun r c _ _ => by unfold oneR; by_cases e : r = c <;> simp [e, eq_comm]
  rw [h1, h2, c0m]
  grind
end Go.Abs
namespace Go.Abs
/-- A row left behind is the row less a combination of the heads' rows. -/
theorem c3J : ∀ (r : Nat) (M : Nat → Nat → Rat) (i : Nat), ∃ l : Nat → Rat, ∀ k, SS r M i k = M (r + i) (r + k) + sumR (fun j => l j * M j (r + k)) r
  | 0, M, i => ⟨fun _ => 0, fun k => by simp only [SS, sumR, Nat.zero_add]; grind⟩
  | r + 1, M, i => by
    obtain ⟨l, hl⟩ := c3J r M (i + 1)
    obtain ⟨m, hm⟩ := c3J r M 0
    refine ⟨fun j => if j < r then l j - SS r M (i + 1) 0 / SS r M 0 0 * m j else -(SS r M (i + 1) 0 / SS r M 0 0), fun k => ?_⟩
    rw [c3I]
    unfold a2z
    generalize SS r M (i + 1) 0 / SS r M 0 0 = c
    rw [hl, hm, sumR]
    show _ = M (r + 1 + i) (r + 1 + k) + (sumR (fun j => (if j < r then l j - c * m j else -c) * M j (r + 1 + k)) r + (if r < r then l r - c * m r else -c) * M r (r + 1 + k))
    rw [if_neg (Nat.lt_irrefl r)]
    have e : sumR (fun j => (if j < r then l j - c * m j else -c) * M j (r + 1 + k)) r = 1 * sumR (fun j => l j * M j (r + (k + 1))) r + (-c) * sumR (fun j => m j * M j (r + (k + 1))) r := by
      rw [← a2G]
      refine a0u fun j hj => ?_
      rw [if_pos hj, show r + 1 + k = r + (k + 1) by omega]; grind
    rw [e, show r + 1 + i = r + (i + 1) by omega, show r + 1 + k = r + (k + 1) by omega, Nat.add_zero]
    grind
theorem c1L {n t : Nat} {M : Nat → Nat → Rat} (ht : t < n) (l : Nat → Rat) : ∀ m, m ≤ t → det n (a0g M t fun c => sumR (fun j => l j * M j c) m) = 0
  | 0, _ => by
    have h := b1Z (M := M) 0 0 (M t) (M t) ht
    have e : (fun c => (0 : Rat) * M t c + 0 * M t c) = fun c => sumR (fun j => l j * M j c) 0 := by funext c; simp only [sumR]; grind
    rw [e] at h
    rw [h]; grind
  | m + 1, hm => by
    have h := b1Z (M := M) 1 (l m) (fun c => sumR (fun j => l j * M j c) m) (M m) ht
    have e : (fun c => (1 : Rat) * sumR (fun j => l j * M j c) m + l m * M m c) = fun c => sumR (fun j => l j * M j c) (m + 1) := by funext c; simp only [sumR]; grind
    have h0 : det n (a0g M t (M m)) = 0 := b1h (s := m) (t := t) (by omega) (by omega) ht fun c => by unfold a0g; rw [if_neg (by omega), if_pos rfl]
    rw [e, c1L ht l m (by omega), h0] at h
    rw [h]; grind
theorem c6r {n : Nat} {B : Nat → Nat → Rat} {cs : List Nat} {i : Nat} (hi : i < n) (hc : cs.length ≤ i) (h0 : ∀ k, k < n → a1U B cs i k = 0) : det n B = 0 := by
  obtain ⟨l, hl⟩ := c3J cs.length (a0v B cs) (i - cs.length)
  have hrow : ∀ k, k < n → B i k = sumR (fun j => -l j * B j k) cs.length := fun k hk => by
    have h1 := h0 k hk
    unfold a1U at h1
    rw [hl] at h1
    have e1 : a0v B cs (cs.length + (i - cs.length)) (cs.length + k) = B i k := by
      unfold a0v; rw [a1I, show cs.length + (i - cs.length) = i by omega]
    have e2 : sumR (fun j => l j * a0v B cs j (cs.length + k)) cs.length = -1 * sumR (fun j => -l j * B j k) cs.length + 0 * sumR (fun j => -l j * B j k) cs.length := by
      rw [← a2G]
      refine a0u fun j _ => ?_
      unfold a0v; rw [a1I]; grind
    rw [e1, e2] at h1
    grind
  rw [← c1L hi (fun j => -l j) cs.length hc]
  refine a0r fun r c hr hc => ?_
  unfold a0g
  by_cases e : r = i
  · rw [if_pos e, e]; exact hrow c hc
  · rw [if_neg e]
theorem c1w (n : Nat) (B : Nat → Nat → Rat) : ∀ t, det n (gproc n B t).B = if (gproc n B t).odd then -det n B else det n B
  | 0 => rfl
  | t + 1 => by
    have ih := c1w n B t
    rcases a0P (fun p => (gproc n B t).g p t) (gproc n B t).cs.length n with ⟨p, hf, h1, h2, h3, _⟩ | ⟨hf, h4⟩
    · have e : gproc n B (t + 1) = _ := a0H hf
      rw [e]
      show det n (a0t p (gproc n B t).cs.length (gproc n B t).B) = if (if p = (gproc n B t).cs.length then (gproc n B t).odd else !(gproc n B t).odd) = true then -det n B else det n B
      by_cases hp : p = (gproc n B t).cs.length
      · rw [if_pos hp, hp, c5f]; exact ih
      · rw [if_neg hp, c0k hp h2 (by omega), ih]
        cases (gproc n B t).odd <;> simp <;> grind
    · have e : gproc n B (t + 1) = _ := a1O hf
      rw [e]; exact ih
theorem b1U {n : Nat} {B : Nat → Nat → Rat} : ∀ t, (gproc n B t).cs.length = t → ∀ b, b < t → (gproc n B t).cs.getD b 0 = b
  | 0, _, _, h => absurd h (by omega)
  | t + 1, hl, b, hb => by
    rcases a0P (fun p => (gproc n B t).g p t) (gproc n B t).cs.length n with ⟨p, hf, h1, h2, h3, _⟩ | ⟨hf, h4⟩
    · have e : gproc n B (t + 1) = _ := a0H hf
      rw [e] at hl ⊢
      simp only [a1N] at hl
      show ((gproc n B t).cs ++ [t]).getD b 0 = b
      have ht : (gproc n B t).cs.length = t := by omega
      by_cases hbt : b = t
      · subst hbt; simp [List.getD_eq_getElem?_getD, ht]
      · have := b1U t ht b (by omega)
        rw [List.getD_eq_getElem?_getD, List.getElem?_append_left (by omega), ← List.getD_eq_getElem?_getD]; exact this
    · have e : gproc n B (t + 1) = gproc n B t := a1O hf
      rw [e] at hl
      have := a5o n B t
      omega
theorem d1Y {n : Nat} {B : Nat → Nat → Rat} (hB : ∀ i k, ∃ z : Int, B i k = z) : dv n B n = det n B := by
  have hs := c1w n B n
  unfold dv
  by_cases h : (gproc n B n).cs.length = n
  · rw [if_pos h]
    have e : (gproc n B n).last = det n (gproc n B n).B := by
      unfold GS.last a4a
      rw [h]
      refine a0r fun r c _ hc => ?_
      unfold a0v colm
      rw [if_pos (by omega), b1U n h c hc]
    rw [e, hs]
    cases (gproc n B n).odd <;> simp
  · have hlt := a5o n B n
    rw [if_neg h]
    have h0 := c6r (n := n) (B := (gproc n B n).B) (cs := (gproc n B n).cs) (i := (gproc n B n).cs.length) (by omega) (Nat.le_refl _) fun k hk => c1B hB n _ k (Nat.le_refl _) (by omega) hk
    rw [h0] at hs
    cases hodd : (gproc n B n).odd <;> rw [hodd] at hs <;> simp at hs <;> grind
end Go.Abs
namespace Go.Abs
theorem c6S {f : Nat → Rat} {r : Nat} : ∀ {n : Nat}, r ≤ n → (∀ j, r ≤ j → j < n → f j = 0) → sumR f n = sumR f r
  | 0, h, _ => by rw [show r = 0 by omega]
  | n + 1, h, h0 => by
    by_cases e : r = n + 1
    · rw [e]
    · show sumR f n + f n = _
      rw [c6S (n := n) (by omega) fun j h1 h2 => h0 j h1 (by omega), h0 n (by omega) (by omega)]
      grind
section
variable {n : Nat} {B : Nat → Nat → Rat}
theorem c3Y : ∀ t a, a < n → ∃ a', a' < n ∧ ∀ k, (gproc n B t).B a' k = B a k
  | 0, a, h => ⟨a, h, fun _ => rfl⟩
  | t + 1, a, h => by
    obtain ⟨a1, h1, h2⟩ := c3Y t a h
    rcases a0P (fun p => (gproc n B t).g p t) (gproc n B t).cs.length n with ⟨p, hf, g1, g2, g3, _⟩ | ⟨hf, h4⟩
    · have e : gproc n B (t + 1) = _ := a0H hf
      rw [e]
      refine ⟨if a1 = p then (gproc n B t).cs.length else if a1 = (gproc n B t).cs.length then p else a1, ?_, fun k => ?_⟩
      · split
        · omega
        · split <;> omega
      · rw [← h2 k]
        show a0t p (gproc n B t).cs.length (gproc n B t).B _ k = _
        unfold a0t
        by_cases e1 : a1 = p
        · rw [if_pos e1]
          by_cases e2 : (gproc n B t).cs.length = p
          · rw [if_pos e2, e1, e2]
          · rw [if_neg e2, if_pos rfl, e1]
        · rw [if_neg e1]
          by_cases e2 : a1 = (gproc n B t).cs.length
          · rw [if_pos e2, if_pos rfl, e2]
          · rw [if_neg e2, if_neg e1, if_neg e2]
    · have e : gproc n B (t + 1) = _ := a1O hf
      rw [e]; exact ⟨a1, h1, h2⟩
variable (hB : ∀ i k, ∃ z : Int, B i k = z)
include hB
/-- Every row, over the columns gone through, from its entries at the a0v. -/
theorem b4L {t a k : Nat} (ha : a < n) (hk : k < t) : B a k = sumR (fun i => B a ((gproc n B t).cs.getD i 0) * (a4b n B t).M i k) (gproc n B t).cs.length := by
  obtain ⟨a', h1, h2⟩ := c3Y (n := n) (B := B) t a ha
  have hok := b3X (n := n) hB t
  have hu := hok.up a' k
  rw [a4V] at hu
  have hz : (if (gproc n B t).cs.length ≤ a' then (a4b n B t).M a' k else 0) = 0 := by
    split
    · rename_i h
      rw [hok.low a' k (by rw [a4V]; exact h), a4V]
      exact c1B hB t a' k h h1 hk
    · rfl
  rw [hz] at hu
  rw [← h2 k, hu]
  have : sumR (fun i => (gproc n B t).B a' ((gproc n B t).cs.getD i 0) * (a4b n B t).M i k) (gproc n B t).cs.length = sumR (fun i => B a ((gproc n B t).cs.getD i 0) * (a4b n B t).M i k) (gproc n B t).cs.length := a0u fun i _ => by rw [h2]
  rw [this]; grind
end
end Go.Abs
namespace Go.Abs
theorem c0M (f : Nat → Rat) : ∀ n k, k < n + 1 → sumR f (n + 1) = f k + sumR (fun j => f (skip k j)) n
  | 0, k, h => by
    have : k = 0 := by omega
    subst this
    simp only [sumR]; grind
  | n + 1, k, h => by
    by_cases e : k = n + 1
    · subst e
      have : sumR (fun j => f (skip (n + 1) j)) (n + 1) = sumR f (n + 1) := a0u fun j hj => by rw [skip, if_pos (by omega)]
      rw [this, sumR]; grind
    · have h2 : skip k n = n + 1 := by rw [skip, if_neg (by omega)]
      show sumR f (n + 1) + f (n + 1) = _
      rw [c0M f n k (by omega)]
      show _ = f k + (sumR (fun j => f (skip k j)) n + f (skip k n))
      rw [h2]; grind
theorem b4G (n : Nat) : sg (n + 1) = -sg n := rfl
theorem c6Y (k j r : Nat) : skip k (skip j r) = skip (skip k j) (skip (a6O (skip k j) k) r) := by
  unfold skip a6O
  repeat' split
  all_goals omega
/-- A column that is 1 in row k and 0 elsewhere. -/
theorem b6X : ∀ {n t k : Nat} (A : Nat → Nat → Rat), t < n + 1 → k < n + 1 → det (n + 1) (a0s A t fun r => if r = k then 1 else 0) = sg (t + k) * det n fun r c => A (skip k r) (skip t c)
  | n, 0, k, A, _, hk => by
    unfold det
    rw [a8q (t := k) hk fun i _ hi => by
      have : a0s A 0 (fun r => if r = k then (1 : Rat) else 0) i 0 = 0 := by
        unfold a0s
        rw [if_pos rfl]
        exact if_neg hi
      rw [this]; grind]
    have e1 : a0s A 0 (fun r => if r = k then (1 : Rat) else 0) k 0 = 1 := by
      unfold a0s
      rw [if_pos rfl]
      exact if_pos rfl
    have e2 : (fun r c => a0s A 0 (fun r => if r = k then (1 : Rat) else 0) (skip k r) (c + 1)) = fun r c => A (skip k r) (skip 0 c) := by
      funext r c
      unfold a0s
      rw [if_neg (by omega)]; rfl
    rw [e1, e2, Nat.zero_add]
    cases n with
    | zero => simp only [det]; grind
    | succ n => rw [show det (n + 1) (fun r c => A (skip k r) (skip 0 c)) = sumR (fun i => sg i * A (skip k i) (skip 0 0) * det n fun r c => A (skip k (skip i r)) (skip 0 (c + 1))) (n + 1) from rfl]; grind
  | 0, t + 1, k, A, ht, _ => absurd ht (by omega)
  | n + 1, t + 1, k, A, ht, hk => by
    rw [show det (n + 1 + 1) (a0s A (t + 1) fun r => if r = k then 1 else 0) = sumR (fun i => sg i * a0s A (t + 1) (fun r => if r = k then 1 else 0) i 0 * det (n + 1) fun r c => a0s A (t + 1) (fun r => if r = k then 1 else 0) (skip i r) (c + 1)) (n + 1 + 1) from rfl]
    rw [c0M _ (n + 1) k hk]
    have hz : det (n + 1) (fun r c => a0s A (t + 1) (fun r => if r = k then (1 : Rat) else 0) (skip k r) (c + 1)) = 0 := by
      rw [a2R]
      exact a4o (t := t) (by omega) fun r => by
        unfold a0s
        rw [if_pos rfl]
        exact if_neg (c2u k r)
    have hterm : ∀ j, j < n + 1 → sg (skip k j) * a0s A (t + 1) (fun r => if r = k then (1 : Rat) else 0) (skip k j) 0 * det (n + 1) (fun r c => a0s A (t + 1) (fun r => if r = k then 1 else 0) (skip (skip k j) r) (c + 1)) =
        sg (t + 1 + k) * (sg j * A (skip k j) (skip (t + 1) 0) * det n fun r c => A (skip k (skip j r)) (skip (t + 1) (c + 1))) := fun j hj => by
      have hne : skip k j ≠ k := c2u k j
      have hlt : skip k j < n + 1 + 1 := c2v hj
      have hu : (fun r => if skip (skip k j) r = k then (1 : Rat) else 0) = fun r => if r = a6O (skip k j) k then (1 : Rat) else 0 := by
        funext r
        have := b7S (r := r) hne
        simp only [this]
      rw [a2R, hu, b6X (n := n) (t := t) (k := a6O (skip k j) k) _ (by omega) (by unfold a6O; split <;> omega)]
      have e1 : a0s A (t + 1) (fun r => if r = k then (1 : Rat) else 0) (skip k j) 0 = A (skip k j) (skip (t + 1) 0) := by
        unfold a0s
        rw [if_neg (by omega), skip, skip, if_pos (show 0 < t + 1 by omega)]
      have e2 : (fun r c => A (skip (skip k j) (skip (a6O (skip k j) k) r)) (skip t c + 1)) = fun r c => A (skip k (skip j r)) (skip (t + 1) (c + 1)) := by
        funext r c
        rw [← c6Y]
        congr 1
        unfold skip
        repeat' split
        all_goals omega
      have es : sg (skip k j) * sg (t + a6O (skip k j) k) = sg (t + 1 + k) * sg j := by
        by_cases h : j < k
        · have h1 : skip k j = j := by rw [skip, if_pos h]
          have h2 : a6O j k = k - 1 := by rw [a6O, if_neg (by omega)]
          rw [h1, h2, show t + 1 + k = t + (k - 1) + 1 + 1 by omega, b4G, b4G]; grind
        · have h1 : skip k j = j + 1 := by rw [skip, if_neg h]
          have h2 : a6O (j + 1) k = k := by rw [a6O, if_pos (by omega)]
          rw [h1, h2, show t + 1 + k = t + k + 1 by omega, b4G, b4G]; grind
      rw [e1]
      show sg (skip k j) * A (skip k j) (skip (t + 1) 0) * (sg (t + a6O (skip k j) k) * det n fun r c => A (skip (skip k j) (skip (a6O (skip k j) k) r)) (skip t c + 1)) = _
      rw [e2]
      generalize (det n fun r c => A (skip k (skip j r)) (skip (t + 1) (c + 1))) = d
      generalize A (skip k j) (skip (t + 1) 0) = a
      generalize sg (skip k j) = s1 at *
      generalize sg (t + a6O (skip k j) k) = s2 at *
      generalize sg (t + 1 + k) = s3 at *
      generalize sg j = s4 at *
      have : s1 * a * (s2 * d) = (s1 * s2) * (a * d) := by grind
      rw [this, es]; grind
    rw [hz, a0u hterm]
    rw [show det (n + 1) (fun r c => A (skip k r) (skip (t + 1) c)) = sumR (fun i => sg i * A (skip k i) (skip (t + 1) 0) * det n fun r c => A (skip k (skip i r)) (skip (t + 1) (c + 1))) (n + 1) from rfl]
    have := a2G (sg (t + 1 + k)) 0 (fun i => sg i * A (skip k i) (skip (t + 1) 0) * det n fun r c => A (skip k (skip i r)) (skip (t + 1) (c + 1))) (fun _ => 0) (n + 1)
    have e0 : (fun i => sg (t + 1 + k) * (sg i * A (skip k i) (skip (t + 1) 0) * det n fun r c => A (skip k (skip i r)) (skip (t + 1) (c + 1))) + (0 : Rat) * (fun _ => (0 : Rat)) i) = fun i => sg (t + 1 + k) * (sg i * A (skip k i) (skip (t + 1) 0) * det n fun r c => A (skip k (skip i r)) (skip (t + 1) (c + 1))) := by funext i; grind
    rw [e0] at this
    rw [this]; grind
/-- The matrix with the unit behind it. -/
def a2S (n : Nat) (B : Nat → Nat → Rat) : Nat → Nat → Rat := fun i k => if k < n then B i k else if k < 2 * n then (if i = k - n then 1 else 0) else 0
section
variable {n : Nat} {B : Nat → Nat → Rat} (hB : ∀ i k, ∃ z : Int, B i k = z)
include hB
theorem b4d : ∀ i k, ∃ z : Int, a2S n B i k = z := fun i k => by
  unfold a2S
  split
  · exact hB i k
  · split
    · split
      · exact ⟨1, rfl⟩
      · exact ⟨0, rfl⟩
    · exact ⟨0, rfl⟩
theorem d0M : (gproc n B n).cs.length = n ↔ det n B ≠ 0 := by
  rw [← d1Y hB]
  unfold dv
  constructor
  · intro h
    rw [if_pos h]
    have h0 : (gproc n B n).last ≠ 0 := b0P (a3v (n := n) hB n).piv
    split
    · intro h1; exact h0 (by grind)
    · exact h0
  · intro h
    refine Classical.byContradiction fun hne => h ?_
    rw [if_neg hne]
omit hB in
theorem d1o : det n (a2S n B) = det n B := a0r fun r c _ hc => by unfold a2S; rw [if_pos hc]
omit hB in
/-- Past full rank nothing is added. -/
theorem c8M {C : Nat → Nat → Rat} (hC : ∀ i k, ∃ z : Int, C i k = z) {t : Nat} (h : (gproc n C t).cs.length = n) : ∀ s, (gproc n C (t + s)).cs = (gproc n C t).cs
  | 0 => rfl
  | s + 1 => by
    have ih := c8M hC h s
    have hl := (a3v (n := n) hC (t + s + 1)).len
    rcases a0P (fun p => (gproc n C (t + s)).g p (t + s)) (gproc n C (t + s)).cs.length n with ⟨p, hf, h1, h2, h3, _⟩ | ⟨hf, h4⟩
    · rw [ih, h] at h1; omega
    · have e : gproc n C (t + s + 1) = gproc n C (t + s) := a1O hf
      show (gproc n C (t + s + 1)).cs = _
      rw [e, ih]
variable (hd : det n B ≠ 0)
include hd
theorem c9a : (gproc n (a2S n B) (2 * n)).cs.length = n ∧ ∀ i, i < n → (gproc n (a2S n B) (2 * n)).cs.getD i 0 = i := by
  have h1 : (gproc n (a2S n B) n).cs.length = n := (d0M (b4d hB)).2 (by rw [d1o]; exact hd)
  have h2 := c8M (b4d (n := n) hB) h1 n
  rw [show n + n = 2 * n by omega] at h2
  rw [h2]
  exact ⟨h1, b1U n h1⟩
/-- The right half is the inverse: times the determinant it is the cofactors. -/
theorem c3e {i c : Nat} (hi : i < n) (hc : c < n) : (a4b n (a2S n B) (2 * n)).M i (n + c) * det n B = det n (a0s B i fun r => if r = c then 1 else 0) := by
  obtain ⟨h1, h2⟩ := c9a hB hd
  have hcr := c8N (A := B) (fun j => (a4b n (a2S n B) (2 * n)).M j (n + c)) hi n (Nat.le_refl n)
  rw [if_pos hi] at hcr
  rw [← hcr]
  refine a0r fun r k hr hk => ?_
  unfold a0s
  by_cases e : k = i
  · rw [if_pos e, if_pos e]
    have := b4L (n := n) (b4d (n := n) hB) (t := 2 * n) (a := r) (k := n + c) hr (by omega)
    rw [h1] at this
    have e1 : a2S n B r (n + c) = if r = c then 1 else 0 := by
      unfold a2S
      rw [if_neg (by omega), if_pos (by omega), show n + c - n = c by omega]
    rw [e1] at this
    show _ = if r = c then (1 : Rat) else 0
    rw [this]
    refine a0u fun j hj => ?_
    rw [h2 j hj]
    have : a2S n B r j = B r j := by unfold a2S; rw [if_pos hj]
    rw [this]
  · rw [if_neg e, if_neg e]
end
end Go.Abs
namespace Go.Abs
section
variable {n : Nat} {B : Nat → Nat → Rat}
theorem b4N : ∀ t a, a < n → ∃ a', a' < n ∧ ∀ k, (gproc n B t).B a k = B a' k
  | 0, a, h => ⟨a, h, fun _ => rfl⟩
  | t + 1, a, h => by
    rcases a0P (fun p => (gproc n B t).g p t) (gproc n B t).cs.length n with ⟨p, hf, g1, g2, g3, _⟩ | ⟨hf, h4⟩
    · have e : gproc n B (t + 1) = _ := a0H hf
      rw [e]
      obtain ⟨b, _, hb, hbb⟩ : ∃ b, True ∧ b < n ∧ ∀ k, a0t p (gproc n B t).cs.length (gproc n B t).B a k = (gproc n B t).B b k := by
        by_cases e1 : a = p
        · exact ⟨(gproc n B t).cs.length, trivial, by omega, fun k => by unfold a0t; rw [if_pos e1]⟩
        · by_cases e2 : a = (gproc n B t).cs.length
          · exact ⟨p, trivial, g2, fun k => by unfold a0t; rw [if_neg e1, if_pos e2]⟩
          · exact ⟨a, trivial, h, fun k => by unfold a0t; rw [if_neg e1, if_neg e2]⟩
      obtain ⟨a', h1, h2⟩ := b4N t b hb
      exact ⟨a', h1, fun k => by rw [← h2 k]; exact hbb k⟩
    · have e : gproc n B (t + 1) = _ := a1O hf
      rw [e]
      exact b4N t a h
variable (hB : ∀ i k, ∃ z : Int, B i k = z)
include hB
/-- As many a0v as a minor that is not 0 has rows. -/
theorem d0q {c r : Nat} {f g : Nat → Nat} (hf : ∀ i, i < r → f i < n) (hg : ∀ i, i < r → g i < c) (hd : det r (fun i k => B (f i) (g k)) ≠ 0) : r ≤ (gproc n B c).cs.length := by
  refine Classical.byContradiction fun hne => hd ?_
  have hlt : (gproc n B c).cs.length < r := by omega
  have e2 : det r (fun i k => B (f i) (g k)) = det r (mulR r (fun i t => if t < (gproc n B c).cs.length then B (f i) ((gproc n B c).cs.getD t 0) else 0) fun t k => (a4b n B c).M t (g k)) := by
    refine a0r fun i k hi hk => ?_
    rw [b4L hB (hf i hi) (hg k hk)]
    unfold mulR
    rw [c6S (r := (gproc n B c).cs.length) (n := r) (by omega) fun j h1 h2 => by show (if j < (gproc n B c).cs.length then _ else _) * _ = (0 : Rat); rw [if_neg (by omega)]; grind]
    exact a0u fun j hj => by show _ = (if j < (gproc n B c).cs.length then _ else _) * _; rw [if_pos hj]
  rw [e2, d3N, a4o hlt fun r => by rw [if_neg (Nat.lt_irrefl _)]]
  grind
/-- And such a minor is there. -/
theorem d0r (c : Nat) : ∃ f g : Nat → Nat, (∀ i, i < (gproc n B c).cs.length → f i < n) ∧ (∀ i, i < (gproc n B c).cs.length → g i < c) ∧ det (gproc n B c).cs.length (fun i k => B (f i) (g k)) ≠ 0 := by
  have hok := a3v (n := n) hB c
  have hl := hok.len
  have hex : ∀ a, ∃ a', a < n → a' < n ∧ ∀ k, (gproc n B c).B a k = B a' k := fun a => by
    by_cases h : a < n
    · obtain ⟨a', h1, h2⟩ := b4N (n := n) (B := B) c a h
      exact ⟨a', fun _ => ⟨h1, h2⟩⟩
    · exact ⟨0, fun h' => absurd h' h⟩
  refine ⟨fun a => Classical.choose (hex a), fun k => (gproc n B c).cs.getD k 0, fun i hi => (Classical.choose_spec (hex i) (by omega)).1, fun i hi => b9q hi, ?_⟩
  have h0 := b0P hok.piv
  unfold a4a at h0
  have e1 : det (gproc n B c).cs.length (a0v (gproc n B c).B (gproc n B c).cs) = det (gproc n B c).cs.length fun i k => B (Classical.choose (hex i)) ((gproc n B c).cs.getD k 0) := by
    refine a0r fun r k hr hk => ?_
    unfold a0v colm
    rw [if_pos hk]
    exact (Classical.choose_spec (hex r) (by omega)).2 _
  rw [e1] at h0
  exact h0
/-- The columns' rank is not below the rows'. -/
theorem b2z {m : Nat} {T : Nat → Nat → Rat} (hT : ∀ i k, ∃ z : Int, T i k = z) (hTB : ∀ i k, i < m → k < n → T i k = B k i) : (gproc n B m).cs.length ≤ (gproc m T n).cs.length := by
  obtain ⟨f, g, hf, hg, hd⟩ := d0r hB m
  refine d0q hT (f := g) (g := f) hg hf ?_
  rw [← d1d] at hd
  intro h
  apply hd
  rw [← h]
  exact a0r fun i k hi hk => (hTB _ _ (hg i hi) (hf k hk)).symm
theorem c7p {m : Nat} {T : Nat → Nat → Rat} (hT : ∀ i k, ∃ z : Int, T i k = z) (hTB : ∀ i k, i < m → k < n → T i k = B k i) : (gproc m T n).cs.length = (gproc n B m).cs.length :=
  Nat.le_antisymm (b2z hT hB fun i k hi hk => (hTB k i hk hi).symm) (b2z hB hT hTB)
end
end Go.Abs
namespace Go.Abs
open Go.Proofs
noncomputable abbrev Pr : Program := Try.prog
abbrev a2x : FuncId := 12
abbrev a4t : FuncId := 14
abbrev a8E : FuncId := 23
abbrev b2j : FuncId := 24
abbrev a1W : FuncId := 31
abbrev a6k : FuncId := 33
abbrev a8D : FuncId := 34
abbrev a3E : FuncId := 36
abbrev a6i : FuncId := 37
abbrev a3F : FuncId := 38
abbrev a8C : FuncId := 43
abbrev a0V : FuncId := 44
abbrev a6j : FuncId := 45
abbrev b0h : FuncId := 46
abbrev a4P : FuncId := 49
abbrev a1V : FuncId := 50
abbrev a3B : FuncId := 55
abbrev a5z : FuncId := 56
abbrev a5d : FuncId := 58
abbrev b2h : FuncId := 59
abbrev a4q : FuncId := 60
abbrev a4s : FuncId := 66
abbrev a4O : FuncId := 67
abbrev a2b : FuncId := 70
abbrev a6f : FuncId := 71
abbrev a0C : FuncId := 73
abbrev a5e : FuncId := 74
abbrev a2w : FuncId := 75
abbrev a6h : FuncId := 76
abbrev a5x : FuncId := 77
abbrev a2T : FuncId := 78
abbrev b2i : FuncId := 82
abbrev a5f : FuncId := 83
abbrev a3A : FuncId := 84
abbrev a6l : FuncId := 85
abbrev a5u : FuncId := 86
abbrev a4r : FuncId := 92
abbrev b2g : FuncId := 101
abbrev a3G : FuncId := 102
abbrev a0i : FuncId := 103
abbrev b1o : FuncId := 104
abbrev a0R : FuncId := 109
abbrev b7m : FuncId := 117
abbrev a5y : FuncId := 118
abbrev b7l : FuncId := 119
abbrev a5w : FuncId := 120
abbrev b0g : FuncId := 121
abbrev a0W : FuncId := 122
abbrev b1n : FuncId := 123
abbrev a6g : FuncId := 124
abbrev b1m : FuncId := 125
abbrev a5v : FuncId := 136
def c9B : ByteArray := ⟨#[0, 1, 2, 2, 3, 3, 3, 3, 4, 4, 4, 4, 4, 4, 4, 4, 5, 5, 5, 5, 5, 5, 5, 5, 5, 5, 5, 5, 5, 5, 5, 5, 6, 6, 6, 6, 6, 6, 6, 6, 6, 6, 6, 6, 6, 6, 6, 6, 6, 6, 6, 6, 6, 6, 6, 6, 6, 6, 6, 6, 6, 6, 6, 6, 7, 7, 7, 7, 7, 7, 7, 7, 7, 7, 7, 7, 7, 7, 7, 7, 7, 7, 7, 7, 7, 7, 7, 7, 7, 7, 7, 7, 7, 7, 7, 7, 7, 7, 7, 7, 7, 7, 7, 7, 7, 7, 7, 7, 7, 7, 7, 7, 7, 7, 7, 7, 7, 7, 7, 7, 7, 7, 7, 7, 7, 7, 7, 7, 8, 8, 8, 8, 8, 8, 8, 8, 8, 8, 8, 8, 8, 8, 8, 8, 8, 8, 8, 8, 8, 8, 8, 8, 8, 8, 8, 8, 8, 8, 8, 8, 8, 8, 8, 8, 8, 8, 8, 8, 8, 8, 8, 8, 8, 8, 8, 8, 8, 8, 8, 8, 8, 8, 8, 8, 8, 8, 8, 8, 8, 8, 8, 8, 8, 8, 8, 8, 8, 8, 8, 8, 8, 8, 8, 8, 8, 8, 8, 8, 8, 8, 8, 8, 8, 8, 8, 8, 8, 8, 8, 8, 8, 8, 8, 8, 8, 8, 8, 8, 8, 8, 8, 8, 8, 8, 8, 8, 8, 8, 8, 8, 8, 8, 8, 8, 8, 8, 8, 8, 8, 8, 8, 8, 8, 8, 8, 8]⟩
end Go.Abs

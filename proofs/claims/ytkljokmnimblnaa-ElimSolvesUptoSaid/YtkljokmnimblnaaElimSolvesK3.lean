/- Part 3 of the proof of ElimSolves: A23, M1, D1, D2, D3, D4, D5, D6, D9, D10, D11, L1, L2, L3, L4, L5, L6, L7, L8, L9, L10, L11, L12, Num. -/
import Derived.Test.YtkljokmnimblnaaElimSolvesK2
import Derived.Test.YtkljokmnimblnaaProg
set_option linter.unusedVariables false
set_option linter.unusedSimpArgs false
namespace Go.Abs
theorem HOk.hrefs {φ : Nat → Option Nat} {H : Heap} {w : World} (h : HOk ⟨φ, H, w⟩) : a0E H := fun id b hb a ha => h.refs (E := ⟨φ, H, w⟩) hb a ha
/-- A row of what is handed out is no longer written. -/
theorem a0n.frz {P : Program} {f : FuncId} {args : List AV} {H : Heap} {R R2 : AV → Heap → Prop} (h : a0n P f args H R)
    (hR : a0E H → ∀ r H', R r H' → ∃ id b, H'[id]? = some (some b) ∧ (∀ c ∈ b.flat, Cl c) ∧ R2 (Abs.frz id b r) (frzH id b H')) : a0n P f args H R2 := by
  refine ⟨h.1, fun φ w vs hok hl hrep => (h.2 φ w vs hok hl hrep).mono ?_⟩
  rintro e w' ⟨v, r, φ', H', rfl, hr, q1, q2, q3, q4⟩
  obtain ⟨id, b, h1, h2, h3⟩ := hR hok.hrefs r H' hr
  exact ⟨v, _, φ', _, rfl, h3, e0y q1 h1 h2, c9T q1 h1 h2 q2, by simpa [frzH] using q3, q4.trans ((c9V (E := ⟨φ', H', w'⟩)).sub fun _ _ => trivial)⟩
theorem e2C {P : Nat → Prop} {id : Nat} {b : Blk} {a : AV} (h : Ref P a) : Ref P (frz id b a) := by
  induction h with
  | top => simp only [frz]; exact .top
  | int k n => simp only [frz]; exact .int k n
  | bool b' => simp only [frz]; exact .bool b'
  | str s => simp only [frz]; exact .str s
  | nil => simp only [frz]; exact .nil
  | lit v => simp only [frz]; exact .lit v
  | sl wd xs => simp only [frz]; exact .sl wd xs
  | ro x off => simp only [frz]; exact .ro x off
  | mu i off len oc h =>
    simp only [frz]; split
    · split
      · exact .sl _ _
      · exact .top
    · exact .mu i off len oc h
  | loc i k off h =>
    simp only [frz]; split
    · split
      · exact .ro _ _
      · exact .top
    · exact .loc i k off h
  | agg cs h ih => simp only [frz]; exact .agg _ fun c hc => by obtain ⟨d, hd, rfl⟩ := List.mem_map.1 hc; exact ih d hd
  | tup cs h ih => simp only [frz]; exact .tup _ fun c hc => by obtain ⟨d, hd, rfl⟩ := List.mem_map.1 hc; exact ih d hd
  | fn f cs h ih => simp only [frz]; exact .fn f _ fun c hc => by obtain ⟨d, hd, rfl⟩ := List.mem_map.1 hc; exact ih d hd
theorem d2P {H : Heap} (h : a0E H) (id : Nat) (b : Blk) : a0E (frzH id b H) := by
  intro j x hx a ha
  obtain ⟨_, y, hy, rfl⟩ := a2T hx
  rw [b7I] at ha
  obtain ⟨c, hc, rfl⟩ := List.mem_map.1 ha
  have := e2C (id := id) (b := b) (h j y hy c hc)
  simpa [frzH] using this
theorem e0B {G : Heap} {β n m : Nat} {O : List AV} {R : Nat → Option Blk} (hG : β + n < G.length) (hm' : m < n) (b : Blk) : frzH (β + 1 + m) b (hm G β n O R) = hm (frzH (β + 1 + m) b G) β n (O.map (frz (β + 1 + m) b)) (fun t => if t = m then none else (R t).map (frzB (β + 1 + m) b)) := by
  apply List.ext_getElem?
  intro j
  have hl : (frzH (β + 1 + m) b G).length = G.length := by simp [frzH]
  rcases Nat.lt_or_ge j G.length with hj | hj
  · rw [c9W, a1L G _ _ _ _ j hj, a1L (frzH (β + 1 + m) b G) _ _ _ _ j (by omega), a1K, c9W]
    by_cases h1 : j = β
    · rw [if_neg (by omega), if_pos h1, if_pos h1]; rfl
    · rw [if_neg h1, if_neg h1]
      by_cases h2 : β < j ∧ j ≤ β + n
      · rw [if_pos h2, if_pos h2]
        by_cases h3 : j = β + 1 + m
        · rw [if_pos h3, if_pos (by omega), if_pos (by omega)]
        · rw [if_neg h3, if_neg (by omega)]; rfl
      · rw [if_neg h2, if_neg h2, if_neg (by omega)]
  · rw [List.getElem?_eq_none (by simp [frzH, a1K]; exact hj), List.getElem?_eq_none (by rw [a1K, hl]; exact hj)]
end Go.Abs
set_option linter.unusedVariables false
set_option linter.unusedSimpArgs false
namespace Go.Abs
abbrev LB : Nat := 4294967296
def val : List Nat → Nat
  | [] => 0
  | d :: l => d + LB * val l
def Lim (l : List Nat) : Prop := ∀ d ∈ l, d < LB
/-- The limbs of a number, no nought at the end. -/
def limbs (n : Nat) : List Nat := if h : n = 0 then [] else n % LB :: limbs (n / LB)
termination_by n
decreasing_by exact Nat.div_lt_self (by omega) (by decide)
theorem a0G : limbs 0 = [] := by rw [limbs]; simp
theorem a6i {n : Nat} (h : n ≠ 0) : limbs n = n % LB :: limbs (n / LB) := by rw [limbs]; simp [h]
theorem a0b (n : Nat) : val (limbs n) = n := by
  induction n using Nat.strongRecOn with
  | _ n ih =>
    by_cases h : n = 0
    · subst h; rw [a0G]; rfl
    · rw [a6i h, val, ih (n / LB) (Nat.div_lt_self (by omega) (by decide))]
      exact Nat.mod_add_div n LB
theorem a0c (n : Nat) : Lim (limbs n) := by
  induction n using Nat.strongRecOn with
  | _ n ih =>
    by_cases h : n = 0
    · subst h; rw [a0G]; intro d hd; simp at hd
    · rw [a6i h]
      intro d hd
      rcases List.mem_cons.1 hd with rfl | hd
      · exact Nat.mod_lt _ (by decide)
      · exact ih (n / LB) (Nat.div_lt_self (by omega) (by decide)) d hd
theorem b9c : Lim [] := fun d hd => by simp at hd
theorem c9K {d : Nat} {l : List Nat} : Lim (d :: l) ↔ d < LB ∧ Lim l := by
  constructor
  · intro h; exact ⟨h d (by simp), fun e he => h e (by simp [he])⟩
  · rintro ⟨h1, h2⟩ e he
    rcases List.mem_cons.1 he with rfl | he
    · exact h1
    · exact h2 e he
theorem b9e {a b : List Nat} : Lim (a ++ b) ↔ Lim a ∧ Lim b := by
  constructor
  · intro h; exact ⟨fun d hd => h d (by simp [hd]), fun d hd => h d (by simp [hd])⟩
  · rintro ⟨h1, h2⟩ d hd
    rcases List.mem_append.1 hd with hd | hd
    · exact h1 d hd
    · exact h2 d hd
theorem Lim.take {l : List Nat} (h : Lim l) (n : Nat) : Lim (l.take n) := fun d hd => h d (List.mem_of_mem_take hd)
theorem Lim.drop {l : List Nat} (h : Lim l) (n : Nat) : Lim (l.drop n) := fun d hd => h d (List.mem_of_mem_drop hd)
theorem a7O (a b : List Nat) : val (a ++ b) = val a + LB ^ a.length * val b := by
  induction a with
  | nil => simp [val]
  | cons d a ih =>
    simp only [List.cons_append, val, ih, List.length_cons]
    rw [Nat.mul_add, ← Nat.mul_assoc, ← Nat.pow_succ', Nat.add_assoc]
theorem a0Z {l : List Nat} (h : Lim l) : val l < LB ^ l.length := by
  induction l with
  | nil => simp [val]
  | cons d l ih =>
    have h' := c9K.1 h
    have := ih h'.2
    simp only [val, List.length_cons, Nat.pow_succ']
    have h1 : LB * (val l + 1) ≤ LB * LB ^ l.length := Nat.mul_le_mul_left _ this
    rw [Nat.mul_add, Nat.mul_one] at h1
    have := h'.1
    omega
theorem b5m (n : Nat) : val (List.replicate n 0) = 0 := by
  induction n with
  | zero => rfl
  | succ n ih => simp [List.replicate_succ, val, ih]
/-- A row without a nought at its end is the limbs of its number. -/
theorem a8g : ∀ {l : List Nat}, Lim l → (l.getLast?).getD 1 ≠ 0 → limbs (val l) = l
  | [], _, _ => a0G
  | d :: l, h, hl => by
    obtain ⟨h1, h2⟩ := c9K.1 h
    have hl' : (l.getLast?).getD 1 ≠ 0 := by
      cases l with
      | nil => simp
      | cons e l => simpa [List.getLast?_cons_cons] using hl
    have hne : val (d :: l) ≠ 0 := by
      intro h0
      simp only [val] at h0
      have hd : d = 0 := by omega
      have hv : val l = 0 := by
        have : LB * val l = 0 := by omega
        rcases Nat.mul_eq_zero.1 this with h | h
        · exact absurd h (by decide)
        · exact h
      have := a8g h2 hl'
      rw [hv, a0G] at this
      subst this
      subst hd
      simp at hl
    rw [a6i hne]
    simp only [val]
    rw [Nat.add_mul_mod_self_left, Nat.mod_eq_of_lt h1, Nat.add_mul_div_left _ _ (by decide), Nat.div_eq_of_lt h1, Nat.zero_add, a8g h2 hl']
theorem a5M (n : Nat) : ((limbs n).getLast?).getD 1 ≠ 0 := by
  induction n using Nat.strongRecOn with
  | _ n ih =>
    by_cases h : n = 0
    · subst h; rw [a0G]; simp
    · rw [a6i h]
      have := ih (n / LB) (Nat.div_lt_self (by omega) (by decide))
      cases hq : limbs (n / LB) with
      | nil =>
        have h0 : n / LB = 0 := by
          have := a0b (n / LB)
          rw [hq] at this
          exact this.symm
        have : n % LB = n := Nat.mod_eq_of_lt (by
          rcases Nat.lt_or_ge n LB with h' | h'
          · exact h'
          · have := Nat.div_pos h' (by decide); omega)
        simp [this, h]
      | cons e l =>
        rw [hq] at this
        simpa [List.getLast?_cons_cons] using this
theorem a0j {n k : Nat} (h : n < LB ^ k) : (limbs n).length ≤ k := by
  induction k generalizing n with
  | zero =>
    have : n = 0 := by simpa using h
    subst this; rw [a0G]; simp
  | succ k ih =>
    by_cases h0 : n = 0
    · subst h0; rw [a0G]; simp
    · rw [a6i h0, List.length_cons]
      have : n / LB < LB ^ k := by
        rw [Nat.div_lt_iff_lt_mul (by decide)]
        rwa [Nat.pow_succ] at h
      have := ih this
      omega
theorem d2B {n : Nat} (h : limbs n ≠ []) : LB ^ ((limbs n).length - 1) ≤ n := by
  induction n using Nat.strongRecOn with
  | _ n ih =>
    by_cases h0 : n = 0
    · subst h0; rw [a0G] at h; simp at h
    · rw [a6i h0, List.length_cons, Nat.add_sub_cancel]
      by_cases hq : limbs (n / LB) = []
      · rw [hq]; simp; omega
      · have := ih (n / LB) (Nat.div_lt_self (by omega) (by decide)) hq
        have hl : 0 < (limbs (n / LB)).length := List.length_pos_iff.2 hq
        have h1 : LB ^ (limbs (n / LB)).length = LB ^ ((limbs (n / LB)).length - 1) * LB := by
          rw [← Nat.pow_succ]; congr 1; omega
        rw [h1]
        exact Nat.le_trans (Nat.mul_le_mul_right _ this) (Nat.div_mul_le_self n LB)
theorem d8P (l : List Nat) : val (l ++ [0]) = val l := by rw [a7O]; simp [val]
theorem a2F (l : List Nat) (d : Nat) : val (l ++ [d]) = val l + LB ^ l.length * d := by rw [a7O]; simp [val]
theorem c8I {l : List Nat} {i : Nat} (h : i < l.length) : val (l.take (i + 1)) = val (l.take i) + LB ^ i * l[i] := by
  rw [List.take_succ_eq_append_getElem h, a2F, List.length_take, Nat.min_eq_left (by omega)]
theorem a0L {l : List Nat} (h : Lim l) (i : Nat) : l.getD i 0 < LB := by
  rw [List.getD_eq_getElem?_getD]
  rcases Nat.lt_or_ge i l.length with hi | hi
  · rw [List.getElem?_eq_getElem hi, Option.getD_some]; exact h _ (List.getElem_mem hi)
  · rw [List.getElem?_eq_none hi]; decide
/-- Up to a place; behind the end nothing comes. -/
theorem a0i (l : List Nat) (i : Nat) : val (l.take (i + 1)) = val (l.take i) + LB ^ i * l.getD i 0 := by
  rcases Nat.lt_or_ge i l.length with h | h
  · rw [c8I h, List.getD_eq_getElem?_getD, List.getElem?_eq_getElem h, Option.getD_some]
  · rw [List.take_of_length_le (by omega), List.take_of_length_le h, List.getD_eq_getElem?_getD, List.getElem?_eq_none h]; simp
theorem a5y (i : Nat) : 0 < LB ^ i := Nat.pow_pos (by decide)
/-- Which of two is greater is told from the top. -/
theorem b5n {a b : List Nat} {i : Nat} (ha : Lim a) (hb : Lim b) (h : a.drop (i + 1) = b.drop (i + 1)) (hi : i < a.length) (hi' : i < b.length) (hl : a.length = b.length) (hlt : a.getD i 0 < b.getD i 0) : val a < val b := by
  have e1 : a = a.take (i + 1) ++ a.drop (i + 1) := (List.take_append_drop _ _).symm
  have e2 : b = b.take (i + 1) ++ b.drop (i + 1) := (List.take_append_drop _ _).symm
  rw [e1, e2, a7O, a7O, h, a0i, a0i]
  have l1 : (a.take (i + 1)).length = i + 1 := by rw [List.length_take]; omega
  have l2 : (b.take (i + 1)).length = i + 1 := by rw [List.length_take]; omega
  rw [l1, l2]
  have h1 := a0Z (ha.take i)
  rw [List.length_take, Nat.min_eq_left (by omega)] at h1
  have h2 : LB ^ i * (a.getD i 0 + 1) ≤ LB ^ i * b.getD i 0 := Nat.mul_le_mul_left _ hlt
  rw [Nat.mul_add] at h2
  omega
def blen (n : Nat) : Nat := if n = 0 then 0 else Nat.log2 n + 1
theorem d3o : blen 0 = 0 := rfl
theorem d0t (n : Nat) : n < 2 ^ blen n := by
  unfold blen
  split
  · rename_i h; subst h; decide
  · exact Nat.lt_log2_self
theorem b9w {n : Nat} (h : n ≠ 0) : 2 ^ (blen n - 1) ≤ n := by
  unfold blen
  rw [if_neg h, Nat.add_sub_cancel]
  exact Nat.log2_self_le h
theorem e5O {n k : Nat} (h1 : n < 2 ^ k) (h2 : k = 0 ∨ 2 ^ (k - 1) ≤ n) : blen n = k := by
  by_cases h0 : n = 0
  · subst h0
    rcases h2 with h2 | h2
    · rw [h2]; rfl
    · have := Nat.pow_pos (n := k - 1) (show 0 < 2 by decide); omega
  · have a := d0t n
    have b := b9w h0
    have c : 0 < blen n := by unfold blen; rw [if_neg h0]; omega
    have d : blen n - 1 < k := (Nat.pow_lt_pow_iff_right (by decide)).1 (Nat.lt_of_le_of_lt b h1)
    have e : k - 1 < blen n := by
      rcases h2 with h2 | h2
      · omega
      · exact (Nat.pow_lt_pow_iff_right (by decide)).1 (Nat.lt_of_le_of_lt h2 a)
    omega
/-- The lowest k bits do not count where others stand above them. -/
theorem d6B {h k r : Nat} (hh : h ≠ 0) (hr : r < 2 ^ k) : blen (r + 2 ^ k * h) = k + blen h := by
  have a := d0t h
  have b := b9w hh
  have c : 0 < blen h := by unfold blen; rw [if_neg hh]; omega
  refine e5O ?_ (.inr ?_)
  · rw [Nat.pow_add]
    have : 2 ^ k * (h + 1) ≤ 2 ^ k * 2 ^ blen h := Nat.mul_le_mul_left _ a
    rw [Nat.mul_add] at this
    omega
  · rw [show k + blen h - 1 = k + (blen h - 1) by omega, Nat.pow_add]
    have : 2 ^ k * 2 ^ (blen h - 1) ≤ 2 ^ k * h := Nat.mul_le_mul_left _ b
    omega
theorem d0u {n k : Nat} (h : 2 ^ k ≤ n) : blen n = k + blen (n / 2 ^ k) := by
  have hp : 0 < 2 ^ k := Nat.pow_pos (by decide)
  have h0 : n / 2 ^ k ≠ 0 := by
    have := Nat.div_pos h hp; omega
  have := d6B (r := n % 2 ^ k) h0 (Nat.mod_lt _ hp)
  rwa [Nat.mod_add_div] at this
theorem e0b (i : Nat) : LB ^ i = 2 ^ (32 * i) := by rw [Nat.pow_mul]
theorem b9v {l : List Nat} {d : Nat} (hl : Lim l) (hd : d ≠ 0) : blen (val (l ++ [d])) = 32 * l.length + blen d := by
  rw [a2F, e0b]
  exact d6B hd (by rw [← e0b]; exact a0Z hl)
theorem a0U {l : List Nat} (h : Lim l) : (limbs (val l)).length ≤ l.length := a0j (a0Z h)
/-- A row that may be handed round. -/
structure Nt (l : List Nat) : Prop where
  lim : Lim l
  len : l.length ≤ 17592186044416
theorem Nt.limbs {l : List Nat} (h : Nt l) : Nt (limbs (val l)) := ⟨a0c _, Nat.le_trans (a0U h.lim) h.len⟩
theorem c3M (x : List Nat) (k d : Nat) : (x ++ List.replicate (k + 1) 0).set x.length d = (x ++ [d]) ++ List.replicate k 0 := by
  rw [List.set_append_right _ _ (Nat.le_refl _), Nat.sub_self, List.replicate_succ, List.set_cons_zero]; simp
/-- One place of a sum. -/
theorem c8M {vd pa pb B c x y i : Nat} (h : vd + B * c = pa + pb) : (vd + B * ((c + x + y) % LB)) + (B * LB) * ((c + x + y) / LB) = (pa + B * x) + (pb + B * y) := by
  have e : (c + x + y) % LB + LB * ((c + x + y) / LB) = c + x + y := Nat.mod_add_div _ _
  have e2 : B * ((c + x + y) % LB) + (B * LB) * ((c + x + y) / LB) = B * (c + x + y) := by rw [Nat.mul_assoc, ← Nat.mul_add, e]
  have e3 : B * (c + x + y) = B * c + B * x + B * y := by rw [Nat.mul_add, Nat.mul_add]
  omega
theorem a1t {x : List Nat} {d : Nat} (h : Lim x) (hd : d < LB) : Lim (x ++ [d]) := b9e.2 ⟨h, by intro e he; simp at he; omega⟩
theorem d8Q {w : List Nat} {k d : Nat} (h : k < w.length) : val (w.set k d) + LB ^ k * w.getD k 0 = val w + LB ^ k * d := by
  induction w generalizing k with
  | nil => simp at h
  | cons e w ih =>
    cases k with
    | zero => simp only [List.set_cons_zero, val, Nat.pow_zero, Nat.one_mul, List.getD_cons_zero]; omega
    | succ k =>
      simp only [List.set_cons_succ, val, List.getD_cons_succ, Nat.pow_succ']
      have := ih (k := k) (by simpa using h)
      have e1 : LB * (val (w.set k d) + LB ^ k * w.getD k 0) = LB * (val w + LB ^ k * d) := by rw [this]
      rw [Nat.mul_add, Nat.mul_add, ← Nat.mul_assoc, ← Nat.mul_assoc] at e1
      omega
theorem d9Z {w : List Nat} {k d : Nat} (h : Lim w) (hd : d < LB) : Lim (w.set k d) := by
  intro e he
  rcases List.mem_or_eq_of_mem_set he with h' | h'
  · exact h e h'
  · rw [h']; exact hd
/-- One place of a difference. -/
theorem d2C {vx va vb B bo bo' d x y : Nat} (h : va + B * bo = vx + vb) (hd : x + LB * bo' = d + bo + y) : (va + B * x) + (B * LB) * bo' = (vx + B * d) + (vb + B * y) := by
  have e : B * (x + LB * bo') = B * (d + bo + y) := by rw [hd]
  rw [Nat.mul_add, Nat.mul_add, Nat.mul_add, ← Nat.mul_assoc] at e
  omega
/-- One place of a product. -/
theorem d5X {vw vx A B C c x y q vb vs t : Nat} (hC : C = A * B) (h : vw + C * c = vx + A * (x * vb)) (hs : vs + C * q = vw + C * (t % LB)) (ht : t = c + x * y + q) :
    vs + (C * LB) * (t / LB) = vx + A * (x * (vb + B * y)) := by
  have e : t % LB + LB * (t / LB) = t := Nat.mod_add_div _ _
  have e1 : C * (t % LB) + (C * LB) * (t / LB) = C * t := by rw [Nat.mul_assoc, ← Nat.mul_add, e]
  have e2 : C * t = C * c + C * (x * y) + C * q := by rw [ht, Nat.mul_add, Nat.mul_add]
  have e3 : A * (x * (vb + B * y)) = A * (x * vb) + C * (x * y) := by
    rw [hC, Nat.mul_add, Nat.mul_add, Nat.mul_assoc A B, Nat.mul_left_comm B x y]
  omega
theorem d5Y {c x y q : Nat} (hc : c < LB) (hx : x < LB) (hy : y < LB) (hq : q < LB) : c + x * y + q < LB * LB := by
  have : x * y ≤ (LB - 1) * (LB - 1) := Nat.mul_le_mul (by omega) (by omega)
  have e : (LB - 1) * (LB - 1) + (LB - 1) + (LB - 1) < LB * LB := by decide
  omega
theorem c3E : ∀ {a b : List Nat}, (∀ i, a.getD i 0 = b.getD i 0) → val a = val b
  | [], [], _ => rfl
  | [], e :: b, h => by
    have h0 : 0 = e := by simpa using h 0
    have := c3E (a := []) (b := b) fun i => by simpa using h (i + 1)
    simp only [val] at this ⊢
    rw [← h0, ← this, Nat.mul_zero]
  | d :: a, [], h => by
    have h0 : d = 0 := by simpa using h 0
    have := c3E (a := a) (b := []) fun i => by simpa using h (i + 1)
    simp only [val] at this ⊢
    rw [h0, this, Nat.mul_zero]
  | d :: a, e :: b, h => by
    have h0 : d = e := by simpa using h 0
    have := c3E (a := a) (b := b) fun i => by simpa using h (i + 1)
    simp only [val, h0, this]
theorem c5H (a : List Nat) (n i : Nat) : (a.drop n).getD i 0 = a.getD (n + i) 0 := by simp [List.getD_eq_getElem?_getD, List.getElem?_drop]
theorem a3x (a : List Nat) (n : Nat) : val a = val (a.take n) + LB ^ n * val (a.drop n) := by
  rcases Nat.lt_or_ge a.length n with h | h
  · rw [List.take_of_length_le (by omega), List.drop_of_length_le (by omega)]; simp [val]
  · have := a7O (a.take n) (a.drop n)
    rwa [List.take_append_drop, List.length_take, Nat.min_eq_left h] at this
theorem a3g {a : List Nat} (h : Lim a) (n : Nat) : val (a.take n) < LB ^ n := by
  have h1 := a0Z (h.take n)
  have h2 : LB ^ (a.take n).length ≤ LB ^ n := Nat.pow_le_pow_right (by decide) (by rw [List.length_take]; omega)
  omega
theorem b0G {a b : List Nat} {i : Nat} (ha : Lim a) (hb : Lim b) (h : ∀ j, i < j → a.getD j 0 = b.getD j 0) (hlt : a.getD i 0 < b.getD i 0) : val a < val b := by
  have e : val (a.drop (i + 1)) = val (b.drop (i + 1)) := c3E fun j => by rw [c5H, c5H]; exact h _ (by omega)
  rw [a3x a (i + 1), a3x b (i + 1), e, a0i, a0i]
  have h1 := a3g ha i
  have h2 : LB ^ i * (a.getD i 0 + 1) ≤ LB ^ i * b.getD i 0 := Nat.mul_le_mul_left _ hlt
  rw [Nat.mul_add] at h2
  omega
theorem a7a {a : List Nat} {i : Nat} (h : a.length ≤ i) : a.getD i 0 = 0 := by rw [List.getD_eq_getElem?_getD, List.getElem?_eq_none h]; rfl
theorem a7P {l : List Nat} {i : Nat} (h : i < l.length) : l.take (i + 1) = l.take i ++ [l.getD i 0] := by
  rw [List.take_succ_eq_append_getElem h, List.getD_eq_getElem?_getD, List.getElem?_eq_getElem h, Option.getD_some]
end Go.Abs
set_option linter.unusedVariables false
set_option linter.unusedSimpArgs false
set_option linter.defProp false
namespace Go.Abs
def u32s (l : List Nat) : List AV := l.map fun n : Nat => .int .u32 (n : Int)
def natV (l : List Nat) : AV := .sl 1 (u32s l)
theorem a0w (l : List Nat) : (u32s l).length = l.length := by simp [u32s]
theorem b4j (a b : List Nat) : u32s (a ++ b) = u32s a ++ u32s b := by simp [u32s]
theorem e1A : u32s [] = [] := rfl
theorem c3F (d : Nat) (l : List Nat) : u32s (d :: l) = .int .u32 (d : Int) :: u32s l := rfl
theorem b5o (l : List Nat) (n : Nat) : (u32s l).take n = u32s (l.take n) := by simp [u32s, List.map_take]
theorem c2R (l : List Nat) (i d : Nat) : (u32s l).set i (.int .u32 (d : Int)) = u32s (l.set i d) := by simp [u32s, List.map_set]
theorem b0H {l : List Nat} {i : Nat} (h : i < l.length) : (u32s l).getD i .top = .int .u32 (l.getD i 0 : Nat) := by
  simp [u32s, h]
theorem d8S (l : List Nat) : (u32s l).flatMap AV.cells = u32s l := by
  induction l with
  | nil => rfl
  | cons d l ih => rw [c3F, List.flatMap_cons, ih]; rfl
theorem e1z (n : Nat) : List.replicate n (AV.int .u32 0) = u32s (List.replicate n 0) := by simp [u32s]
theorem d8T {l : List Nat} {a : AV} (h : a ∈ u32s l) : Cl a := by
  obtain ⟨n, _, rfl⟩ := List.mem_map.1 h; exact .int _ _
theorem a8w {l : List Nat} {a : AV} (h : a ∈ (u32s l).flatMap AV.cells) : Cl a := by rw [d8S] at h; exact d8T h
theorem a0m (l : List Nat) : ∀ a ∈ (Blk.mk 1 (u32s l)).flat, Cl a := fun a h => a8w h
theorem a0T (l : List Nat) : Cl (natV l) := .sl 1 _ fun c h => a8w h
theorem d8f (l : List Nat) : (natV l).cells = [natV l] := rfl
theorem e2j (l : List Nat) : (natV l).fit = true := rfl
theorem d2v (id : Nat) (l : List Nat) : nref id (natV l) = true := a1n (a0T l)
theorem b7l (l : List Nat) : clb (natV l) = true := c6c (a0T l)
theorem e2i (id : Nat) (b : Blk) (l : List Nat) : frz id b (natV l) = natV l := a4V (a0T l)
theorem d9P (id : Nat) (b : Blk) (l : List Nat) : (u32s l).map (frz id b) = u32s l := by
  rw [List.map_congr_left (g := fun x => x) fun a h => a4V (d8T h)]; simp
theorem a6P (H : Heap) (l : List Nat) : lenV H (natV l) = some (.int .i64 l.length) := by simp [natV, d4S, a0w]
theorem b7k (H : Heap) (l : List Nat) : a0Q H 1 false (natV l) = some (u32s l) := a3z H 1 _
theorem a0A (H : Heap) (l : List Nat) (k : IntKind) (i : Nat) (h : i < l.length) : idxV H 1 (natV l) (.int k i) = some (.ro (.int .u32 (l.getD i 0 : Nat)) 0) := by
  rw [natV, e0o _ _ _ _ _ (by omega) (by rw [a0w]; omega)]
  rw [Int.toNat_natCast, b0H h]
theorem e2h (H : Heap) (l : List Nat) (k : IntKind) (n : Nat) (h : n ≤ l.length) : slcV H 1 (natV l) none (some (.int k n)) none = some (natV (l.take n)) := by
  simp only [natV, slcV, a3R, Option.bind_some, a0w]
  rw [if_pos ⟨trivial, by omega, by omega, by omega⟩]
  simp [b5o]
theorem e3O (H L : Heap) (i off len : Nat) (oc : Option Nat) {b : Blk} (h : L[i]? = some (some b)) : lenV (hap H L) (.mu (lid H i) off len oc) = some (.int .i64 len) := by
  rw [c5w, a1p, h]; simp
theorem d2w (H L : Heap) (wd i off len : Nat) (oc : Option Nat) (k : IntKind) (j : Nat) {b : Blk} (h : L[i]? = some (some b)) (hw : b.wd = wd) (hj : j < len) :
    idxV (hap H L) wd (.mu (lid H i) off len oc) (.int k j) = some (.loc (lid H i) (off + j) 0) := by
  rw [b4M _ _ _ _ _ _ _ _ (by omega) (by omega), a1p, h]; simp [hw]
theorem c9J (H L : Heap) (i k : Nat) {b : Blk} (h : L[i]? = some (some b)) (hk : k < b.xs.length) : atV (hap H L) (.loc (lid H i) k 0) = some (b.xs.getD k .top).cells := by
  rw [a9M, a1p, h]; simp [hk]
theorem a3w {n : Int} (h0 : 0 ≤ n) (h1 : n < 4294967296) : IntKind.wrap .u32 n = n := by
  simp [IntKind.wrap, IntKind.bits, IntKind.signed]; omega
theorem a0F {n : Int} (h0 : 0 ≤ n) (h1 : n < 18446744073709551616) : IntKind.wrap .u64 n = n := by
  simp [IntKind.wrap, IntKind.bits, IntKind.signed]; omega
theorem a0a {n : Int} (h0 : -9223372036854775808 ≤ n) (h1 : n < 9223372036854775808) : IntKind.wrap .i64 n = n := by
  simp [IntKind.wrap, IntKind.bits, IntKind.signed]; omega
theorem a1X (n : Nat) : IntKind.wrap .u32 (n : Int) = ((n % LB : Nat) : Int) := by
  simp [IntKind.wrap, IntKind.bits, IntKind.signed]
theorem a1f (n : Int) : IntKind.wrap .u64 n = n % 18446744073709551616 := by
  simp [IntKind.wrap, IntKind.bits, IntKind.signed]
theorem b4Q (n0 : Nat) (env : Env) (H L : Heap) (l : List Nat) (h : l.length ≤ 17592186044416) :
    appV n0 1 4 false .nil (natV l) env (hap H L) = some (.mu (lid H L.length) 0 l.length none, env, hap H (L ++ [some ⟨1, u32s l⟩])) := by
  have := e3t n0 env H L 1 4 false (natV l) (u32s l) (b7k _ l) (by decide) (by rw [a0w]; omega) (by rw [a0w]; omega)
  rwa [a0w] at this
theorem c6h (n0 : Nat) (env : Env) (H L : Heap) (i len : Nat) (oc : Option Nat) (y : AV) (xs l : List Nat) (hH : a0E H) (hl : L[i]? = some (some ⟨1, u32s xs⟩)) (hlen : len = xs.length) (hn : n0 ≤ lid H i) (ha : e1t H L i)
    (hy : a0Q (hap H L) 1 false y = some (u32s l)) (hb : xs.length + l.length ≤ 35184372088832) (hoc : (oc.any fun c => decide (len + l.length ≤ c)) = false := by rfl) :
    appV n0 1 4 false (.mu (lid H i) 0 len oc) y env (hap H L) = some (.mu (lid H i) 0 (len + l.length) (a1l oc (len + l.length)), scrub (lid H i) env, hap H (L.set i (some ⟨1, u32s (xs ++ l)⟩))) := by
  have := b2p n0 env H L 1 4 false i len oc y (u32s xs) (u32s l) hH hl (by rw [a0w]; exact hlen) hn hy ha (fun a h => (a8w h).ref) (by rw [a0w]; omega) (by rw [a0w]; omega) (by rw [a0w]; exact hoc)
  rwa [a0w, ← b4j] at this
theorem a8k (H : Heap) (i : Nat) (l : List Nat) (oc : Option Nat) : frz (lid H i) ⟨1, u32s l⟩ (.mu (lid H i) 0 l.length oc) = natV l := by
  rw [a9x _ _ _ _ _ (by rw [a0w])]; rfl
/-- The rules for numbers. -/
def EN := And.intro @a6P (And.intro @a8k (And.intro @d9P (And.intro @d2v (And.intro @b7l (And.intro @d8f (And.intro @e2j (And.intro @e2i (And.intro @b7k @a0w))))))))
theorem e4K (H : Heap) (X : Blk) (len : Nat) (oc : Option Nat) : lenV (hap H [some X]) (.mu (lid H 0) 0 len oc) = some (.int .i64 len) := e3O H [some X] 0 0 len oc rfl
theorem a9d (H : Heap) (X : List AV) (wd len : Nat) (oc : Option Nat) (k : IntKind) (j : Nat) (h : j < len) : idxV (hap H [some ⟨wd, X⟩]) wd (.mu (lid H 0) 0 len oc) (.int k j) = some (.loc (lid H 0) j 0) := by
  rw [d2w H [some ⟨wd, X⟩] wd 0 0 len oc k j rfl rfl h, Nat.zero_add]
theorem e3N (H : Heap) (x : List Nat) (j : Nat) (h : j < x.length) : atV (hap H [some ⟨1, u32s x⟩]) (.loc (lid H 0) j 0) = some [.int .u32 (x.getD j 0 : Nat)] := by
  rw [c9J H [some ⟨1, u32s x⟩] 0 j rfl (by simpa [a0w] using h)]
  simp only [b0H h, AV.cells]
theorem c4i (H : Heap) (env : Env) (x : List Nat) (j d : Nat) (h : j < x.length) : a1T 1 (.loc (lid H 0) j 0) (.int .u32 (d : Int)) env (hap H [some ⟨1, u32s x⟩]) = some (.top, env, hap H [some ⟨1, u32s (x.set j d)⟩]) := by
  rw [b1Z env H [some ⟨1, u32s x⟩] 1 0 j 0 _ rfl (by simpa [a0w] using h) rfl rfl (Nat.le_refl 1)]
  simp only [a2p, c2R, List.set_cons_zero]
theorem b2g (env : Env) (H L : Heap) (k k' : IntKind) (n : Nat) (h : n ≤ 35184372088832) : c5e 1 4 (.int .u32 0) (.int k n) (.int k' n) env (hap H L) = some (.mu (lid H L.length) 0 n (some n), env, hap H (L ++ [some ⟨1, u32s (List.replicate n 0)⟩])) := by
  rw [d2x env H L 1 4 _ k k' n n (by decide) (Nat.le_refl _) (by omega) (by omega), e1z]
theorem b5l (n : Int) : IntKind.wrap .u32 n = n % 4294967296 := by
  simp [IntKind.wrap, IntKind.bits, IntKind.signed]
theorem e4s (t : Nat) : Int.fdiv (t : Int) (2 ^ min (Int.toNat 32) IntKind.u64.bits) = ((t / LB : Nat) : Int) := by
  rw [show (2 : Int) ^ min (Int.toNat 32) IntKind.u64.bits = (LB : Int) by decide, Int.fdiv_eq_ediv_of_nonneg _ (by decide)]; rfl
theorem c4j (H : Heap) (hH : a0E H) (n0 : Nat) (hn : n0 ≤ lid H 0) (env : Env) (x : List Nat) (d : Nat) (hb : x.length < 35184372088832) :
    appV n0 1 4 false (.mu (lid H 0) 0 x.length none) (.sl 1 [.int .u32 (d : Int)]) env (hap H [some ⟨1, u32s x⟩]) = some (.mu (lid H 0) 0 (x.length + 1) none, scrub (lid H 0) env, hap H [some ⟨1, u32s (x ++ [d])⟩]) := by
  have := c6h n0 env H [some ⟨1, u32s x⟩] 0 x.length none (.sl 1 [.int .u32 (d : Int)]) x [d] hH rfl rfl hn (b2o fun b hb a ha => by
    simp at hb; subst hb; exact a0m x a ha) (a3z _ 1 _) (by simp; omega)
  simpa [a1l] using this
theorem d9v (t : Nat) : binV .rem (.int .u64 (t : Int)) (.int .u64 4294967296) = some (.int .u64 ((t % LB : Nat) : Int)) := by
  rw [d0v _ _ _ (by decide), Int.tmod_eq_emod_of_nonneg (by omega)]; rfl
theorem e3M (t : Nat) (h : t < 18446744073709551616) : binV .quo (.int .u64 (t : Int)) (.int .u64 4294967296) = some (.int .u64 ((t / LB : Nat) : Int)) := by
  have hLB : LB = 4294967296 := rfl
  rw [c3g _ _ _ (by decide), Int.tdiv_eq_ediv_of_nonneg (by omega)]
  have : (t : Int) / 4294967296 = ((t / LB : Nat) : Int) := rfl
  rw [this, a0F (by omega) (by omega)]
def E1 := And.intro EV (And.intro EVC EN)
end Go.Abs
set_option linter.unusedVariables false
set_option linter.unusedSimpArgs false
set_option linter.defProp false
namespace Go.Abs
def sgn (neg : Bool) (n : Nat) : Int := if neg then -(n : Int) else n
/-- A number as it is handed round: a sign, limbs. -/
structure ZI where
  neg : Bool
  mag : List Nat
def ZI.av (x : ZI) : AV := .agg [.bool x.neg, natV x.mag]
def ZI.z (x : ZI) : Int := sgn x.neg (val x.mag)
/-- The number in its one form. -/
def canZ (z : Int) : ZI := ⟨decide (z < 0), limbs z.natAbs⟩
def Z (z : Int) : AV := .agg [.bool (decide (z < 0)), natV (limbs z.natAbs)]
theorem a3k (z : Int) : (canZ z).av = Z z := rfl
theorem a0p (z : Int) : (canZ z).z = z := by
  unfold canZ ZI.z sgn
  simp only [a0b, decide_eq_true_eq]
  split <;> omega
theorem e6b (neg : Bool) (n : Nat) : .agg [.bool (neg && decide (0 < n)), natV (limbs n)] = Z (sgn neg n) := by
  unfold Z sgn
  cases neg
  · simp <;> omega
  · rcases Nat.eq_zero_or_pos n with h | h
    · subst h; simp
    · simp [h]
theorem a5s (neg : Bool) : sgn neg 0 = 0 := by cases neg <;> rfl
theorem b4l (neg : Bool) (n : Nat) : (sgn neg n).natAbs = n := by cases neg <;> simp [sgn]
theorem Z_cl (z : Int) : Cl (Z z) := .agg _ (by intro c hc; simp at hc; rcases hc with rfl | rfl; exact .bool _; exact a0T _)
theorem ZI.cl (x : ZI) : Cl x.av := .agg _ (by intro c hc; simp at hc; rcases hc with rfl | rfl; exact .bool _; exact a0T _)
theorem e4e : Z 0 = .agg [.bool false, natV []] := by unfold Z; simp [a0G]
theorem le_zero : Le (.agg [.bool false, .nil]) (Z 0) := by rw [e4e]; exact Le.agg2 (Le.refl _) (Le.nil 1 (by decide))
/-- The number's limbs. -/
structure Zok (k : Nat) (x : ZI) : Prop where
  lim : Lim x.mag
  len : x.mag.length ≤ k
theorem Zok.mono {k m : Nat} {x : ZI} (h : Zok k x) (hk : k ≤ m) : Zok m x := ⟨h.lim, Nat.le_trans h.len hk⟩
theorem Zok.lt {k : Nat} {x : ZI} (h : Zok k x) : val x.mag < LB ^ k := by
  have h1 := a0Z h.lim
  have h2 : LB ^ x.mag.length ≤ LB ^ k := Nat.pow_le_pow_right (by decide) h.len
  omega
theorem Zok.abs {k : Nat} {x : ZI} (h : Zok k x) : x.z.natAbs < LB ^ k := by unfold ZI.z; rw [b4l]; exact h.lt
theorem a0l {k : Nat} {z : Int} (h : z.natAbs < LB ^ k) : Zok k (canZ z) := ⟨a0c _, a0j h⟩
section
variable (n0 : Nat) (env : Env) (H L : Heap)
def cpyV (wd : Nat) (x y : AV) (env : Env) (H : Heap) : Option (AV × Env × Heap) := (a0Q H wd false y).bind fun ys => match x with
      | .mu id off len _ => (hrow H id).bind fun r =>
          if r.wd = wd ∧ off + len ≤ r.xs.length then
            some (.int .i64 (min ys.length len : Nat), env, H.set id (some ⟨wd, r.xs.take off ++ ys.take (min ys.length len) ++ r.xs.drop (off + min ys.length len)⟩)) else none
      | _ => none
theorem e7h (wd : Nat) (a b : Src) : ev n0 (.cpy wd a b) env H = cpyV wd (a.ev env) (b.ev env) env H := by
  simp only [ev, cpyV]; cases a0Q H wd false (b.ev env) <;> simp only [Option.bind_none, Option.bind_some]; split <;> simp_all
theorem d6w (wd i len : Nat) (oc : Option Nat) (y : AV) (xs ys : List AV) (hl : L[i]? = some (some ⟨wd, xs⟩)) (hlen : len = xs.length) (hy : a0Q (hap H L) wd false y = some ys) (hle : len ≤ ys.length) :
    cpyV wd (.mu (lid H i) 0 len oc) y env (hap H L) = some (.int .i64 len, env, hap H (L.set i (some ⟨wd, ys.take len⟩))) := by
  subst hlen
  simp only [cpyV, hy, Option.bind_some, a1p, hl, Option.join_some, a3V]
  rw [if_pos ⟨trivial, by omega⟩]
  simp [Nat.min_eq_right hle]
end
def EI := @e7h
def E2 := And.intro @EV2 (And.intro @EI @E1)
end Go.Abs
set_option linter.unusedVariables false
set_option linter.unusedSimpArgs false
set_option linter.defProp false
namespace Go.Abs
theorem ZI.av_fit (x : ZI) : x.av.fit = true := rfl
theorem ZI.av_cells (x : ZI) : x.av.cells = [.bool x.neg, natV x.mag] := rfl
theorem ZI.av_nref (id : Nat) (x : ZI) : nref id x.av = true := a1n x.cl
theorem ZI.av_frz (id : Nat) (b : Blk) (x : ZI) : frz id b x.av = x.av := a4V x.cl
theorem e6c (z : Int) : (Z z).cells = [.bool (decide (z < 0)), natV (limbs z.natAbs)] := rfl
theorem e7v (z : Int) : (Z z).fit = true := rfl
theorem e7u (id : Nat) (z : Int) : nref id (Z z) = true := a1n (Z_cl z)
theorem e7R (id : Nat) (b : Blk) (z : Int) : frz id b (Z z) = Z z := a4V (Z_cl z)
def vecV (v : List ZI) : AV := .sl 2 (v.map ZI.av)
def matV (b : List (List ZI)) : AV := .sl 1 (b.map vecV)
theorem b4O {a : AV} (h : Cl a) : ∀ c ∈ a.cells, Cl c := by
  intro c hc
  cases a with
  | agg cs => cases h with | agg _ h => exact h c hc
  | _ => simp [AV.cells] at hc; subst hc; exact h
theorem e2T {α : Type} (wd : Nat) (f : α → AV) (l : List α) (h : ∀ x, Cl (f x)) : Cl (.sl wd (l.map f)) := by
  refine .sl wd _ fun c hc => ?_
  obtain ⟨x, hx, hc⟩ := List.mem_flatMap.1 hc
  obtain ⟨y, _, rfl⟩ := List.mem_map.1 hx
  exact b4O (h y) c hc
theorem a0e (v : List ZI) : Cl (vecV v) := e2T 2 _ v ZI.cl
theorem c5r (b : List (List ZI)) : Cl (matV b) := e2T 1 _ b a0e
theorem d6W (v : List ZI) : (vecV v).cells = [vecV v] := rfl
theorem e1v (v : List ZI) : (vecV v).fit = true := rfl
theorem d8O (id : Nat) (v : List ZI) : nref id (vecV v) = true := a1n (a0e v)
theorem e1w (v : List ZI) : clb (vecV v) = true := c6c (a0e v)
theorem e1u (id : Nat) (b : Blk) (v : List ZI) : frz id b (vecV v) = vecV v := a4V (a0e v)
theorem d8m (v : List (List ZI)) : (matV v).cells = [matV v] := rfl
theorem e2m (v : List (List ZI)) : (matV v).fit = true := rfl
theorem d9U (id : Nat) (v : List (List ZI)) : nref id (matV v) = true := a1n (c5r v)
theorem e2n (v : List (List ZI)) : clb (matV v) = true := c6c (c5r v)
theorem e2l (id : Nat) (b : Blk) (v : List (List ZI)) : frz id b (matV v) = matV v := a4V (c5r v)
section
variable (H : Heap)
theorem d5E {α : Type} (wd : Nat) (f : α → AV) (l : List α) : lenV H (.sl wd (l.map f)) = some (.int .i64 l.length) := by rw [d4S, List.length_map]
theorem d5F {α : Type} (wd : Nat) (f : α → AV) (l : List α) (k : IntKind) (i : Nat) (h : i < l.length) : idxV H wd (.sl wd (l.map f)) (.int k i) = some (.ro (f l[i]) 0) := by
  rw [e0o _ _ _ _ _ (by omega) (by rw [List.length_map]; omega)]
  simp [h]
theorem c8H (v : List ZI) : lenV H (vecV v) = some (.int .i64 v.length) := d5E H 2 _ v
theorem a1g (v : List ZI) (k : IntKind) (i : Nat) (h : i < v.length) : idxV H 2 (vecV v) (.int k i) = some (.ro v[i].av 0) := d5F H 2 _ v k i h
theorem d4H (v : List (List ZI)) : lenV H (matV v) = some (.int .i64 v.length) := d5E H 1 _ v
theorem a2b (v : List (List ZI)) (k : IntKind) (i : Nat) (h : i < v.length) : idxV H 1 (matV v) (.int k i) = some (.ro (vecV v[i]) 0) := d5F H 1 _ v k i h
/-- The elements of a row of the call's own, each closed. -/
theorem a1E {α : Type} (wd : Nat) (f : α → AV) (l : List α) (h : ∀ x, Cl (f x)) : ∀ a ∈ (Blk.mk wd (l.map f)).flat, Cl a := by
  intro a ha
  obtain ⟨x, hx, hc⟩ := List.mem_flatMap.1 ha
  obtain ⟨y, _, rfl⟩ := List.mem_map.1 hx
  exact b4O (h y) a hc
theorem e0z {α : Type} (id : Nat) (b : Blk) (f : α → AV) (l : List α) (h : ∀ x, Cl (f x)) : (l.map f).map (frz id b) = l.map f := by
  rw [List.map_map]
  exact List.map_congr_left fun x _ => a4V (h x)
theorem a8l {α : Type} (i : Nat) (wd : Nat) (f : α → AV) (l : List α) (oc : Option Nat) : frz (lid H i) ⟨wd, l.map f⟩ (.mu (lid H i) 0 l.length oc) = .sl wd (l.map f) := by
  rw [a9x _ _ _ _ _ (by rw [List.length_map])]
theorem e5Y {α : Type} (hH : a0E H) (L : Heap) (i : Nat) (n0 : Nat) (hn : n0 ≤ lid H i) (env : Env) (wd bytes : Nat) (f : α → AV) (hf : ∀ x, Cl (f x)) (l : List α) (x : α) (hl : L[i]? = some (some ⟨wd, l.map f⟩)) (hL : ∀ b, some b ∈ L → ∀ a ∈ b.flat, Cl a)
    (hb : (l.length + 1) * bytes ≤ 140737488355328) (hb' : l.length + 1 ≤ 9223372036854775807) :
    appV n0 wd bytes false (.mu (lid H i) 0 l.length none) (.sl wd [f x]) env (hap H L) = some (.mu (lid H i) 0 (l.length + 1) none, scrub (lid H i) env, hap H (L.set i (some ⟨wd, (l ++ [x]).map f⟩))) := by
  have := b2p n0 env H L wd bytes false i l.length none (.sl wd [f x]) (l.map f) [f x] hH hl (by rw [List.length_map]) hn (a3z _ wd _) (b2o hL) (by
    intro a ha
    simp at ha
    exact (b4O (hf x) a ha).ref) (by simpa using hb) (by simpa using hb') rfl
  simpa [a1l] using this
/-- One row alone. -/
theorem d6F {α : Type} (hH : a0E H) (n0 : Nat) (hn : n0 ≤ lid H 0) (env : Env) (wd bytes : Nat) (f : α → AV) (hf : ∀ x, Cl (f x)) (l : List α) (x : α) (hb : (l.length + 1) * bytes ≤ 140737488355328) (hb' : l.length + 1 ≤ 9223372036854775807) :
    appV n0 wd bytes false (.mu (lid H 0) 0 l.length none) (.sl wd [f x]) env (hap H [some ⟨wd, l.map f⟩]) = some (.mu (lid H 0) 0 (l.length + 1) none, scrub (lid H 0) env, hap H [some ⟨wd, (l ++ [x]).map f⟩]) := by
  have := e5Y H hH [some ⟨wd, l.map f⟩] 0 n0 hn env wd bytes f hf l x rfl (by intro b hb; simp at hb; subst hb; exact a1E wd f l hf) hb hb'
  simpa using this
end
structure Vok (k : Nat) (v : List ZI) : Prop where
  len : v.length ≤ 2097152
  el : ∀ x ∈ v, Zok k x
structure Mok (k : Nat) (b : List (List ZI)) : Prop where
  len : b.length ≤ 2097152
  el : ∀ v ∈ b, Vok k v
theorem Vok.mono {k m : Nat} {v : List ZI} (h : Vok k v) (hk : k ≤ m) : Vok m v := ⟨h.len, fun x hx => (h.el x hx).mono hk⟩
theorem Mok.mono {k m : Nat} {b : List (List ZI)} (h : Mok k b) (hk : k ≤ m) : Mok m b := ⟨h.len, fun x hx => (h.el x hx).mono hk⟩
theorem Vok.get {k : Nat} {v : List ZI} (h : Vok k v) {i : Nat} (hi : i < v.length) : Zok k v[i] := h.el _ (List.getElem_mem hi)
theorem Mok.get {k : Nat} {v : List (List ZI)} (h : Mok k v) {i : Nat} (hi : i < v.length) : Vok k v[i] := h.el _ (List.getElem_mem hi)
theorem d0H : (0 < 2) = True := by decide
/-- The rules for vectors. -/
def EM := And.intro d0H <| And.intro @c8H (And.intro @d4H (And.intro @d6W (And.intro @e1v (And.intro @d8O (And.intro @e1w (And.intro @e1u (And.intro @d8m (And.intro @e2m (And.intro @d9U (And.intro @e2n (And.intro @e2l
  (And.intro @ZI.av_fit (And.intro @ZI.av_cells (And.intro @ZI.av_nref (And.intro @ZI.av_frz (And.intro @e6c (And.intro @e7v (And.intro @e7u @e7R))))))))))))))))))
def zs (v : List ZI) : List Int := v.map ZI.z
def E3 := And.intro EM @E2
end Go.Abs
set_option linter.unusedVariables false
set_option linter.unusedSimpArgs false
set_option linter.defProp false
namespace Go.Abs
/-- The i-th entry of a vector, a matrix. -/
def zg (v : List ZI) (i : Nat) : Int := (v.getD i ⟨false, []⟩).z
def mg (b : List (List ZI)) (i : Nat) : List ZI := b.getD i []
theorem c2E {v : List ZI} {i : Nat} (h : i < v.length) : zg v i = v[i].z := by simp [zg, h]
theorem a3T {b : List (List ZI)} {i : Nat} (h : i < b.length) : mg b i = b[i] := by simp [mg, h]
/-- The vector in the one form of these entries. -/
def vec (n : Nat) (f : Nat → Int) : List ZI := (List.range n).map fun i => canZ (f i)
def mat (n : Nat) (f : Nat → List ZI) : List (List ZI) := (List.range n).map f
theorem a0g (n : Nat) (f : Nat → Int) : (vec n f).length = n := by simp [vec]
theorem a0f (n : Nat) (f : Nat → List ZI) : (mat n f).length = n := by simp [mat]
theorem b1Y (n : Nat) (f : Nat → Int) : vec (n + 1) f = vec n f ++ [canZ (f n)] := by simp [vec, List.range_succ]
theorem a6U (n : Nat) (f : Nat → List ZI) : mat (n + 1) f = mat n f ++ [f n] := by simp [mat, List.range_succ]
theorem a5O {n : Nat} {f : Nat → Int} {i : Nat} (h : i < (vec n f).length) : (vec n f)[i] = canZ (f i) := by simp [vec]
theorem a6f {n : Nat} {f : Nat → List ZI} {i : Nat} (h : i < (mat n f).length) : (mat n f)[i] = f i := by simp [mat]
theorem c3D {n : Nat} {f g : Nat → Int} (h : ∀ i, i < n → f i = g i) : vec n f = vec n g :=
  List.map_congr_left fun i hi => by rw [h i (List.mem_range.1 hi)]
theorem d8J {n : Nat} {f : Nat → Int} {i : Nat} (h : i < n) : zg (vec n f) i = f i := by
  rw [c2E (by rw [a0g]; exact h), a5O, a0p]
theorem d9T {n : Nat} {f : Nat → List ZI} {i : Nat} (h : i < n) : mg (mat n f) i = f i := by
  rw [a3T (by rw [a0f]; exact h), a6f]
theorem c8y {k n : Nat} {f : Nat → Int} (hn : n ≤ 2097152) (h : ∀ i, i < n → (f i).natAbs < LB ^ k) : Vok k (vec n f) := by
  refine ⟨by rw [a0g]; exact hn, fun x hx => ?_⟩
  obtain ⟨i, hi, rfl⟩ := List.mem_map.1 hx
  exact a0l (h i (List.mem_range.1 hi))
theorem d9R {k n : Nat} {f : Nat → List ZI} (hn : n ≤ 2097152) (h : ∀ i, i < n → Vok k (f i)) : Mok k (mat n f) := by
  refine ⟨by rw [a0f]; exact hn, fun x hx => ?_⟩
  obtain ⟨i, hi, rfl⟩ := List.mem_map.1 hx
  exact h i (List.mem_range.1 hi)
theorem Vok.abs {k : Nat} {v : List ZI} (h : Vok k v) (i : Nat) : (zg v i).natAbs < LB ^ k := by
  rcases Nat.lt_or_ge i v.length with hi | hi
  · rw [c2E hi]; exact (h.get hi).abs
  · simp [zg, hi, ZI.z, sgn, val]
    exact Nat.pow_pos (by decide)
theorem Mok.row {k : Nat} {b : List (List ZI)} (h : Mok k b) (i : Nat) : Vok k (mg b i) := by
  rcases Nat.lt_or_ge i b.length with hi | hi
  · rw [a3T hi]; exact h.get hi
  · simp [mg, hi]
    exact ⟨by simp, by simp⟩
theorem e0c (a b : Nat) : LB ^ (a + b) = LB ^ a * LB ^ b := Nat.pow_add _ _ _
theorem a8i (a : Nat) : 0 < LB ^ a := Nat.pow_pos (by decide)
theorem d4T {a b : Nat} (h : a ≤ b) : LB ^ a ≤ LB ^ b := Nat.pow_le_pow_right (by decide) h
theorem a4l {x y : Int} {k l : Nat} (hx : x.natAbs < LB ^ k) (hy : y.natAbs < LB ^ l) : (x * y).natAbs < LB ^ (k + l) := by
  rw [Int.natAbs_mul, e0c]
  exact Nat.mul_lt_mul'' hx hy
theorem e1l {x y : Int} {k : Nat} (hx : x.natAbs < LB ^ k) (hy : y.natAbs < LB ^ k) : (x + y).natAbs < LB ^ (k + 1) := by
  have h := Int.natAbs_add_le x y
  rw [e0c]
  have : LB = 4294967296 := rfl
  have := a8i k
  rw [Nat.pow_one]
  generalize LB ^ k = c at *
  calc (x + y).natAbs ≤ x.natAbs + y.natAbs := h
    _ < c * 2 := by omega
    _ ≤ c * LB := Nat.mul_le_mul_left _ (by decide)
theorem e4m {x y : Int} {k : Nat} (hx : x.natAbs < LB ^ k) (hy : y.natAbs < LB ^ k) : (x - y).natAbs < LB ^ (k + 1) := by
  rw [Int.sub_eq_add_neg]
  exact e1l hx (by rwa [Int.natAbs_neg])
section
variable {H : Heap}
/-- c8x rows. -/
def RC (L : Heap) : Prop := ∀ b, some b ∈ L → ∀ a ∈ b.flat, Cl a
theorem RC.nil : RC [] := fun b h => by cases h
theorem RC.none {L : Heap} (h : RC L) : RC (none :: L) := fun b hb a ha => by
  rcases List.mem_cons.1 hb with e | e
  · cases e
  · exact h b e a ha
theorem RC.cons {b : Blk} {L : Heap} (hb : ∀ a ∈ b.flat, Cl a) (h : RC L) : RC (some b :: L) := fun c hc a ha => by
  rcases List.mem_cons.1 hc with e | e
  · cases e; exact hb a ha
  · exact h c e a ha
theorem RC.row {α : Type} {wd : Nat} {f : α → AV} {l : List α} {L : Heap} (hf : ∀ x, Cl (f x)) (h : RC L) : RC (some ⟨wd, l.map f⟩ :: L) := .cons (a1E wd f l hf) h
theorem RC.one {wd : Nat} {x : AV} {L : Heap} (hx : Cl x) (h : RC L) : RC (some ⟨wd, [x]⟩ :: L) := .cons (fun a ha => by
  simp only [Blk.flat, List.flatMap_cons, List.flatMap_nil, List.append_nil] at ha
  exact b4O hx a ha) h
theorem RC.emp {wd : Nat} {L : Heap} (h : RC L) : RC (some ⟨wd, []⟩ :: L) := .cons (fun a ha => by cases ha) h
theorem RC.zero {L : Heap} (h : RC L) : RC (some ⟨2, [.agg [.bool false, .nil]]⟩ :: L) := .one (.agg _ (by
  intro c hc
  simp only [List.mem_cons, List.not_mem_nil, or_false] at hc
  rcases hc with rfl | rfl
  · exact .bool _
  · exact .nil)) h
theorem a5p {α : Type} (hH : a0E H) {L : Heap} (i : Nat) {n0 : Nat} (hn : n0 ≤ lid H i) {env : Env} {wd bytes : Nat} {f : α → AV} (hf : ∀ x, Cl (f x)) (l : List α) (x : α) (l' : List α) {y : AV} {len : Nat}
    (hlen : len = l.length) (hl : L[i]? = some (some ⟨wd, l.map f⟩)) (hL : RC L) (hy : y = f x) (hl' : l' = l ++ [x]) (hb : (len + 1) * bytes ≤ 140737488355328) (hbb : len + 1 ≤ 9223372036854775807) :
    appV n0 wd bytes false (.mu (lid H i) 0 len none) (.sl wd [y]) env (hap H L) = some (.mu (lid H i) 0 (len + 1) none, scrub (lid H i) env, hap H (L.set i (some ⟨wd, l'.map f⟩))) := by
  subst hy
  subst hl'
  have := b2p n0 env H L wd bytes false i len none (.sl wd [f x]) (l.map f) [f x] hH hl (by rw [List.length_map]; exact hlen) hn (a3z _ wd _) (b2o hL) (by
    intro a ha
    simp at ha
    exact (b4O (hf x) a ha).ref) (by simpa using hb) (by simpa using hbb) rfl
  simpa [a1l] using this
theorem e3q {α : Type} {L : Heap} (i : Nat) {n0 : Nat} (hn : n0 ≤ lid H i) {env : Env} {wd bytes : Nat} {f : α → AV} (l : List α) (x : α) (l' : List α) {y : AV} {len c : Nat}
    (hlen : len = l.length) (hl : L[i]? = some (some ⟨wd, l.map f⟩)) (hy : y = f x) (hl' : l' = l ++ [x]) (hc : len + 1 ≤ c) :
    appV n0 wd bytes false (.mu (lid H i) 0 len (some c)) (.sl wd [y]) env (hap H L) = some (.mu (lid H i) 0 (len + 1) (some c), env, hap H (L.set i (some ⟨wd, l'.map f⟩))) := by
  subst hy
  subst hl'
  have := e1h n0 env H L wd bytes false i len c (.sl wd [f x]) (l.map f) [f x] hl (by rw [List.length_map]; exact hlen) hn (a3z _ wd _) (by simp) (by simpa using hc)
  simpa using this
theorem e2k (env : Env) (L : Heap) (wd bytes : Nat) (z : AV) (k k' : IntKind) (c : Nat) (h0 : 0 < wd) (h2 : bytes * c ≤ 281474976710656) (h3 : c ≤ 9223372036854775807) :
    c5e wd bytes z (.int k 0) (.int k' c) env (hap H L) = some (.mu (lid H L.length) 0 0 (some c), env, hap H (L ++ [some ⟨wd, []⟩])) := by
  have := d2x env H L wd bytes z k k' 0 c h0 (Nat.zero_le _) h2 h3
  simpa using this
theorem e0x {α : Type} (i wd : Nat) (f : α → AV) (l : List α) (len : Nat) (oc : Option Nat) (h : len = l.length) : frz (lid H i) ⟨wd, l.map f⟩ (.mu (lid H i) 0 len oc) = .sl wd (l.map f) := by
  subst h; exact a8l H i wd f l oc
section
variable {x : Cx} {todo : List AItem} {env : Env} {R : AV → Heap → Prop} {a b c d e : Option Blk}
theorem Safe.drop1 (hH : a0E H) (hx : x.n0 = H.length) (he : env.all (fun p => nref (lid H 1) p.2) = true) (hL : RC [a]) (h : Safe x todo env (hap H [a]) R) : Safe x todo env (hap H [a, b]) R := Safe.dropC (L := [a]) hH hx he hL h
theorem Safe.drop2 (hH : a0E H) (hx : x.n0 = H.length) (he : env.all (fun p => nref (lid H 2) p.2) = true) (hL : RC [a, b]) (h : Safe x todo env (hap H [a, b]) R) : Safe x todo env (hap H [a, b, c]) R := Safe.dropC (L := [a, b]) hH hx he hL h
theorem Safe.drop3 (hH : a0E H) (hx : x.n0 = H.length) (he : env.all (fun p => nref (lid H 3) p.2) = true) (hL : RC [a, b, c]) (h : Safe x todo env (hap H [a, b, c]) R) : Safe x todo env (hap H [a, b, c, d]) R := Safe.dropC (L := [a, b, c]) hH hx he hL h
theorem Safe.drop4 (hH : a0E H) (hx : x.n0 = H.length) (he : env.all (fun p => nref (lid H 4) p.2) = true) (hL : RC [a, b, c, d]) (h : Safe x todo env (hap H [a, b, c, d]) R) : Safe x todo env (hap H [a, b, c, d, e]) R := Safe.dropC (L := [a, b, c, d]) hH hx he hL h
end
/-- A number not yet written is told as 0. -/
theorem Safe.told0 (i : Nat) {x : Cx} {todo : List AItem} {env : Env} {L : Heap} {R : AV → Heap → Prop} (hl : L[i]? = some (some ⟨2, [.agg [.bool false, .nil]]⟩)) (h : Safe x todo env (hap H (L.set i (some ⟨2, [Z 0]⟩))) R) : Safe x todo env (hap H L) R := by
  rw [e4e] at h
  refine Safe.toldRow (b' := ⟨2, [.agg [.bool false, natV []]]⟩) i hl rfl (by intro y hy; simp at hy; subst hy; rfl) rfl (by simp) ?_ h
  intro k a c ha hc
  match k with
  | 0 => cases ha; cases hc; exact Le.refl _
  | 1 => cases ha; cases hc; exact Le.nil 1 (by decide)
  | k + 2 => simp [Blk.flat, AV.cells] at ha
end
end Go.Abs
set_option linter.unusedVariables false
set_option linter.unusedSimpArgs false
set_option linter.defProp false
namespace Go.Abs
section
variable {x : Cx} {todo : List AItem} {env : Env} {R : AV → Heap → Prop} {H : Heap} {b : Option Blk}
theorem Safe.drop0 (hH : a0E H) (hx : x.n0 = H.length) (he : env.all (fun p => nref (lid H 0) p.2) = true) (hL : RC []) (h : Safe x todo env (hap H []) R) : Safe x todo env (hap H [b]) R := Safe.dropC (L := []) hH hx he hL h
end
theorem c5L (p : Nat → Prop) [DecidablePred p] : ∀ (n : Nat), (∀ i, i < n → p i) ∨ ∃ i, i < n ∧ ¬ p i ∧ ∀ j, j < i → p j
  | 0 => .inl fun i hi => absurd hi (by omega)
  | n + 1 => by
    rcases c5L p n with h | ⟨i, hi, h1, h2⟩
    · by_cases hp : p n
      · exact .inl fun i hi => by
          rcases Nat.lt_or_ge i n with h' | h'
          · exact h i h'
          · rw [show i = n by omega]; exact hp
      · exact .inr ⟨n, by omega, hp, h⟩
    · exact .inr ⟨i, by omega, h1, h2⟩
def lead? (v : List ZI) : Option Nat := (List.range v.length).find? fun i => decide (zg v i ≠ 0)
def c5x (v : List ZI) : Int := match lead? v with
  | some i => i
  | none => -1
def upS (v : List ZI) : Int := match lead? v with
  | some i => if zg v i < 0 then -1 else 1
  | none => 1
theorem e0a {v : List ZI} {i : Nat} (hi : i < v.length) (h0 : zg v i ≠ 0) (h : ∀ j, j < i → zg v j = 0) : lead? v = some i := by
  unfold lead?
  have e : List.range v.length = List.range i ++ (i :: (List.range' (i + 1) (v.length - (i + 1)))) := by
    rw [List.range_eq_range', List.range_eq_range', ← List.range'_succ, show v.length = i + (v.length - i) by omega, ← List.range'_append_1]
    rw [show i + (v.length - i) - (i + 1) + 1 = v.length - i by omega]
    simp
  rw [e, List.find?_append]
  have : (List.range i).find? (fun i => decide (zg v i ≠ 0)) = none := by
    rw [List.find?_eq_none]
    intro x hx
    simp [h x (List.mem_range.1 hx)]
  rw [this]
  simp [h0]
theorem d2D {v : List ZI} (h : ∀ j, j < v.length → zg v j = 0) : lead? v = none := by
  unfold lead?
  rw [List.find?_eq_none]
  intro x hx
  simp [h x (List.mem_range.1 hx)]
theorem b2h (v : List ZI) : (∃ i, i < v.length ∧ zg v i ≠ 0 ∧ (∀ j, j < i → zg v j = 0) ∧ c5x v = i ∧ upS v = if zg v i < 0 then -1 else 1) ∨ ((∀ j, j < v.length → zg v j = 0) ∧ c5x v = -1 ∧ upS v = 1) := by
  rcases c5L (fun i => zg v i = 0) v.length with h | ⟨i, hi, h1, h2⟩
  · exact .inr ⟨h, by rw [c5x, d2D h], by rw [upS, d2D h]⟩
  · exact .inl ⟨i, hi, h1, h2, by rw [c5x, e0a hi h1 h2], by rw [upS, e0a hi h1 h2]⟩
def Rect (b : List (List ZI)) : Prop := ∀ i, i < b.length → (mg b i).length = (mg b 0).length
def wid (b : List (List ZI)) : Nat := (mg b 0).length
theorem c6V (b : List (List ZI)) : Rect b ∨ ∃ i, i < b.length ∧ (mg b i).length ≠ (mg b 0).length ∧ ∀ j, j < i → (mg b j).length = (mg b 0).length :=
  c5L (fun i => (mg b i).length = (mg b 0).length) b.length
theorem a6V (H : Heap) (v : List (List ZI)) (k : IntKind) (h : 0 < v.length) : idxV H 1 (matV v) (.int k 0) = some (.ro (vecV v[0]) 0) := a2b H v k 0 h
theorem b1x (H : Heap) (i : Nat) (v : List ZI) (len : Nat) (oc : Option Nat) (h : len = v.length) : frz (lid H i) ⟨2, v.map ZI.av⟩ (.mu (lid H i) 0 len oc) = vecV v := e0x i 2 ZI.av v len oc h
theorem c9U (H : Heap) (i : Nat) (v : List (List ZI)) (len : Nat) (oc : Option Nat) (h : len = v.length) : frz (lid H i) ⟨1, v.map vecV⟩ (.mu (lid H i) 0 len oc) = matV v := e0x i 1 vecV v len oc h
theorem a4m (id : Nat) (b : Blk) (v : List ZI) : (v.map ZI.av).map (frz id b) = v.map ZI.av := e0z id b ZI.av v ZI.cl
theorem a6h (id : Nat) (b : Blk) (v : List (List ZI)) : (v.map vecV).map (frz id b) = v.map vecV := e0z id b vecV v a0e
end Go.Abs
set_option linter.unusedVariables false
set_option linter.unusedSimpArgs false
set_option linter.defProp false
namespace Go.Abs
theorem mgz {b : List (List ZI)} {i j : Nat} (hi : i < b.length) (hj : j < b[i].length) : b[i][j].z = zg (mg b i) j := by rw [a3T hi, c2E hj]
theorem e6D {b : List (List ZI)} (hr : Rect b) {i : Nat} (hi : i < b.length) : b[i].length = wid b := by
  have := hr i hi
  rwa [a3T hi] at this
end Go.Abs
set_option linter.unusedVariables false
set_option linter.unusedSimpArgs false
namespace Go.Abs
/-- The guess is not below the digit. -/
theorem d6i {u v : List Nat} {n : Nat} (hu : Lim u) (hv : Lim v) (hun : u.length = n + 1) (hvn : v.length = n) (hn : 0 < n) (hv0 : 0 < val v) (hlt : val u < LB * val v) (ht : 0 < v.getD (n - 1) 0) :
    val u / val v ≤ min ((u.getD n 0 * LB + u.getD (n - 1) 0) / v.getD (n - 1) 0) (LB - 1) := by
  have hq1 : val u / val v ≤ LB - 1 := by
    have : val u / val v < LB := by rw [Nat.div_lt_iff_lt_mul hv0]; exact hlt
    omega
  refine Nat.le_min.2 ⟨?_, hq1⟩
  rw [Nat.le_div_iff_mul_le ht]
  have hs := a3x u (n - 1)
  have hsv := a3x v (n - 1)
  have hdu : val (u.drop (n - 1)) = u.getD (n - 1) 0 + LB * u.getD n 0 := by
    have e : u.drop (n - 1) = [u.getD (n - 1) 0, u.getD n 0] := by
      apply List.ext_getElem
      · simp; omega
      · intro i h1 h2
        match i with
        | 0 => simp [List.getD_eq_getElem?_getD, List.getElem?_eq_getElem (show n - 1 < u.length by omega)]
        | 1 =>
          simp only [List.getElem_drop, List.getElem_cons_succ, List.getElem_cons_zero]
          rw [List.getD_eq_getElem?_getD, List.getElem?_eq_getElem (show n < u.length by omega)]
          simp only [show n - 1 + 1 = n by omega]; rfl
        | i + 2 => simp at h2; omega
    rw [e]; simp [val]
  have hdv : val (v.drop (n - 1)) = v.getD (n - 1) 0 := by
    have e : v.drop (n - 1) = [v.getD (n - 1) 0] := by
      apply List.ext_getElem
      · simp; omega
      · intro i h1 h2
        match i with
        | 0 => simp [List.getD_eq_getElem?_getD, List.getElem?_eq_getElem (show n - 1 < v.length by omega)]
        | i + 1 => simp at h2
    rw [e]; simp [val]
  have htu := a3g hu (n - 1)
  have hle : val u / val v * val v ≤ val u := Nat.div_mul_le_self _ _
  generalize val u / val v = q at *
  generalize hP : LB ^ (n - 1) = P at *
  have hPp : 0 < P := by rw [← hP]; exact Nat.pow_pos (by decide)
  rw [hdu] at hs
  rw [hdv] at hsv
  generalize v.getD (n - 1) 0 = vt at *
  have e2 : LB * u.getD n 0 = u.getD n 0 * LB := Nat.mul_comm _ _
  generalize u.getD (n - 1) 0 = ua at *
  have hbig : q * vt * P < (u.getD n 0 * LB + ua + 1) * P := by
    have h1 : q * (P * vt) ≤ q * val v := Nat.mul_le_mul_left _ (by omega)
    have h2 : q * (P * vt) = q * vt * P := by rw [Nat.mul_comm P vt, Nat.mul_assoc]
    have h3 : (u.getD n 0 * LB + ua + 1) * P = P * (ua + LB * u.getD n 0) + P := by
      rw [Nat.add_mul, Nat.one_mul, Nat.mul_comm _ P, e2, Nat.add_comm ua]
    omega
  have := Nat.lt_of_mul_lt_mul_right hbig
  omega
end Go.Abs
set_option linter.unusedVariables false
set_option linter.unusedSimpArgs false
namespace Go.Abs
def fl (n : Nat) (f : Nat → Nat) : List Nat := (List.range n).map f
/-- A digit. -/
def dig (M i : Nat) : Nat := M / LB ^ i % LB
theorem b8i (M i : Nat) : dig M i < LB := Nat.mod_lt _ (by decide)
theorem a1c (n : Nat) (f : Nat → Nat) : (fl n f).length = n := by simp [fl]
theorem b7K {n : Nat} {f : Nat → Nat} {i : Nat} (h : i < n) : (fl n f).getD i 0 = f i := by
  simp [fl, List.getD_eq_getElem?_getD, h]
theorem a3d {n : Nat} {f g : Nat → Nat} (h : ∀ i, i < n → f i = g i) : fl n f = fl n g := List.map_congr_left fun i hi => h i (List.mem_range.1 hi)
theorem e0D (n : Nat) (f : Nat → Nat) (i v : Nat) : (fl n f).set i v = fl n fun j => if j = i then v else f j := by
  apply List.ext_getElem
  · simp [fl]
  · intro j h1 h2
    rw [List.getElem_set]
    simp only [fl, List.getElem_map, List.getElem_range]
    by_cases h : i = j
    · subst h; simp
    · rw [if_neg h, if_neg (fun e => h e.symm)]
theorem e3V {n : Nat} {f : Nat → Nat} (h : ∀ i, i < n → f i < LB) : Lim (fl n f) := by
  intro d hd
  obtain ⟨i, hi, rfl⟩ := List.mem_map.1 hd
  exact h i (List.mem_range.1 hi)
theorem e5l (n : Nat) : List.replicate n 0 = fl n fun _ => 0 := by
  apply List.ext_getElem <;> simp [fl]
theorem c9Y (n : Nat) (f : Nat → Nat) : fl (n + 1) f = fl n f ++ [f n] := by simp [fl, List.range_succ]
theorem e5m {l : List Nat} {n : Nat} (h : l.length = n) : l = fl n fun i => l.getD i 0 := by
  subst h
  apply List.ext_getElem
  · simp [fl]
  · intro i h1 h2; simp [fl, List.getD_eq_getElem?_getD, h1]
theorem d5h {n k : Nat} (f : Nat → Nat) (h : k ≤ n) : (fl n f).take k = fl k f := by
  apply List.ext_getElem
  · simp [fl]; omega
  · intro i h1 h2; simp [fl]
theorem e3H (M : Nat) : ∀ n, val (fl n (dig M)) = M % LB ^ n
  | 0 => by simp [fl, val, Nat.mod_one]
  | n + 1 => by
    rw [c9Y, a2F, e3H M n, a1c, Nat.pow_succ, Nat.mod_mul]; rfl
theorem a1S {M n : Nat} (h : M < LB ^ n) : val (fl n (dig M)) = M := by rw [e3H, Nat.mod_eq_of_lt h]
theorem a2M (M n : Nat) : Lim (fl n (dig M)) := e3V fun i _ => b8i M i
/-- A row's digits. -/
theorem d0m {l : List Nat} (hl : Lim l) (i : Nat) : dig (val l) i = l.getD i 0 := by
  unfold dig
  rw [a3x l i]
  rcases Nat.lt_or_ge l.length i with h | h
  · have : l.drop i = [] := List.drop_eq_nil_of_le (by omega)
    rw [this, List.take_of_length_le (by omega), a7a (by omega)]
    simp only [val, Nat.mul_zero, Nat.add_zero]
    have h2 : val l < LB ^ i := Nat.lt_of_lt_of_le (a0Z hl) (Nat.pow_le_pow_right (by decide) (by omega))
    rw [Nat.div_eq_of_lt h2]; rfl
  · have h1 := a3g hl i
    rw [Nat.add_mul_div_left _ _ (a5y i), Nat.div_eq_of_lt h1, Nat.zero_add]
    have : l.getD i 0 = (l.drop i).getD 0 0 := by rw [c5H, Nat.add_zero]
    rw [this]
    cases hd : l.drop i with
    | nil => rfl
    | cons d r =>
      have hlt : d < LB := (hl.drop i) d (by rw [hd]; simp)
      simp only [val, List.getD_cons_zero]
      rw [Nat.add_mul_mod_self_left, Nat.mod_eq_of_lt hlt]
theorem b9d {l : List Nat} (hl : Lim l) {n : Nat} (h : l.length = n) : l = fl n (dig (val l)) := by
  rw [e5m h]
  refine a3d fun i _ => ?_
  rw [← e5m h, d0m hl]
theorem b2l {M i : Nat} (h : M < LB ^ i) : dig M i = 0 := by unfold dig; rw [Nat.div_eq_of_lt h]; rfl
theorem e0L (M a i : Nat) : dig (M / LB ^ a) i = dig M (a + i) := by
  unfold dig; rw [Nat.div_div_eq_div_mul, ← Nat.pow_add]
theorem c5V {M a i : Nat} (K : Nat) (h : i < a) : dig (M + LB ^ a * K) i = dig M i := by
  unfold dig
  have : LB ^ a * K = LB ^ i * (LB * (LB ^ (a - i - 1) * K)) := by
    rw [← Nat.mul_assoc LB, ← Nat.pow_succ', Nat.succ_eq_add_one, show a - i - 1 + 1 = a - i by omega, ← Nat.mul_assoc, ← Nat.pow_add, show i + (a - i) = a by omega]
  rw [this, Nat.add_mul_div_left _ _ (a5y i), Nat.add_mul_mod_self_left]
/-- Words side by side. -/
theorem e6P {x y : Nat} (k : Nat) (hx : x < 2 ^ (64 - k)) (hk : k ≤ 64) (hy : y < 2 ^ k) : (BitVec.ofInt 64 ((x * 2 ^ k : Nat) : Int) ||| BitVec.ofInt 64 ((y : Nat) : Int)).toNat = x * 2 ^ k + y := by
  have e : 2 ^ 64 = 2 ^ (64 - k) * 2 ^ k := by rw [← Nat.pow_add]; congr 1; omega
  have hx2 : x * 2 ^ k < 2 ^ 64 := by rw [e]; exact Nat.mul_lt_mul_of_pos_right hx (Nat.pow_pos (by decide))
  have hy2 : y < 2 ^ 64 := Nat.lt_of_lt_of_le hy (Nat.pow_le_pow_right (by decide) hk)
  rw [BitVec.toNat_or]
  simp only [BitVec.ofInt_natCast, BitVec.toNat_ofNat]
  rw [Nat.mod_eq_of_lt hx2, Nat.mod_eq_of_lt hy2]
  have := Nat.shiftLeft_add_eq_or_of_lt hy x
  rw [Nat.shiftLeft_eq] at this
  exact this.symm
theorem e1W {x y : Nat} (k : Nat) (hx : x < 2 ^ (32 - k)) (hk : k ≤ 32) (hy : y < 2 ^ k) : (BitVec.ofInt 32 ((y : Nat) : Int) ||| BitVec.ofInt 32 ((x * 2 ^ k : Nat) : Int)).toNat = x * 2 ^ k + y := by
  have e : 2 ^ 32 = 2 ^ (32 - k) * 2 ^ k := by rw [← Nat.pow_add]; congr 1; omega
  have hx2 : x * 2 ^ k < 2 ^ 32 := by rw [e]; exact Nat.mul_lt_mul_of_pos_right hx (Nat.pow_pos (by decide))
  have hy2 : y < 2 ^ 32 := Nat.lt_of_lt_of_le hy (Nat.pow_le_pow_right (by decide) hk)
  rw [BitVec.toNat_or]
  simp only [BitVec.ofInt_natCast, BitVec.toNat_ofNat]
  rw [Nat.mod_eq_of_lt hx2, Nat.mod_eq_of_lt hy2, Nat.or_comm]
  have := Nat.shiftLeft_add_eq_or_of_lt hy x
  rw [Nat.shiftLeft_eq] at this
  exact this.symm
theorem d3Q (B d L : Nat) : (B / L % d) * L + B % L = B - d * ((B / L / d) * L) ∧ d * ((B / L / d) * L) ≤ B := by
  have h1 := Nat.mod_add_div B L
  have h2 := Nat.mod_add_div (B / L) d
  have h3 : (B / L % d) * L + (d * (B / L / d)) * L = B / L * L := by rw [← Nat.add_mul, h2]
  have h4 : B / L * L = L * (B / L) := Nat.mul_comm _ _
  have h5 : d * (B / L / d * L) = (d * (B / L / d)) * L := (Nat.mul_assoc _ _ _).symm
  omega
theorem e6x (B d L : Nat) : ((B / L % d) * L + B % L) % d = B % d := by
  rw [(d3Q B d L).1, Nat.sub_mul_mod (d3Q B d L).2]
theorem e6y (B d L : Nat) : ((B / L % d) * L + B % L) / d = B / d % L := by
  rw [(d3Q B d L).1, Nat.sub_mul_div]
  have h2 : B / L / d = B / d / L := by rw [Nat.div_div_eq_div_mul, Nat.mul_comm, ← Nat.div_div_eq_div_mul]
  rw [h2]
  have h4 := Nat.mod_add_div (B / d) L
  have h5 : L * (B / d / L) = B / d / L * L := Nat.mul_comm _ _
  omega
theorem b1M (A i : Nat) : A / LB ^ (i + 1) = A / LB ^ i / LB := by rw [Nat.pow_succ, Nat.div_div_eq_div_mul]
theorem c3K (A d i : Nat) : ((A / LB ^ (i + 1) % d) * LB + dig A i) % d = A / LB ^ i % d := by
  rw [b1M]; exact e6x _ _ _
theorem c3L (A d i : Nat) : ((A / LB ^ (i + 1) % d) * LB + dig A i) / d = dig (A / d) i := by
  rw [b1M]
  have e : dig (A / d) i = A / LB ^ i / d % LB := by unfold dig; rw [Nat.div_div_eq_div_mul, Nat.mul_comm d, ← Nat.div_div_eq_div_mul]
  rw [e]
  exact e6y _ _ _
end Go.Abs
set_option linter.unusedVariables false
set_option linter.unusedSimpArgs false
set_option linter.defProp false
namespace Go.Abs
theorem a2l {x : Nat} (h : x < 18446744073709551616) : IntKind.wrap .u64 (x : Int) = (x : Int) := a0F (by omega) (by omega)
theorem d0J {x : Nat} (h : x < 9223372036854775808) : IntKind.wrap .i64 (x : Int) = (x : Int) := a0a (by omega) (by omega)
theorem c9D {x y : Nat} (h : 0 < y) (hx : x < 18446744073709551616) : binV .quo (.int .u64 (x : Int)) (.int .u64 (y : Int)) = some (.int .u64 ((x / y : Nat) : Int)) := by
  rw [c3g _ _ _ (by omega), Int.tdiv_eq_ediv_of_nonneg (by omega)]
  have h2 : x / y ≤ x := Nat.div_le_self _ _
  have : (x : Int) / (y : Int) = ((x / y : Nat) : Int) := rfl
  rw [this, a2l (by omega)]
theorem d9u {x y : Nat} (h : 0 < y) : binV .rem (.int .u64 (x : Int)) (.int .u64 (y : Int)) = some (.int .u64 ((x % y : Nat) : Int)) := by
  rw [d0v _ _ _ (by omega), Int.tmod_eq_emod_of_nonneg (by omega)]; rfl
theorem e1N {x y : Nat} (h : 0 < y) (hx : x < 9223372036854775808) : binV .quo (.int .i64 (x : Int)) (.int .i64 (y : Int)) = some (.int .i64 ((x / y : Nat) : Int)) := by
  rw [c3g _ _ _ (by omega), Int.tdiv_eq_ediv_of_nonneg (by omega)]
  have h2 : x / y ≤ x := Nat.div_le_self _ _
  have : (x : Int) / (y : Int) = ((x / y : Nat) : Int) := rfl
  rw [this, d0J (by omega)]
theorem e1M {x y : Nat} (h : 0 < y) : binV .rem (.int .i64 (x : Int)) (.int .i64 (y : Int)) = some (.int .i64 ((x % y : Nat) : Int)) := by
  rw [d0v _ _ _ (by omega), Int.tmod_eq_emod_of_nonneg (by omega)]; rfl
theorem a9V {x : Nat} (h : x < LB) : IntKind.wrap .u32 (x : Int) = (x : Int) := a3w (by omega) (by have : LB = 4294967296 := rfl; omega)
theorem a5K {x y : Nat} (h : x + y < 18446744073709551616) : IntKind.wrap .u64 ((x : Int) + (y : Int)) = ((x + y : Nat) : Int) := by rw [a0F (by omega) (by omega)]; omega
theorem b8t {x y : Nat} (h : x * y < 18446744073709551616) : IntKind.wrap .u64 ((x : Int) * (y : Int)) = ((x * y : Nat) : Int) := by
  rw [← Int.natCast_mul]; exact a2l h
/-- Shifts by less than 32. -/
theorem e6w {x n : Nat} (hx : x < LB) (hn : n < 33) : b0K .shl .u64 (x : Int) (n : Int) = some (.int .u64 ((x * 2 ^ n : Nat) : Int)) := by
  rw [d0O _ _ _ (by omega)]
  have hm : min (Int.toNat (n : Int)) IntKind.u64.bits = n := by
    show min n 64 = n
    omega
  rw [hm]
  have h2 : x * 2 ^ n < 18446744073709551616 := by
    have h3 : 2 ^ n ≤ 2 ^ 32 := Nat.pow_le_pow_right (by decide) (by omega)
    have h4 : x * 2 ^ n ≤ x * 2 ^ 32 := Nat.mul_le_mul_left _ h3
    have : LB = 4294967296 := rfl
    have : (2 : Nat) ^ 32 = 4294967296 := by decide
    omega
  have : (x : Int) * 2 ^ n = ((x * 2 ^ n : Nat) : Int) := by simp
  rw [this, a2l h2]
theorem e4t {x : Nat} (hx : x < LB) : b0K .shl .u64 (x : Int) 32 = some (.int .u64 ((x * LB : Nat) : Int)) := e6w (n := 32) hx (by decide)
theorem e4r {x n : Nat} (hn : n ≤ 64) : b0K .shr .u64 (x : Int) (n : Int) = some (.int .u64 ((x / 2 ^ n : Nat) : Int)) := by
  rw [a3A _ _ _ (by omega)]
  have hm : min (Int.toNat (n : Int)) IntKind.u64.bits = n := by
    show min n 64 = n
    omega
  rw [hm, Int.fdiv_eq_ediv_of_nonneg _ (by exact Int.pow_nonneg (by decide))]
  have : (2 : Int) ^ n = ((2 ^ n : Nat) : Int) := by simp
  rw [this]; rfl
theorem d9e (x : Nat) : b0K .shr .u64 (x : Int) 32 = some (.int .u64 ((x / LB : Nat) : Int)) := e4r (n := 32) (by decide)
theorem c3C {x y : Nat} (hx : x < LB) (hy : y < LB) : IntKind.wrap .u64 (((BitVec.ofInt (IntKind.bits .u64) ((x * LB : Nat) : Int) ||| BitVec.ofInt (IntKind.bits .u64) (y : Int)).toNat : Nat) : Int) = ((x * LB + y : Nat) : Int) := by
  have h := e6P (x := x) (y := y) 32 hx (by decide) hy
  have e : (2 : Nat) ^ 32 = LB := by decide
  rw [e] at h
  have h' : (BitVec.ofInt (IntKind.bits .u64) ((x * LB : Nat) : Int) ||| BitVec.ofInt (IntKind.bits .u64) (y : Int)).toNat = x * LB + y := h
  rw [h', a2l (by
    have : LB = 4294967296 := rfl
    have : x * LB ≤ 4294967295 * LB := Nat.mul_le_mul_right _ (by omega)
    omega)]
theorem d6U {x y : Nat} (hx : x < LB) (hy : y < LB) : IntKind.wrap .u64 (((BitVec.ofInt (IntKind.bits .u64) (y : Int) ||| BitVec.ofInt (IntKind.bits .u64) ((x * LB : Nat) : Int)).toNat : Nat) : Int) = ((x * LB + y : Nat) : Int) := by
  rw [BitVec.or_comm]; exact c3C hx hy
theorem d8N {x y : Nat} (k : Nat) (hx : x < 2 ^ (32 - k)) (hk : k ≤ 32) (hy : y < 2 ^ k) : IntKind.wrap .u32 (((BitVec.ofInt (IntKind.bits .u32) (y : Int) ||| BitVec.ofInt (IntKind.bits .u32) ((x * 2 ^ k : Nat) : Int)).toNat : Nat) : Int) = ((x * 2 ^ k + y : Nat) : Int) := by
  have h : (BitVec.ofInt (IntKind.bits .u32) (y : Int) ||| BitVec.ofInt (IntKind.bits .u32) ((x * 2 ^ k : Nat) : Int)).toNat = x * 2 ^ k + y := e1W k hx hk hy
  rw [h, a9V]
  have e : 2 ^ 32 = 2 ^ (32 - k) * 2 ^ k := by rw [← Nat.pow_add]; congr 1; omega
  have h1 : (x + 1) * 2 ^ k ≤ 2 ^ (32 - k) * 2 ^ k := Nat.mul_le_mul_right _ hx
  rw [← e, Nat.add_mul] at h1
  have : LB = 2 ^ 32 := by decide
  omega
section
variable {H L : Heap} {n j len : Nat} {f : Nat → Nat} {oc : Option Nat} {k : IntKind} {env : Env}
theorem d8v (h : j < len) {X : List AV} : idxV (hap H (some ⟨1, X⟩ :: L)) 1 (.mu (lid H 0) 0 len oc) (.int k j) = some (.loc (lid H 0) j 0) := by
  rw [d2w H _ 1 0 0 len oc k j rfl rfl h, Nat.zero_add]
theorem e7N {a : Option Blk} (h : j < len) {X : List AV} : idxV (hap H (a :: some ⟨1, X⟩ :: L)) 1 (.mu (lid H 1) 0 len oc) (.int k j) = some (.loc (lid H 1) j 0) := by
  rw [d2w H _ 1 1 0 len oc k j rfl rfl h, Nat.zero_add]
theorem fat0 (h : j < n) : atV (hap H (some ⟨1, u32s (fl n f)⟩ :: L)) (.loc (lid H 0) j 0) = some [.int .u32 (f j : Nat)] := by
  rw [c9J H _ 0 j rfl (by rw [a0w, a1c]; exact h)]
  simp only [b0H (l := fl n f) (i := j) (by rw [a1c]; exact h), b7K h, AV.cells]
theorem fst0 (h : j < n) (d : Nat) : a1T 1 (.loc (lid H 0) j 0) (.int .u32 (d : Int)) env (hap H (some ⟨1, u32s (fl n f)⟩ :: L)) = some (.top, env, hap H (some ⟨1, u32s (fl n fun i => if i = j then d else f i)⟩ :: L)) := by
  rw [b1Z env H _ 1 0 j 0 _ rfl (by rw [a0w, a1c]; exact h) rfl rfl (Nat.le_refl 1)]
  simp only [a2p, c2R, List.set_cons_zero, e0D]
theorem fst1 {a : Option Blk} (h : j < n) (d : Nat) : a1T 1 (.loc (lid H 1) j 0) (.int .u32 (d : Int)) env (hap H (a :: some ⟨1, u32s (fl n f)⟩ :: L)) = some (.top, env, hap H (a :: some ⟨1, u32s (fl n fun i => if i = j then d else f i)⟩ :: L)) := by
  rw [b1Z env H _ 1 1 j 0 _ rfl (by rw [a0w, a1c]; exact h) rfl rfl (Nat.le_refl 1)]
  simp only [a2p, c2R, List.set_cons_succ, List.set_cons_zero, e0D]
theorem b8Y {k' : IntKind} (h : n ≤ 35184372088832) : c5e 1 4 (.int .u32 0) (.int k n) (.int k' n) env (hap H L) = some (.mu (lid H L.length) 0 n (some n), env, hap H (L ++ [some ⟨1, u32s (fl n fun _ => 0)⟩])) := by
  rw [b2g env H L k k' n h, e5l]
theorem d2V (i : Nat) : frz (lid H i) ⟨1, u32s (fl n f)⟩ (.mu (lid H i) 0 n oc) = natV (fl n f) := by
  have := a8k H i (fl n f) oc
  rwa [a1c] at this
end
end Go.Abs
namespace Go.Abs
def sumR (f : Nat → Rat) : Nat → Rat
  | 0 => 0
  | n + 1 => sumR f n + f n
theorem a1d {f g : Nat → Rat} : ∀ {n : Nat}, (∀ i, i < n → f i = g i) → sumR f n = sumR g n
  | 0, _ => rfl
  | n + 1, h => by rw [sumR, sumR, a1d fun i hi => h i (by omega), h n (by omega)]
theorem a5r (x y : Rat) (f g : Nat → Rat) : ∀ n, sumR (fun i => x * f i + y * g i) n = x * sumR f n + y * sumR g n
  | 0 => by simp only [sumR]; grind
  | n + 1 => by simp only [sumR, a5r x y f g n]; grind
theorem c3H {f : Nat → Rat} : ∀ {n : Nat}, (∀ i, i < n → f i = 0) → sumR f n = 0
  | 0, _ => rfl
  | n + 1, h => by rw [sumR, c3H fun i hi => h i (by omega), h n (by omega)]; grind
theorem b5p {f : Nat → Rat} {t : Nat} : ∀ {n : Nat}, t < n → (∀ i, i < n → i ≠ t → f i = 0) → sumR f n = f t
  | 0, h, _ => absurd h (by omega)
  | n + 1, h, h0 => by
    rw [sumR]
    by_cases e : t = n
    · subst e
      rw [c3H fun i hi => h0 i (by omega) (by omega)]; grind
    · rw [b5p (by omega) fun i hi he => h0 i (by omega) he, h0 n (by omega) (by omega)]; grind
theorem d5D {f : Nat → Rat} {t : Nat} : ∀ {n : Nat}, t + 1 < n → (∀ i, i < n → i ≠ t → i ≠ t + 1 → f i = 0) → sumR f n = f t + f (t + 1)
  | 0, h, _ => absurd h (by omega)
  | n + 1, h, h0 => by
    rw [sumR]
    by_cases e : t + 1 = n
    · subst e
      rw [b5p (t := t) (by omega) fun i hi he => h0 i (by omega) he (by omega)]
    · rw [d5D (t := t) (by omega) fun i hi h1 h2 => h0 i (by omega) h1 h2, h0 n (by omega) (by omega) (by omega)]; grind
def sg : Nat → Rat
  | 0 => 1
  | n + 1 => -sg n
def skip (i k : Nat) : Nat := if k < i then k else k + 1
def det : Nat → (Nat → Nat → Rat) → Rat
  | 0, _ => 1
  | n + 1, M => sumR (fun i => sg i * M i 0 * det n fun r c => M (skip i r) (c + 1)) (n + 1)
theorem e4p (i k : Nat) : skip i k ≠ i := by unfold skip; split <;> omega
theorem d9d {i k n : Nat} (hk : k < n) : skip i k < n + 1 := by unfold skip; split <;> omega
theorem a1C : ∀ {n : Nat} {M N : Nat → Nat → Rat}, (∀ r c, r < n → c < n → M r c = N r c) → det n M = det n N
  | 0, _, _, _ => rfl
  | n + 1, M, N, h => by
    unfold det
    refine a1d fun i hi => ?_
    rw [h i 0 hi (by omega), a1C (n := n) fun r c hr hc => h (skip i r) (c + 1) (d9d hr) (by omega)]
def a0o (M : Nat → Nat → Rat) (t : Nat) (u : Nat → Rat) : Nat → Nat → Rat := fun r c => if r = t then u c else M r c
theorem a3h (M : Nat → Nat → Rat) (t : Nat) : a0o M t (M t) = M := by
  funext r c; unfold a0o; split
  · rename_i h; rw [h]
  · rfl
/-- Row t of the part without row i. -/
def e1y (i t : Nat) : Nat := if t < i then t else t - 1
theorem d7k {i t r : Nat} (h : i ≠ t) : (skip i r = t) = (r = e1y i t) := by
  rw [eq_iff_iff]; unfold skip e1y
  split <;> split <;> omega
theorem b0N {M : Nat → Nat → Rat} {t i : Nat} {u : Nat → Rat} (h : i ≠ t) : (fun r c => a0o M t u (skip i r) (c + 1)) = a0o (fun r c => M (skip i r) (c + 1)) (e1y i t) fun c => u (c + 1) := by
  funext r c
  unfold a0o
  simp only [d7k h]
theorem a3Y {M : Nat → Nat → Rat} {t : Nat} {u : Nat → Rat} : (fun r c => a0o M t u (skip t r) (c + 1)) = fun r c => M (skip t r) (c + 1) := by
  funext r c
  unfold a0o
  rw [if_neg (e4p t r)]
theorem d0p : ∀ {n : Nat} {M : Nat → Nat → Rat} {t : Nat} (x y : Rat) (u w : Nat → Rat), t < n → det n (a0o M t fun c => x * u c + y * w c) = x * det n (a0o M t u) + y * det n (a0o M t w)
  | 0, _, _, _, _, _, _, h => absurd h (by omega)
  | n + 1, M, t, x, y, u, w, h => by
    unfold det
    rw [← a5r]
    refine a1d fun i hi => ?_
    by_cases e : i = t
    · subst e
      rw [a3Y, a3Y, a3Y]
      simp only [a0o, if_true]
      grind
    · rw [b0N e, b0N e, b0N e, d0p x y _ _ (by unfold e1y; split <;> omega)]
      simp only [a0o, if_neg e]
      grind
theorem d5o : ∀ {n : Nat} {M : Nat → Nat → Rat} {t : Nat}, t + 1 < n → (∀ c, M t c = M (t + 1) c) → det n M = 0
  | 0, _, _, h, _ => absurd h (by omega)
  | n + 1, M, t, h, he => by
    unfold det
    have hm : (fun r c => M (skip t r) (c + 1)) = fun r c => M (skip (t + 1) r) (c + 1) := by
      funext r c
      unfold skip
      by_cases h1 : r < t
      · rw [if_pos h1, if_pos (by omega)]
      · rw [if_neg h1]
        by_cases h2 : r = t
        · rw [if_pos (by omega), h2, he]
        · rw [if_neg (by omega)]
    rw [d5D (t := t) h fun i hi h1 h2 => by
      have hz : det n (fun r c => M (skip i r) (c + 1)) = 0 := by
        refine d5o (t := if i < t then t - 1 else t) (by split <;> omega) fun c => ?_
        unfold skip
        by_cases h3 : i < t
        · rw [if_pos h3, if_neg (by omega), if_neg (by omega)]
          rw [show t - 1 + 1 = t by omega]
          exact he _
        · rw [if_neg h3, if_pos (by omega), if_pos (by omega)]
          exact he _
      rw [hz]; grind]
    rw [hm, he 0]
    simp only [sg]
    grind
/-- Two rows exchanged. -/
def a0D (s t : Nat) (M : Nat → Nat → Rat) : Nat → Nat → Rat := fun r c => if r = s then M t c else if r = t then M s c else M r c
theorem a1m {M : Nat → Nat → Rat} {s t : Nat} {u w : Nat → Rat} (h : s ≠ t) : a0o (a0o M s u) t w = a0o (a0o M t w) s u := by
  funext r c; unfold a0o
  by_cases h1 : r = t
  · by_cases h2 : r = s
    · omega
    · simp [h1]; intro e; omega
  · by_cases h2 : r = s
    · simp [h2]; intro e; omega
    · simp [h1, h2]
theorem d5p {n : Nat} {M : Nat → Nat → Rat} {t : Nat} (u w : Nat → Rat) (h : t < n) : det n (a0o M t fun c => u c + w c) = det n (a0o M t u) + det n (a0o M t w) := by
  have := d0p (M := M) 1 1 u w h
  have e : (fun c => (1 : Rat) * u c + 1 * w c) = fun c => u c + w c := by funext c; grind
  rw [e] at this
  grind
/-- If equal rows give 0, exchanged ones give the negative. -/
theorem c5W {n : Nat} {M : Nat → Nat → Rat} {s t : Nat} (hst : s ≠ t) (hs : s < n) (ht : t < n) (heq : ∀ N : Nat → Nat → Rat, (∀ c, N s c = N t c) → det n N = 0) : det n (a0D s t M) = -det n M := by
  let u := M s
  let w := M t
  have A : ∀ p q : Nat → Rat, (∀ c, p c = q c) → det n (a0o (a0o M s p) t q) = 0 := fun p q h => heq _ fun c => by
    unfold a0o
    simp [hst, h c]
  have h0 := A (fun c => u c + w c) (fun c => u c + w c) fun _ => rfl
  rw [d5p _ _ ht, a1m hst, a1m hst, d5p _ _ hs, d5p _ _ hs, ← a1m hst, ← a1m hst, ← a1m hst, ← a1m hst, A u u fun _ => rfl, A w w fun _ => rfl] at h0
  have e1 : a0o (a0o M s u) t w = M := by
    show a0o (a0o M s (M s)) t (M t) = M
    rw [a3h]; exact a3h M t
  have e2 : a0o (a0o M s w) t u = a0D s t M := by
    funext r c; unfold a0o a0D
    by_cases h1 : r = s
    · subst h1; simp [hst]; rfl
    · by_cases h2 : r = t
      · subst h2; simp [h1]; rfl
      · simp [h1, h2]
  rw [e1, e2] at h0
  grind
theorem d3h {n : Nat} {M : Nat → Nat → Rat} {t : Nat} (h : t + 1 < n) : det n (a0D t (t + 1) M) = -det n M :=
  c5W (by omega) (by omega) h fun N he => d5o h he
theorem e0N : ∀ (d : Nat) {n : Nat} {M : Nat → Nat → Rat} {s : Nat}, s + d + 1 < n → (∀ c, M s c = M (s + d + 1) c) → det n M = 0
  | 0, n, M, s, h, he => d5o (t := s) h he
  | d + 1, n, M, s, h, he => by
    have hsw := d3h (M := M) (t := s + d + 1) (n := n) (by omega)
    have : det n (a0D (s + d + 1) (s + d + 1 + 1) M) = 0 := e0N d (s := s) (by omega) fun c => by
      unfold a0D
      rw [if_neg (by omega), if_neg (by omega), if_pos rfl, he c]
      rfl
    rw [this] at hsw
    grind
theorem c5X {n : Nat} {M : Nat → Nat → Rat} {s t : Nat} (hst : s ≠ t) (hs : s < n) (ht : t < n) (he : ∀ c, M s c = M t c) : det n M = 0 := by
  rcases Nat.lt_or_gt_of_ne hst with h | h
  · exact e0N (t - s - 1) (s := s) (by omega) fun c => by rw [he c]; congr 1; omega
  · exact e0N (s - t - 1) (s := t) (by omega) fun c => by rw [← he c]; congr 1; omega
theorem d0n {n : Nat} {M : Nat → Nat → Rat} {s t : Nat} (hst : s ≠ t) (hs : s < n) (ht : t < n) : det n (a0D s t M) = -det n M :=
  c5W hst hs ht fun N he => c5X hst hs ht he
/-- So many times another row added. -/
theorem d8C {n : Nat} {M : Nat → Nat → Rat} {s t : Nat} (x : Rat) (hst : s ≠ t) (hs : s < n) (ht : t < n) : det n (a0o M t fun c => M t c + x * M s c) = det n M := by
  have h := d0p (M := M) 1 x (M t) (M s) ht
  have e : (fun c => (1 : Rat) * M t c + x * M s c) = fun c => M t c + x * M s c := by funext c; grind
  rw [e, a3h] at h
  have h0 : det n (a0o M t (M s)) = 0 := c5X hst hs ht fun c => by unfold a0o; simp [hst]
  rw [h, h0]
  grind
/-- What is left behind the first row and the first column. -/
def a3W (M : Nat → Nat → Rat) : Nat → Nat → Rat := fun i k => M (i + 1) (k + 1) - M (i + 1) 0 / M 0 0 * M 0 (k + 1)
def a6x (M : Nat → Nat → Rat) (k : Nat) : Nat → Nat → Rat := fun r c => if 0 < r ∧ r ≤ k then M r c + -(M r 0 / M 0 0) * M 0 c else M r c
theorem d6v {n : Nat} (M : Nat → Nat → Rat) : ∀ k, k < n → det n (a6x M k) = det n M
  | 0, _ => by congr 1; funext r c; unfold a6x; rw [if_neg (by omega)]
  | k + 1, h => by
    rw [← d6v M k (by omega), ← d8C (M := a6x M k) (s := 0) (t := k + 1) (-(M (k + 1) 0 / M 0 0)) (by omega) (by omega) h]
    congr 1
    funext r c
    unfold a0o a6x
    by_cases e : r = k + 1
    · subst e
      rw [if_pos ⟨by omega, Nat.le_refl _⟩, if_pos rfl]
      show _ = (if 0 < k + 1 ∧ k + 1 ≤ k then _ else _) + _ * (if 0 < 0 ∧ 0 ≤ k then _ else _)
      rw [if_neg (by omega), if_neg (by omega)]
    · by_cases h2 : 0 < r ∧ r ≤ k
      · rw [if_pos ⟨h2.1, by omega⟩, if_neg e, if_pos h2]
      · rw [if_neg (by omega), if_neg e, if_neg h2]
theorem b1N {n : Nat} {M : Nat → Nat → Rat} (h : M 0 0 ≠ 0) : det (n + 1) M = M 0 0 * det n (a3W M) := by
  rw [← d6v M n (by omega)]
  rw [det, b5p (t := 0) (by omega) fun i hi h0 => by
    have : a6x M n i 0 = 0 := by
      unfold a6x
      rw [if_pos ⟨by omega, by omega⟩]
      grind
    rw [this]; grind]
  have e0 : a6x M n 0 0 = M 0 0 := by unfold a6x; rw [if_neg (by omega)]
  rw [e0]
  have : det n (fun r c => a6x M n (skip 0 r) (c + 1)) = det n (a3W M) := by
    refine a1C fun r c hr hc => ?_
    have hs : skip 0 r = r + 1 := by unfold skip; rw [if_neg (by omega)]
    rw [hs]
    unfold a6x a3W
    rw [if_pos ⟨by omega, by omega⟩]
    generalize M (r + 1) 0 / M 0 0 = x
    grind
  rw [this]
  simp only [sg]
  grind
/-- A determinant of whole numbers is whole. -/
theorem e0M : ∀ {n : Nat} {M : Nat → Nat → Rat}, (∀ r c, ∃ z : Int, M r c = z) → ∃ z : Int, det n M = z
  | 0, _, _ => ⟨1, rfl⟩
  | n + 1, M, h => by
    unfold det
    have hs : ∀ i, ∃ z : Int, sg i = z := by
      intro i
      induction i with
      | zero => exact ⟨1, rfl⟩
      | succ i ih => obtain ⟨z, hz⟩ := ih; exact ⟨-z, by rw [sg, hz, Rat.intCast_neg]⟩
    have ht : ∀ i, ∃ z : Int, sg i * M i 0 * det n (fun r c => M (skip i r) (c + 1)) = z := fun i => by
      obtain ⟨a, ha⟩ := hs i
      obtain ⟨b, hb⟩ := h i 0
      obtain ⟨c, hc⟩ := e0M (n := n) (M := fun r c => M (skip i r) (c + 1)) fun r c => h _ _
      exact ⟨a * b * c, by rw [ha, hb, hc, Rat.intCast_mul, Rat.intCast_mul]⟩
    have : ∀ k, ∃ z : Int, sumR (fun i => sg i * M i 0 * det n fun r c => M (skip i r) (c + 1)) k = z := by
      intro k
      induction k with
      | zero => exact ⟨0, rfl⟩
      | succ k ih =>
        obtain ⟨z, hz⟩ := ih
        obtain ⟨y, hy⟩ := ht k
        exact ⟨z + y, by rw [sumR, hz, hy, Rat.intCast_add]⟩
    exact this (n + 1)
end Go.Abs
namespace Go.Abs
def SS : Nat → (Nat → Nat → Rat) → Nat → Nat → Rat
  | 0, M => M
  | r + 1, M => SS r (a3W M)
def piv : Nat → (Nat → Nat → Rat) → Prop
  | 0, _ => True
  | r + 1, M => M 0 0 ≠ 0 ∧ piv r (a3W M)
theorem e1p : ∀ (r : Nat) (M : Nat → Nat → Rat), SS (r + 1) M = a3W (SS r M)
  | 0, _ => rfl
  | r + 1, M => e1p r (a3W M)
theorem b7b : ∀ (r : Nat) (M : Nat → Nat → Rat), piv (r + 1) M ↔ piv r M ∧ SS r M 0 0 ≠ 0
  | 0, M => by simp [piv, SS]
  | r + 1, M => by
    have h := b7b r (a3W M)
    show M 0 0 ≠ 0 ∧ piv (r + 1) (a3W M) ↔ (M 0 0 ≠ 0 ∧ piv r (a3W M)) ∧ SS r (a3W M) 0 0 ≠ 0
    rw [h, and_assoc]
theorem e3X : ∀ (r n : Nat) {M : Nat → Nat → Rat}, piv r M → det (r + n) M = det r M * det n (SS r M)
  | 0, n, M, _ => by simp only [Nat.zero_add, det, SS]; grind
  | r + 1, n, M, h => by
    rw [show r + 1 + n = (r + n) + 1 by omega, b1N h.1, b1N h.1, e3X r n h.2]
    show _ = M 0 0 * det r (a3W M) * det n (SS r (a3W M))
    grind
theorem e5C (M : Nat → Nat → Rat) : det 1 M = M 0 0 := by
  simp only [det, sumR, sg]; grind
theorem d0o (r : Nat) {M : Nat → Nat → Rat} (h : piv r M) : det (r + 1) M = det r M * SS r M 0 0 := by
  rw [e3X r 1 h, e5C]
theorem e3W : ∀ (r : Nat) {M : Nat → Nat → Rat}, piv r M → det r M ≠ 0
  | 0, _, _ => by simp only [det]; grind
  | r + 1, M, h => by
    have h' := (b7b r M).1 h
    rw [d0o r h'.1]
    have := e3W r h'.1
    have := h'.2
    grind
/-- What is left depends on the first rows and columns, and on its own row and column. -/
theorem c6j : ∀ (r : Nat) {M N : Nat → Nat → Rat} {i j k l : Nat}, (∀ a b, a < r → b < r → M a b = N a b) → (∀ b, b < r → M (r + i) b = N (r + j) b) → (∀ a, a < r → M a (r + k) = N a (r + l)) → M (r + i) (r + k) = N (r + j) (r + l) → SS r M i k = SS r N j l
  | 0, M, N, i, j, k, l, _, _, _, h => by simpa [SS] using h
  | r + 1, M, N, i, j, k, l, h1, h2, h3, h4 => by
    show SS r (a3W M) i k = SS r (a3W N) j l
    have e : ∀ x : Nat, r + 1 + x = r + x + 1 := fun x => by omega
    have h2' : ∀ b, b < r + 1 → M (r + i + 1) b = N (r + j + 1) b := fun b hb => by rw [← e, ← e]; exact h2 b hb
    have h3' : ∀ a, a < r + 1 → M a (r + k + 1) = N a (r + l + 1) := fun a ha => by rw [← e, ← e]; exact h3 a ha
    have h4' : M (r + i + 1) (r + k + 1) = N (r + j + 1) (r + l + 1) := by rw [← e, ← e, ← e, ← e]; exact h4
    refine c6j r (fun a b ha hb => ?_) (fun b hb => ?_) (fun a ha => ?_) ?_
    · simp only [a3W]; rw [h1 (a + 1) (b + 1) (by omega) (by omega), h1 (a + 1) 0 (by omega) (by omega), h1 0 0 (by omega) (by omega), h1 0 (b + 1) (by omega) (by omega)]
    · simp only [a3W]; rw [h2' (b + 1) (by omega), h2' 0 (by omega), h1 0 0 (by omega) (by omega), h1 0 (b + 1) (by omega) (by omega)]
    · simp only [a3W]; rw [h3' (a + 1) (by omega), h1 (a + 1) 0 (by omega) (by omega), h1 0 0 (by omega) (by omega), h3' 0 (by omega)]
    · simp only [a3W]; rw [h4', h2' 0 (by omega), h1 0 0 (by omega) (by omega), h3' 0 (by omega)]
theorem b4o : ∀ (r : Nat) {M N : Nat → Nat → Rat}, (∀ a b, a < r → b < r → M a b = N a b) → piv r M → piv r N
  | 0, _, _, _, _ => trivial
  | r + 1, M, N, h, hp => by
    rw [b7b] at hp ⊢
    refine ⟨b4o r (fun a b ha hb => h a b (by omega) (by omega)) hp.1, ?_⟩
    rw [← c6j r (M := M) (N := N) (i := 0) (j := 0) (k := 0) (l := 0) (fun a b ha hb => h a b (by omega) (by omega)) (fun b hb => h _ _ (by omega) (by omega)) (fun a ha => h _ _ (by omega) (by omega)) (h _ _ (by omega) (by omega))]
    exact hp.2
/-- The columns in their order: the heads' places first, then all. -/
def colm (cs : List Nat) (b : Nat) : Nat := if b < cs.length then cs.getD b 0 else b - cs.length
def a0Y (B : Nat → Nat → Rat) (cs : List Nat) : Nat → Nat → Rat := fun a b => B a (colm cs b)
/-- Row i, as it stands when the a0Y cs are done; i is not among their rows. -/
def a1G (B : Nat → Nat → Rat) (cs : List Nat) (i k : Nat) : Rat := SS cs.length (a0Y B cs) (i - cs.length) k
def a4n (B : Nat → Nat → Rat) (cs : List Nat) : Rat := det cs.length (a0Y B cs)
def Piv (B : Nat → Nat → Rat) (cs : List Nat) : Prop := piv cs.length (a0Y B cs)
theorem b7G (B : Nat → Nat → Rat) (i k : Nat) : a1G B [] i k = B i k := by simp [a1G, SS, a0Y, colm]
theorem e0f (B : Nat → Nat → Rat) : a4n B [] = 1 := rfl
theorem a3Q {cs : List Nat} {c b : Nat} (h : b < cs.length) : colm (cs ++ [c]) b = colm cs b := by
  simp only [colm, List.length_append, List.length_cons, List.length_nil]
  rw [if_pos (by omega), if_pos h]
  simp [List.getD_eq_getElem?_getD, List.getElem?_append_left h]
theorem b2n {cs : List Nat} {c : Nat} : colm (cs ++ [c]) cs.length = c := by
  simp only [colm, List.length_append, List.length_cons, List.length_nil]
  rw [if_pos (by omega)]
  simp
theorem a3P (cs : List Nat) (k : Nat) : colm cs (cs.length + k) = k := by
  simp only [colm]; rw [if_neg (by omega)]; omega
theorem d6I {B : Nat → Nat → Rat} {cs : List Nat} {c : Nat} (i : Nat) : SS cs.length (a0Y B (cs ++ [c])) i 0 = a1G B cs (cs.length + i) c := by
  unfold a1G
  rw [Nat.add_sub_cancel_left]
  refine c6j _ (fun a b _ hb => ?_) (fun b hb => ?_) (fun a _ => ?_) ?_
  · simp only [a0Y]; rw [a3Q hb]
  · simp only [a0Y]; rw [a3Q hb]
  · simp only [a0Y]; rw [Nat.add_zero, b2n, a3P]
  · simp only [a0Y]; rw [Nat.add_zero, b2n, a3P]
theorem e4f {B : Nat → Nat → Rat} {cs : List Nat} {c : Nat} (i k : Nat) : SS cs.length (a0Y B (cs ++ [c])) i (k + 1) = a1G B cs (cs.length + i) k := by
  unfold a1G
  rw [Nat.add_sub_cancel_left]
  have e : colm (cs ++ [c]) (cs.length + (k + 1)) = k := by
    have := a3P (cs ++ [c]) k
    simp only [List.length_append, List.length_cons, List.length_nil] at this
    rw [show cs.length + (k + 1) = cs.length + (0 + 1) + k by omega]; exact this
  refine c6j _ (fun a b _ hb => ?_) (fun b hb => ?_) (fun a _ => ?_) ?_
  · simp only [a0Y]; rw [a3Q hb]
  · simp only [a0Y]; rw [a3Q hb]
  · simp only [a0Y]; rw [e, a3P]
  · simp only [a0Y]; rw [e, a3P]
theorem a1F (cs : List Nat) (c : Nat) : (cs ++ [c]).length = cs.length + 1 := by simp
/-- One more head. -/
theorem b9o (B : Nat → Nat → Rat) (cs : List Nat) (c : Nat) {i k : Nat} (hi : cs.length < i) : a1G B (cs ++ [c]) i k = a1G B cs i k - a1G B cs i c / a1G B cs cs.length c * a1G B cs cs.length k := by
  have h := e1p cs.length (a0Y B (cs ++ [c]))
  have e : a1G B (cs ++ [c]) i k = a3W (SS cs.length (a0Y B (cs ++ [c]))) (i - (cs.length + 1)) k := by
    unfold a1G
    rw [a1F, h]
  rw [e]
  simp only [a3W]
  rw [e4f, d6I, d6I, e4f, Nat.add_zero]
  rw [show cs.length + (i - (cs.length + 1) + 1) = i by omega]
  rfl
theorem c8q {B : Nat → Nat → Rat} {cs : List Nat} (hp : Piv B cs) (c : Nat) : a4n B (cs ++ [c]) = a4n B cs * a1G B cs cs.length c := by
  unfold a4n
  have hp' : piv cs.length (a0Y B (cs ++ [c])) := b4o _ (fun a b _ hb => by simp only [a0Y]; rw [a3Q hb]) hp
  rw [a1F, d0o _ hp', d6I, Nat.add_zero]
  congr 1
  exact a1C fun a b _ hb => by simp only [a0Y]; rw [a3Q hb]
theorem d5R {B : Nat → Nat → Rat} {cs : List Nat} (hp : Piv B cs) {c : Nat} (h : a1G B cs cs.length c ≠ 0) : Piv B (cs ++ [c]) := by
  unfold Piv
  rw [a1F, b7b]
  refine ⟨b4o _ (fun a b _ hb => by simp only [a0Y]; rw [a3Q hb]) hp, ?_⟩
  rw [d6I, Nat.add_zero]; exact h
theorem a6Y {B : Nat → Nat → Rat} {cs : List Nat} (hp : Piv B cs) : a4n B cs ≠ 0 := e3W _ hp
/-- Multiplied with the last head, what is left is whole. -/
theorem e0w {B : Nat → Nat → Rat} {cs : List Nat} (hp : Piv B cs) (hB : ∀ i k, ∃ z : Int, B i k = z) {i : Nat} (k : Nat) (hi : cs.length ≤ i) : ∃ z : Int, a4n B cs * a1G B cs i k = z := by
  let N : Nat → Nat → Rat := fun a b => B (if a = cs.length then i else a) (colm (cs ++ [k]) b)
  obtain ⟨z, hz⟩ := e0M (n := cs.length + 1) (M := N) fun r c => hB _ _
  refine ⟨z, ?_⟩
  have hN : ∀ a b, a < cs.length → b < cs.length → a0Y B cs a b = N a b := fun a b ha hb => by
    simp only [N, a0Y]
    rw [if_neg (by omega), a3Q hb]
  rw [← hz, d0o _ (b4o _ hN hp)]
  unfold a4n a1G
  rw [a1C hN]
  congr 1
  refine c6j _ hN (fun b hb => ?_) (fun a ha => ?_) ?_
  · simp only [N, a0Y]; rw [Nat.add_zero, if_pos rfl, a3Q hb]
    rw [show cs.length + (i - cs.length) = i by omega]
  · simp only [N, a0Y]; rw [if_neg (by omega), Nat.add_zero, b2n, a3P]
  · simp only [N, a0Y]; rw [Nat.add_zero, if_pos rfl, b2n, a3P, show cs.length + (i - cs.length) = i by omega]
/-- Rows below the a0Y exchanged. -/
theorem b2j {B : Nat → Nat → Rat} {cs : List Nat} {s t : Nat} (hs : cs.length ≤ s) (ht : cs.length ≤ t) {i : Nat} (k : Nat) (hi : cs.length ≤ i) : a1G (a0D s t B) cs i k = a1G B cs (if i = s then t else if i = t then s else i) k := by
  unfold a1G
  have hj : cs.length ≤ (if i = s then t else if i = t then s else i) := by split; exact ht; split; exact hs; exact hi
  generalize hj' : (if i = s then t else if i = t then s else i) = j at hj
  have hr : ∀ c, a0D s t B i c = B j c := fun c => by
    unfold a0D; rw [← hj']
    split
    · rfl
    · split <;> rfl
  refine c6j _ (fun a b ha hb => ?_) (fun b hb => ?_) (fun a ha => ?_) ?_
  · simp only [a0Y, a0D]; rw [if_neg (by omega), if_neg (by omega)]
  · simp only [a0Y]; rw [show cs.length + (i - cs.length) = i by omega, show cs.length + (j - cs.length) = j by omega, hr]
  · simp only [a0Y, a0D]; rw [if_neg (by omega), if_neg (by omega)]
  · simp only [a0Y]; rw [show cs.length + (i - cs.length) = i by omega, show cs.length + (j - cs.length) = j by omega, hr]
theorem b9i {B : Nat → Nat → Rat} {cs : List Nat} {s t : Nat} (hs : cs.length ≤ s) (ht : cs.length ≤ t) : a4n (a0D s t B) cs = a4n B cs := by
  unfold a4n
  exact a1C fun a b ha _ => by simp only [a0Y, a0D]; rw [if_neg (by omega), if_neg (by omega)]
theorem c9F {B : Nat → Nat → Rat} {cs : List Nat} {s t : Nat} (hs : cs.length ≤ s) (ht : cs.length ≤ t) (hp : Piv B cs) : Piv (a0D s t B) cs := by
  unfold Piv at hp ⊢
  exact b4o _ (fun a b ha _ => by simp only [a0Y, a0D]; rw [if_neg (by omega), if_neg (by omega)]) hp
end Go.Abs
namespace Go.Abs
/-- The first row from r on that has an entry there. -/
def a2N (f : Nat → Rat) (r n : Nat) : Option Nat := (List.range n).find? fun p => decide (r ≤ p) && decide (f p ≠ 0)
theorem a0V (f : Nat → Rat) (r n : Nat) : (∃ p, a2N f r n = some p ∧ r ≤ p ∧ p < n ∧ f p ≠ 0 ∧ ∀ j, r ≤ j → j < p → f j = 0) ∨ (a2N f r n = none ∧ ∀ j, r ≤ j → j < n → f j = 0) := by
  unfold a2N
  cases h : (List.range n).find? fun p => decide (r ≤ p) && decide (f p ≠ 0) with
  | none =>
    refine .inr ⟨rfl, fun j h1 h2 => ?_⟩
    rw [List.find?_eq_none] at h
    have := h j (List.mem_range.2 h2)
    simp [h1] at this
    exact this
  | some p =>
    refine .inl ⟨p, rfl, ?_⟩
    rw [List.find?_range_eq_some] at h
    obtain ⟨h1, h2, h3⟩ := h
    simp at h1
    refine ⟨h1.1, List.mem_range.1 h2, h1.2, fun j hj1 hj2 => ?_⟩
    have := h3 j hj2
    simp [hj1] at this
    exact this
structure GS where
  B : Nat → Nat → Rat
  cs : List Nat
  odd : Bool
def GS.g (s : GS) (i k : Nat) : Rat := a1G s.B s.cs i k
def GS.last (s : GS) : Rat := a4n s.B s.cs
def b0D (n : Nat) (s : GS) (c : Nat) : GS := match a2N (fun p => s.g p c) s.cs.length n with
  | none => s
  | some p => ⟨a0D p s.cs.length s.B, s.cs ++ [c], if p = s.cs.length then s.odd else !s.odd⟩
def gproc (n : Nat) (B : Nat → Nat → Rat) : Nat → GS
  | 0 => ⟨B, [], false⟩
  | c + 1 => b0D n (gproc n B c) c
structure GOk (n : Nat) (s : GS) : Prop where
  piv : Piv s.B s.cs
  int : ∀ i k, ∃ z : Int, s.B i k = z
  len : s.cs.length ≤ n
theorem c6M (r : Nat) (M : Nat → Nat → Rat) : a0D r r M = M := by
  funext i k; unfold a0D
  split
  · rename_i h; rw [h]
  · rfl
theorem d5C {B : Nat → Nat → Rat} (h : ∀ i k, ∃ z : Int, B i k = z) (s t : Nat) : ∀ i k, ∃ z : Int, a0D s t B i k = z := by
  intro i k; unfold a0D
  split
  · exact h _ _
  · split <;> exact h _ _
theorem a1I {n c : Nat} {s : GS} (h : a2N (fun p => s.g p c) s.cs.length n = none) : b0D n s c = s := by unfold b0D; rw [h]
theorem a0J {n c p : Nat} {s : GS} (h : a2N (fun p => s.g p c) s.cs.length n = some p) : b0D n s c = ⟨a0D p s.cs.length s.B, s.cs ++ [c], if p = s.cs.length then s.odd else !s.odd⟩ := by unfold b0D; rw [h]
/-- The head as it stands behind the exchange. -/
theorem a3o {s : GS} {p : Nat} (hp : s.cs.length ≤ p) (k : Nat) : a1G (a0D p s.cs.length s.B) s.cs s.cs.length k = s.g p k := by
  rw [b2j hp (Nat.le_refl _) k (Nat.le_refl _)]
  unfold GS.g
  by_cases h : s.cs.length = p
  · rw [if_pos h, ← h]
  · rw [if_neg h, if_pos rfl]
theorem c9R {n c : Nat} {s : GS} (h : GOk n s) : GOk n (b0D n s c) := by
  rcases a0V (fun p => s.g p c) s.cs.length n with ⟨p, hf, h1, h2, h3, _⟩ | ⟨hf, _⟩
  · rw [a0J hf]
    refine ⟨d5R (c9F h1 (Nat.le_refl _) h.piv) ?_, d5C h.int _ _, by rw [a1F]; omega⟩
    rw [a3o h1]; exact h3
  · rw [a1I hf]; exact h
theorem a3c {n : Nat} {B : Nat → Nat → Rat} (hB : ∀ i k, ∃ z : Int, B i k = z) : ∀ c, GOk n (gproc n B c)
  | 0 => ⟨trivial, hB, Nat.zero_le _⟩
  | c + 1 => c9R (a3c hB c)
/-- Behind a step, for the rows below the new head. -/
theorem c8N {s : GS} {p : Nat} (hp : s.cs.length ≤ p) {i : Nat} (k c : Nat) (hi : s.cs.length < i) :
    a1G (a0D p s.cs.length s.B) (s.cs ++ [c]) i k = s.g (if i = p then s.cs.length else i) k - s.g (if i = p then s.cs.length else i) c / s.g p c * s.g p k := by
  rw [b9o _ _ _ hi, a3o hp, a3o hp, b2j hp (Nat.le_refl _) k (by omega), b2j hp (Nat.le_refl _) c (by omega)]
  unfold GS.g
  have e : (if i = p then s.cs.length else if i = s.cs.length then p else i) = if i = p then s.cs.length else i := by
    by_cases h : i = p
    · rw [if_pos h, if_pos h]
    · rw [if_neg h, if_neg h, if_neg (by omega)]
  rw [e]
theorem c3I {n : Nat} {s : GS} (h : GOk n s) {p : Nat} (hp : s.cs.length ≤ p) (c : Nat) : a4n (a0D p s.cs.length s.B) (s.cs ++ [c]) = s.last * s.g p c := by
  rw [c8q (c9F hp (Nat.le_refl _) h.piv), a3o hp, b9i hp (Nat.le_refl _)]; rfl
/-- The cross product of whole rows is a multiple of the last head: the quotient is the next row. -/
theorem d0w {n : Nat} {s : GS} (h : GOk n s) {p c i k : Nat} (hp : s.cs.length ≤ p) (hf : s.g p c ≠ 0) (hi : s.cs.length < i) {last a b x y : Int} (hl : (last : Rat) = s.last)
    (ha : (a : Rat) = s.last * s.g p c) (hb : (b : Rat) = s.last * s.g (if i = p then s.cs.length else i) k) (hx : (x : Rat) = s.last * s.g (if i = p then s.cs.length else i) c) (hy : (y : Rat) = s.last * s.g p k) :
    ∃ z : Int, a * b - x * y = last * z ∧ (z : Rat) = (s.last * s.g p c) * a1G (a0D p s.cs.length s.B) (s.cs ++ [c]) i k := by
  have hok := c9R (c := c) h
  have hpiv : Piv (a0D p s.cs.length s.B) (s.cs ++ [c]) := d5R (c9F hp (Nat.le_refl _) h.piv) (by rw [a3o hp]; exact hf)
  obtain ⟨z, hz⟩ := e0w hpiv (d5C h.int _ _) k (by rw [a1F]; omega : (s.cs ++ [c]).length ≤ i)
  rw [c3I h hp] at hz
  refine ⟨z, ?_, hz.symm⟩
  have hq : ((a * b - x * y : Int) : Rat) = ((last * z : Int) : Rat) := by
    rw [Rat.intCast_sub, Rat.intCast_mul, Rat.intCast_mul, Rat.intCast_mul, ha, hb, hx, hy, hl, ← hz, c8N hp k c hi]
    have hne := a6Y h.piv
    generalize s.g (if i = p then s.cs.length else i) k = u
    generalize s.g (if i = p then s.cs.length else i) c = v
    generalize s.last = l
    generalize s.g p k = w
    generalize s.g p c = t at *
    grind
  exact Rat.intCast_inj.1 hq
end Go.Abs
namespace Go.Abs
def a1Z (M : Nat → Nat → Rat) (t : Nat) (u : Nat → Rat) : Nat → Nat → Rat := fun r c => if c = t then u r else M r c
theorem c6b (M : Nat → Nat → Rat) (t : Nat) : a1Z M t (fun r => M r t) = M := by
  funext r c; unfold a1Z; split
  · rename_i h; rw [h]
  · rfl
theorem b1O {M : Nat → Nat → Rat} {t i : Nat} {u : Nat → Rat} : (fun r c => a1Z M (t + 1) u (skip i r) (c + 1)) = a1Z (fun r c => M (skip i r) (c + 1)) t fun r => u (skip i r) := by
  funext r c; unfold a1Z
  by_cases h : c = t
  · rw [if_pos (by omega), if_pos h]
  · rw [if_neg (by omega), if_neg h]
theorem a9L {M : Nat → Nat → Rat} {i : Nat} {u : Nat → Rat} : (fun r c => a1Z M 0 u (skip i r) (c + 1)) = fun r c => M (skip i r) (c + 1) := by
  funext r c; unfold a1Z; rw [if_neg (by omega)]
theorem b2m : ∀ {n : Nat} {M : Nat → Nat → Rat} {t : Nat} (x y : Rat) (u w : Nat → Rat), t < n → det n (a1Z M t fun r => x * u r + y * w r) = x * det n (a1Z M t u) + y * det n (a1Z M t w)
  | 0, _, _, _, _, _, _, h => absurd h (by omega)
  | n + 1, M, 0, x, y, u, w, h => by
    unfold det
    rw [← a5r]
    refine a1d fun i hi => ?_
    rw [a9L, a9L, a9L]
    simp only [a1Z, if_true]
    grind
  | n + 1, M, t + 1, x, y, u, w, h => by
    unfold det
    rw [← a5r]
    refine a1d fun i hi => ?_
    rw [b1O, b1O, b1O, b2m x y _ _ (by omega)]
    simp only [a1Z]
    rw [if_neg (by omega), if_neg (by omega), if_neg (by omega)]
    grind
theorem a9K {n t : Nat} {M : Nat → Nat → Rat} (ht : t < n) (h : ∀ r, M r t = 0) : det n M = 0 := by
  have := b2m (n := n) (M := M) (t := t) 0 0 (fun r => M r t) (fun r => M r t) ht
  have e : (fun r => 0 * M r t + 0 * M r t) = fun r => M r t := by funext r; rw [h r]; grind
  rw [e, c6b] at this
  grind
/-- A zero column below the first row's, told for the entries that count. -/
theorem c2B {n t : Nat} {M : Nat → Nat → Rat} (ht : t < n) (h : ∀ r, r < n → M r t = 0) : det n M = 0 := by
  have e : det n M = det n (a1Z M t fun _ => 0) := a1C fun r c hr _ => by
    unfold a1Z; split
    · rename_i hc; rw [hc, h r hr]
    · rfl
  rw [e]
  exact a9K ht fun r => by unfold a1Z; rw [if_pos rfl]
theorem d8B {n t : Nat} {M : Nat → Nat → Rat} (ht : t < n) (h : ∀ r, M r 0 = M r (t + 1)) : det (n + 1) M = 0 := by
  have key : ∀ N : Nat → Nat → Rat, (∀ r, N r 0 = N r (t + 1)) → N 0 0 ≠ 0 → det (n + 1) N = 0 := by
    intro N hN h0
    rw [b1N h0, a9K (n := n) (t := t) ht (M := a3W N) fun r => by
      unfold a3W
      rw [← hN, ← hN]
      grind]
    grind
  by_cases hz : ∀ r, r < n + 1 → M r 0 = 0
  · exact c2B (t := 0) (by omega) hz
  · have : ∃ p, p < n + 1 ∧ M p 0 ≠ 0 := Classical.byContradiction fun hc => hz fun r hr => Classical.byContradiction fun h1 => hc ⟨r, hr, h1⟩
    obtain ⟨p, hp, hp0⟩ := this
    by_cases h0 : p = 0
    · subst h0; exact key M h hp0
    · have hs := d0n (M := M) (s := 0) (t := p) (Ne.symm h0) (by omega) hp
      have hk := key (a0D 0 p M) (fun r => by
        unfold a0D
        split
        · exact h p
        · split
          · exact h 0
          · exact h r) (by unfold a0D; rw [if_pos rfl]; exact hp0)
      rw [hk] at hs
      grind
theorem c5Y : ∀ (s : Nat) {n t : Nat} {M : Nat → Nat → Rat}, s + t + 1 < n → (∀ r, M r s = M r (s + t + 1)) → det n M = 0
  | s, 0, t, M, h, _ => absurd h (by omega)
  | 0, n + 1, t, M, h, he => d8B (t := t) (by omega) fun r => by have := he r; rwa [Nat.zero_add] at this
  | s + 1, n + 1, t, M, h, he => by
    unfold det
    refine c3H fun i hi => ?_
    rw [c5Y s (t := t) (by omega) fun r => by
      have := he (skip i r)
      rwa [show s + 1 + t + 1 = s + t + 1 + 1 by omega] at this]
    grind
theorem c8v {n s t : Nat} {M : Nat → Nat → Rat} (hs : s < n) (ht : t < n) (hst : s ≠ t) (he : ∀ r, M r s = M r t) : det n M = 0 := by
  rcases Nat.lt_or_gt_of_ne hst with h | h
  · exact c5Y s (t := t - s - 1) (by omega) fun r => by rw [show s + (t - s - 1) + 1 = t by omega]; exact he r
  · exact c5Y t (t := s - t - 1) (by omega) fun r => by rw [show t + (s - t - 1) + 1 = s by omega]; exact (he r).symm
/-- Cramer's rule. -/
theorem e4a {n i : Nat} {A : Nat → Nat → Rat} (x : Nat → Rat) (hi : i < n) : ∀ m, m ≤ n → det n (a1Z A i fun r => sumR (fun j => A r j * x j) m) = if i < m then x i * det n A else 0
  | 0, _ => by
    rw [if_neg (by omega)]
    exact a9K hi fun r => by unfold a1Z; rw [if_pos rfl]; rfl
  | m + 1, h => by
    have hl := b2m (M := A) 1 (x m) (fun r => sumR (fun j => A r j * x j) m) (fun r => A r m) hi
    have e : (fun r => (1 : Rat) * sumR (fun j => A r j * x j) m + x m * A r m) = fun r => sumR (fun j => A r j * x j) (m + 1) := by
      funext r; simp only [sumR]; grind
    rw [e, e4a x hi m (by omega)] at hl
    rw [hl]
    by_cases him : i = m
    · subst him
      rw [if_neg (by omega), if_pos (by omega), c6b]
      grind
    · have h0 : det n (a1Z A i fun r => A r m) = 0 := c8v hi (show m < n by omega) him fun r => by
        unfold a1Z
        rw [if_pos rfl, if_neg (Ne.symm him)]
      rw [h0]
      by_cases h1 : i < m
      · rw [if_pos h1, if_pos (by omega)]; grind
      · rw [if_neg h1, if_neg (by omega)]; grind
theorem b8j : ∀ {n e : Nat} {M : Nat → Nat → Rat}, n ≤ LB → (∀ r c, r < n → c < n → ∃ z : Int, M r c = z ∧ z.natAbs ≤ LB ^ e) → ∃ z : Int, det n M = z ∧ z.natAbs ≤ LB ^ (n * (e + 1))
  | 0, e, _, _, _ => ⟨1, rfl, by simp⟩
  | n + 1, e, M, hn, h => by
    unfold det
    have hs : ∀ i, ∃ z : Int, sg i = z ∧ z.natAbs = 1 := by
      intro i
      induction i with
      | zero => exact ⟨1, rfl, rfl⟩
      | succ i ih => obtain ⟨z, hz, ha⟩ := ih; exact ⟨-z, by rw [sg, hz, Rat.intCast_neg], by rw [Int.natAbs_neg]; exact ha⟩
    have ht : ∀ i, i < n + 1 → ∃ z : Int, sg i * M i 0 * det n (fun r c => M (skip i r) (c + 1)) = z ∧ z.natAbs ≤ LB ^ e * LB ^ (n * (e + 1)) := fun i hi => by
      obtain ⟨a, ha, ha1⟩ := hs i
      obtain ⟨b, hb, hb1⟩ := h i 0 hi (by omega)
      obtain ⟨c, hc, hc1⟩ := b8j (n := n) (e := e) (M := fun r c => M (skip i r) (c + 1)) (by omega) fun r c hr hc => h _ _ (d9d hr) (by omega)
      refine ⟨a * b * c, by rw [ha, hb, hc, Rat.intCast_mul, Rat.intCast_mul], ?_⟩
      rw [Int.natAbs_mul, Int.natAbs_mul, ha1, Nat.one_mul]
      exact Nat.mul_le_mul hb1 hc1
    have : ∀ k, k ≤ n + 1 → ∃ z : Int, sumR (fun i => sg i * M i 0 * det n fun r c => M (skip i r) (c + 1)) k = z ∧ z.natAbs ≤ k * (LB ^ e * LB ^ (n * (e + 1))) := by
      intro k
      induction k with
      | zero => exact fun _ => ⟨0, rfl, by simp⟩
      | succ k ih =>
        intro hk
        obtain ⟨z, hz, hz1⟩ := ih (by omega)
        obtain ⟨y, hy, hy1⟩ := ht k (by omega)
        refine ⟨z + y, by rw [sumR, hz, hy, Rat.intCast_add], ?_⟩
        have := Int.natAbs_add_le z y
        rw [Nat.add_mul, Nat.one_mul]
        omega
    obtain ⟨z, hz, hz1⟩ := this (n + 1) (Nat.le_refl _)
    refine ⟨z, hz, Nat.le_trans hz1 ?_⟩
    rw [show (n + 1) * (e + 1) = 1 + (e + n * (e + 1)) by rw [Nat.add_mul]; omega, Nat.pow_add, Nat.pow_add, Nat.pow_one]
    exact Nat.mul_le_mul_right _ hn
end Go.Abs
namespace Go.Abs
structure JS where
  s : GS
  M : Nat → Nat → Rat
def JS.r (j : JS) : Nat := j.s.cs.length
/-- Row r by its entry at c; the others without it. -/
def jel (r c : Nat) (M : Nat → Nat → Rat) : Nat → Nat → Rat := fun i k => if i = r then M r k / M r c else M i k - M i c * (M r k / M r c)
def c6v (n : Nat) (j : JS) (c : Nat) : JS := match a2N (fun p => j.s.g p c) j.s.cs.length n with
  | none => j
  | some p => ⟨b0D n j.s c, jel j.s.cs.length c (a0D p j.s.cs.length j.M)⟩
def a0t (n : Nat) (B : Nat → Nat → Rat) : Nat → JS
  | 0 => ⟨⟨B, [], false⟩, B⟩
  | c + 1 => c6v n (a0t n B c) c
theorem e4U (n : Nat) (j : JS) (c : Nat) : (c6v n j c).s = b0D n j.s c := by
  unfold c6v
  cases h : a2N (fun p => j.s.g p c) j.s.cs.length n with
  | none => rw [a1I h]
  | some p => rfl
theorem a0O (n : Nat) (B : Nat → Nat → Rat) : ∀ c, (a0t n B c).s = gproc n B c
  | 0 => rfl
  | c + 1 => by rw [a0t, e4U, a0O n B c]; rfl
theorem b9k {n c : Nat} {j : JS} (h : a2N (fun p => j.s.g p c) j.s.cs.length n = none) : c6v n j c = j := by unfold c6v; rw [h]
theorem b9j {n c p : Nat} {j : JS} (h : a2N (fun p => j.s.g p c) j.s.cs.length n = some p) : c6v n j c = ⟨⟨a0D p j.s.cs.length j.s.B, j.s.cs ++ [c], if p = j.s.cs.length then j.s.odd else !j.s.odd⟩, jel j.s.cs.length c (a0D p j.s.cs.length j.M)⟩ := by
  have : c6v n j c = ⟨b0D n j.s c, jel j.s.cs.length c (a0D p j.s.cs.length j.M)⟩ := by unfold c6v; rw [h]
  rw [this, a0J h]
structure JOk (n : Nat) (j : JS) : Prop where
  g : GOk n j.s
  low : ∀ i k, j.s.cs.length ≤ i → j.M i k = j.s.g i k
  up : ∀ a k, j.s.B a k = sumR (fun i => j.s.B a (j.s.cs.getD i 0) * j.M i k) j.s.cs.length + if j.s.cs.length ≤ a then j.M a k else 0
theorem e1B (s t : Nat) (M : Nat → Nat → Rat) (a : Nat) : ∃ b, (∀ N : Nat → Nat → Rat, ∀ k, a0D s t N a k = N b k) ∧ ((s ≤ a ∨ t ≤ a) → True) ∧ (b = if a = s then t else if a = t then s else a) := by
  refine ⟨if a = s then t else if a = t then s else a, fun N k => ?_, fun _ => trivial, rfl⟩
  unfold a0D
  split
  · rfl
  · split <;> rfl
theorem e2t {n c : Nat} {j : JS} (h : JOk n j) : JOk n (c6v n j c) := by
  rcases a0V (fun p => j.s.g p c) j.s.cs.length n with ⟨p, hf, h1, h2, h3, _⟩ | ⟨hf, _⟩
  · have hg := c9R (c := c) h.g
    rw [a0J hf] at hg
    rw [b9j hf]
    have hlow : ∀ i k, j.s.cs.length ≤ i → a0D p j.s.cs.length j.M i k = j.s.g (if i = p then j.s.cs.length else if i = j.s.cs.length then p else i) k := by
      intro i k hi
      unfold a0D
      split
      · exact h.low _ _ (Nat.le_refl _)
      · split
        · exact h.low _ _ h1
        · exact h.low _ _ hi
    have hr : ∀ k, a0D p j.s.cs.length j.M j.s.cs.length k = j.s.g p k := by
      intro k
      rw [hlow _ _ (Nat.le_refl _)]
      by_cases e : j.s.cs.length = p
      · rw [if_pos e, e]
      · rw [if_neg e, if_pos rfl]
    refine ⟨hg, fun i k hi => ?_, fun a k => ?_⟩
    · simp only [a1F] at hi
      show jel _ c _ i k = a1G (a0D p j.s.cs.length j.s.B) (j.s.cs ++ [c]) i k
      unfold jel
      rw [if_neg (by omega), c8N h1 k c (by omega), hr, hr, hlow _ _ (by omega), hlow _ _ (by omega)]
      have e : (if i = p then j.s.cs.length else if i = j.s.cs.length then p else i) = if i = p then j.s.cs.length else i := by
        by_cases h : i = p
        · rw [if_pos h, if_pos h]
        · rw [if_neg h, if_neg h, if_neg (by omega)]
      rw [e]
      generalize j.s.g (if i = p then j.s.cs.length else i) k = u
      generalize j.s.g (if i = p then j.s.cs.length else i) c = v
      generalize j.s.g p k = w
      generalize j.s.g p c = t at *
      grind
    · -- the rows are made of those above
      show a0D p j.s.cs.length j.s.B a k = sumR (fun i => a0D p j.s.cs.length j.s.B a ((j.s.cs ++ [c]).getD i 0) * jel j.s.cs.length c (a0D p j.s.cs.length j.M) i k) (j.s.cs ++ [c]).length +
        if (j.s.cs ++ [c]).length ≤ a then jel j.s.cs.length c (a0D p j.s.cs.length j.M) a k else 0
      rw [a1F]
      obtain ⟨b, hb, _, hbe⟩ := e1B p j.s.cs.length j.s.B a
      have hba : (j.s.cs.length ≤ a) = (j.s.cs.length ≤ b) := by
        rw [hbe, eq_iff_iff]
        split
        · constructor <;> intro _ <;> omega
        · split
          · constructor <;> intro _ <;> omega
          · exact Iff.rfl
      have hinv : ∀ k, a0D p j.s.cs.length j.s.B a k = sumR (fun i => a0D p j.s.cs.length j.s.B a (j.s.cs.getD i 0) * j.M i k) j.s.cs.length + if j.s.cs.length ≤ a then a0D p j.s.cs.length j.M a k else 0 := by
        intro k
        simp only [hb, hba]
        exact h.up b k
      have hq0 : a0D p j.s.cs.length j.M j.s.cs.length c ≠ 0 := by rw [hr]; exact h3
      have hold : ∀ i, i < j.s.cs.length → ∀ k, a0D p j.s.cs.length j.M i k = j.M i k := by
        intro i hi k; unfold a0D; rw [if_neg (by omega), if_neg (by omega)]
      generalize hB : a0D p j.s.cs.length j.s.B = B' at *
      generalize hM : a0D p j.s.cs.length j.M = M0 at *
      generalize hq : M0 j.s.cs.length k / M0 j.s.cs.length c = q
      rw [sumR]
      have hs : sumR (fun i => B' a ((j.s.cs ++ [c]).getD i 0) * jel j.s.cs.length c M0 i k) j.s.cs.length = 1 * sumR (fun i => B' a (j.s.cs.getD i 0) * j.M i k) j.s.cs.length + (-q) * sumR (fun i => B' a (j.s.cs.getD i 0) * j.M i c) j.s.cs.length := by
        rw [← a5r]
        refine a1d fun i hi => ?_
        have e : (j.s.cs ++ [c]).getD i 0 = j.s.cs.getD i 0 := by
          simp [List.getD_eq_getElem?_getD, List.getElem?_append_left hi]
        rw [e]
        unfold jel
        rw [if_neg (by omega), hq, hold i hi, hold i hi]
        grind
      rw [hs]
      have e2 : (j.s.cs ++ [c]).getD j.s.cs.length 0 = c := by simp [List.getD_eq_getElem?_getD]
      rw [e2]
      have e3 : jel j.s.cs.length c M0 j.s.cs.length k = q := by unfold jel; rw [if_pos rfl, hq]
      rw [e3]
      have i1 := hinv k
      have i2 := hinv c
      by_cases ha : j.s.cs.length ≤ a
      · rw [if_pos ha] at i1 i2
        by_cases ha2 : j.s.cs.length + 1 ≤ a
        · rw [if_pos ha2]
          have e4 : jel j.s.cs.length c M0 a k = M0 a k - M0 a c * q := by unfold jel; rw [if_neg (by omega), hq]
          rw [e4]
          grind
        · rw [if_neg ha2]
          have : a = j.s.cs.length := by omega
          subst this
          have e5 : q * M0 j.s.cs.length c = M0 j.s.cs.length k := by rw [← hq]; exact Rat.div_mul_cancel hq0
          grind
      · rw [if_neg ha] at i1 i2
        rw [if_neg (by omega)]
        grind
  · rw [b9k hf]; exact h
theorem a5C {n : Nat} {B : Nat → Nat → Rat} (hB : ∀ i k, ∃ z : Int, B i k = z) : ∀ c, JOk n (a0t n B c)
  | 0 => ⟨⟨trivial, hB, Nat.zero_le _⟩, fun i k _ => by simp [a0t, GS.g, b7G], fun a k => by simp only [a0t, sumR, List.length_nil, Nat.zero_le, if_true]; grind⟩
  | c + 1 => e2t (a5C hB c)
def Bd (e : Nat) (B : Nat → Nat → Rat) : Prop := ∀ i k, ∃ z : Int, B i k = z ∧ z.natAbs ≤ LB ^ e
theorem Bd.swap {e : Nat} {B : Nat → Nat → Rat} (h : Bd e B) (s t : Nat) : Bd e (a0D s t B) := by
  intro i k; unfold a0D
  split
  · exact h _ _
  · split <;> exact h _ _
theorem Bd.gproc {e n : Nat} {B : Nat → Nat → Rat} (h : Bd e B) : ∀ c, Bd e (gproc n B c).B
  | 0 => h
  | c + 1 => by
    have ih := Bd.gproc (n := n) h c
    show Bd e (b0D n (Abs.gproc n B c) c).B
    unfold b0D
    cases a2N (fun p => (Abs.gproc n B c).g p c) (Abs.gproc n B c).cs.length n with
    | none => exact ih
    | some p => exact ih.swap _ _
theorem d5b {e : Nat} {B : Nat → Nat → Rat} (hB : Bd e B) (cs : List Nat) (hn : cs.length ≤ LB) : ∃ z : Int, a4n B cs = z ∧ z.natAbs ≤ LB ^ (cs.length * (e + 1)) :=
  b8j hn fun _ _ _ _ => hB _ _
/-- What is left, times the last head, is a determinant. -/
theorem c5J {e : Nat} {B : Nat → Nat → Rat} {cs : List Nat} (hp : Piv B cs) (hB : Bd e B) (hn : cs.length + 1 ≤ LB) {i : Nat} (k : Nat) (hi : cs.length ≤ i) : ∃ z : Int, a4n B cs * a1G B cs i k = z ∧ z.natAbs ≤ LB ^ ((cs.length + 1) * (e + 1)) := by
  let N : Nat → Nat → Rat := fun a b => B (if a = cs.length then i else a) (colm (cs ++ [k]) b)
  obtain ⟨z, hz, hz1⟩ := b8j (n := cs.length + 1) (e := e) (M := N) hn fun r c _ _ => hB _ _
  refine ⟨z, ?_, hz1⟩
  have hN : ∀ a b, a < cs.length → b < cs.length → a0Y B cs a b = N a b := fun a b ha hb => by
    simp only [N, a0Y]
    rw [if_neg (by omega), a3Q hb]
  rw [← hz, d0o _ (b4o _ hN hp)]
  unfold a4n a1G
  rw [a1C hN]
  congr 1
  refine c6j _ hN (fun b hb => ?_) (fun a ha => ?_) ?_
  · simp only [N, a0Y]; rw [Nat.add_zero, if_pos rfl, a3Q hb]
    rw [show cs.length + (i - cs.length) = i by omega]
  · simp only [N, a0Y]; rw [if_neg (by omega), Nat.add_zero, b2n, a3P]
  · simp only [N, a0Y]; rw [Nat.add_zero, if_pos rfl, b2n, a3P, show cs.length + (i - cs.length) = i by omega]
/-- An entry above, times the last head, is a determinant. -/
theorem d3O {e n : Nat} {j : JS} (h : JOk n j) (hB : Bd e j.s.B) (hn : j.s.cs.length ≤ LB) {i : Nat} (k : Nat) (hi : i < j.s.cs.length) : ∃ z : Int, a4n j.s.B j.s.cs * j.M i k = z ∧ z.natAbs ≤ LB ^ (j.s.cs.length * (e + 1)) := by
  obtain ⟨z, hz, hz1⟩ := b8j (n := j.s.cs.length) (e := e) (M := a1Z (a0Y j.s.B j.s.cs) i fun a => j.s.B a k) hn fun r c _ _ => by
    unfold a1Z; split
    · exact hB _ _
    · exact hB _ _
  refine ⟨z, ?_, hz1⟩
  have hc := e4a (A := a0Y j.s.B j.s.cs) (fun t => j.M t k) hi j.s.cs.length (Nat.le_refl _)
  rw [if_pos hi] at hc
  have e1 : det j.s.cs.length (a1Z (a0Y j.s.B j.s.cs) i fun r => sumR (fun t => a0Y j.s.B j.s.cs r t * j.M t k) j.s.cs.length) = det j.s.cs.length (a1Z (a0Y j.s.B j.s.cs) i fun a => j.s.B a k) := by
    refine a1C fun a b ha hb => ?_
    unfold a1Z
    split
    · show sumR (fun t => a0Y j.s.B j.s.cs a t * j.M t k) j.s.cs.length = j.s.B a k
      rw [h.up a k, if_neg (by omega)]
      rw [a1d (g := fun t => j.s.B a (j.s.cs.getD t 0) * j.M t k) fun t ht => by
        simp only [a0Y, colm]; rw [if_pos ht]]
      grind
    · rfl
  rw [e1] at hc
  unfold a4n
  rw [← hz, hc]
  grind
theorem d2h {l z : Int} {q : Rat} (hl : (l : Rat) ≠ 0) (h : (l : Rat) * q = z) : q.num.natAbs ≤ z.natAbs ∧ q.den ≤ l.natAbs := by
  have hl' : l ≠ 0 := fun e => hl (by rw [e]; rfl)
  have e : q = Rat.divInt z l := by
    rw [Rat.divInt_eq_div, ← h]
    generalize (l : Rat) = x at *
    grind
  constructor
  · rw [e, Rat.num_divInt, Int.natAbs_ediv_of_dvd]
    · rw [Int.natAbs_mul, Int.natAbs_sign_of_ne_zero hl', Nat.one_mul]
      exact Nat.div_le_self _ _
    · exact Int.dvd_mul_of_dvd_right (Int.gcd_dvd_right ..)
  · rw [e, Rat.den_divInt, if_neg hl']
    exact Nat.div_le_self _ _
def KB (e : Nat) : Nat := 65 * (e + 1)
theorem lbm {a b : Nat} (h : a ≤ b) : LB ^ a ≤ LB ^ b := Nat.pow_le_pow_right (by decide) h
theorem c2Z {e n : Nat} {j : JS} (h : JOk n j) (hn : j.s.cs.length ≤ 64) (hB : Bd e j.s.B) : ∃ z : Int, a4n j.s.B j.s.cs = z ∧ z.natAbs ≤ LB ^ KB e := by
  have hl := h.g.len
  obtain ⟨z, hz, hz1⟩ := d5b hB j.s.cs (by have : LB = 4294967296 := rfl; omega)
  exact ⟨z, hz, Nat.le_trans hz1 (lbm (Nat.mul_le_mul_right _ (by omega)))⟩
theorem c9Z {e n : Nat} {j : JS} (h : JOk n j) (hn : j.s.cs.length ≤ 64) (hB : Bd e j.s.B) (i k : Nat) : ∃ z : Int, a4n j.s.B j.s.cs * j.M i k = z ∧ z.natAbs ≤ LB ^ KB e := by
  have hl := h.g.len
  have hLB : LB = 4294967296 := rfl
  rcases Nat.lt_or_ge i j.s.cs.length with hi | hi
  · obtain ⟨z, hz, hz1⟩ := d3O (n := n) h hB (by omega) k hi
    exact ⟨z, hz, Nat.le_trans hz1 (lbm (Nat.mul_le_mul_right _ (by omega)))⟩
  · obtain ⟨z, hz, hz1⟩ := c5J h.g.piv hB (by omega) k hi
    rw [h.low i k hi]
    exact ⟨z, hz, Nat.le_trans hz1 (lbm (Nat.mul_le_mul_right _ (by omega)))⟩
/-- The fractions' sizes. -/
theorem d8x {e n : Nat} {j : JS} (h : JOk n j) (hn : j.s.cs.length ≤ 64) (hB : Bd e j.s.B) (i k : Nat) : (j.M i k).num.natAbs ≤ LB ^ KB e ∧ (j.M i k).den ≤ LB ^ KB e := by
  obtain ⟨l, hl, hl1⟩ := c2Z h hn hB
  obtain ⟨z, hz, hz1⟩ := c9Z h hn hB i k
  have h0 : (l : Rat) ≠ 0 := by rw [← hl]; exact a6Y h.g.piv
  rw [hl] at hz
  obtain ⟨q1, q2⟩ := d2h h0 hz
  exact ⟨Nat.le_trans q1 hz1, Nat.le_trans q2 hl1⟩
end Go.Abs
namespace Go.Abs
def dv (n : Nat) (B : Nat → Nat → Rat) (t : Nat) : Rat := if (gproc n B t).cs.length = t then (if (gproc n B t).odd then -(gproc n B t).last else (gproc n B t).last) else 0
theorem b1w (n : Nat) (B : Nat → Nat → Rat) : ∀ t, (gproc n B t).cs.length ≤ t
  | 0 => Nat.le_refl _
  | t + 1 => by
    have ih := b1w n B t
    show (b0D n (gproc n B t) t).cs.length ≤ t + 1
    unfold b0D
    cases a2N (fun p => (gproc n B t).g p t) (gproc n B t).cs.length n with
    | none => exact Nat.le_succ_of_le ih
    | some p => simp only [a1F]; omega
theorem e5v (n : Nat) (B : Nat → Nat → Rat) : dv n B 0 = 1 := by
  simp [dv, gproc, GS.last, a4n, det]
section
variable {n : Nat} {B : Nat → Nat → Rat} {t : Nat}
theorem e5x (h : a2N (fun p => (gproc n B t).g p t) (gproc n B t).cs.length n = none) : dv n B (t + 1) = 0 := by
  have e : gproc n B (t + 1) = gproc n B t := a1I h
  have := b1w n B t
  unfold dv
  rw [e, if_neg (by omega)]
theorem e5w (hB : ∀ i k, ∃ z : Int, B i k = z) {p : Nat} (h : a2N (fun p => (gproc n B t).g p t) (gproc n B t).cs.length n = some p) (hp : (gproc n B t).cs.length ≤ p) :
    dv n B (t + 1) = (if p = (gproc n B t).cs.length then dv n B t else -dv n B t) * (gproc n B t).g p t := by
  have hok := a3c (n := n) hB t
  have e : gproc n B (t + 1) = _ := a0J h
  unfold dv
  rw [e]
  simp only [a1F, GS.last]
  rw [c3I hok hp]
  unfold GS.last
  generalize a4n (gproc n B t).B (gproc n B t).cs = l
  generalize (gproc n B t).g p t = x
  generalize (gproc n B t).odd = o
  by_cases h1 : (gproc n B t).cs.length = t
  · rw [if_pos (by omega), if_pos h1]
    by_cases h2 : p = (gproc n B t).cs.length
    · rw [if_pos h2, if_pos h2]
      cases o <;> simp <;> grind
    · rw [if_neg h2, if_neg h2]
      cases o <;> simp <;> grind
  · rw [if_neg (by omega), if_neg h1]
    split <;> grind
end
theorem d5i {e n : Nat} {B : Nat → Nat → Rat} (hB : Bd e B) (t : Nat) (hn : n ≤ 64 ∨ t ≤ 64) : (gproc n B t).cs.length ≤ 64 := by
  have h1 := (a3c (n := n) (fun i k => by obtain ⟨z, h, _⟩ := hB i k; exact ⟨z, h⟩) t).len
  have h2 := b1w n B t
  omega
theorem b3j {e n : Nat} {B : Nat → Nat → Rat} (hB : Bd e B) (t : Nat) (hn : n ≤ 64 ∨ t ≤ 64) : ∃ z : Int, (gproc n B t).last = z ∧ z.natAbs ≤ LB ^ KB e := by
  have hi : ∀ i k, ∃ z : Int, B i k = z := fun i k => by obtain ⟨z, h, _⟩ := hB i k; exact ⟨z, h⟩
  have := c2Z (e := e) (a5C (n := n) hi t) (by rw [a0O]; exact d5i hB t hn) (by rw [a0O]; exact hB.gproc t)
  rwa [a0O] at this
theorem e7O {e n : Nat} {B : Nat → Nat → Rat} (hB : Bd e B) (t : Nat) (hn : n ≤ 64 ∨ t ≤ 64) : ∃ z : Int, dv n B t = z ∧ z.natAbs ≤ LB ^ KB e := by
  obtain ⟨z, hz, hz1⟩ := b3j hB t hn
  unfold dv
  split
  · split
    · exact ⟨-z, by rw [hz, Rat.intCast_neg], by rw [Int.natAbs_neg]; exact hz1⟩
    · exact ⟨z, hz, hz1⟩
  · exact ⟨0, rfl, by simp⟩
theorem e7B {e n : Nat} {B : Nat → Nat → Rat} (hB : Bd e B) (t i k : Nat) (hn : n ≤ 64 ∨ t ≤ 64) : ((a0t n B t).M i k).num.natAbs ≤ LB ^ KB e ∧ ((a0t n B t).M i k).den ≤ LB ^ KB e := by
  have hi : ∀ i k, ∃ z : Int, B i k = z := fun i k => by obtain ⟨z, h, _⟩ := hB i k; exact ⟨z, h⟩
  exact d8x (a5C (n := n) hi t) (by rw [a0O]; exact d5i hB t hn) (by rw [a0O]; exact hB.gproc t) i k
end Go.Abs
namespace Go.Abs
/-- Row a as it stands: times the last head that was taken off it. -/
def Zg (s : GS) (a b : Nat) : Rat := a4n s.B (s.cs.take a) * a1G s.B (s.cs.take a) a b
theorem e1m {s : GS} {a : Nat} (b : Nat) (h : s.cs.length ≤ a) : Zg s a b = s.last * s.g a b := by
  unfold Zg; rw [List.take_of_length_le h]; rfl
theorem d8q {B : Nat → Nat → Rat} {cs : List Nat} {m a b : Nat} (hb : b < (cs.take m).length) : a0Y B (cs.take m) a b = a0Y B cs a b := by
  rw [List.length_take] at hb
  simp only [a0Y, colm]
  rw [if_pos (by rw [List.length_take]; exact hb), if_pos (by omega)]
  congr 1
  simp [List.getD_eq_getElem?_getD, List.getElem?_take]
  rw [if_pos (by omega)]
theorem c2W {B : Nat → Nat → Rat} : ∀ (m : Nat) {cs : List Nat}, Piv B cs → Piv B (cs.take m) := by
  intro m cs h
  have key : ∀ k, piv (k + (cs.take m).length) (a0Y B cs) → piv (cs.take m).length (a0Y B cs) := by
    intro k
    induction k with
    | zero => intro h; rwa [Nat.zero_add] at h
    | succ k ih => intro h; rw [show k + 1 + (cs.take m).length = (k + (cs.take m).length) + 1 by omega, b7b] at h; exact ih h.1
  have h1 := key (cs.length - (cs.take m).length) (by
    have : cs.length - (cs.take m).length + (cs.take m).length = cs.length := by rw [List.length_take]; omega
    rw [this]; exact h)
  exact b4o _ (fun a b _ hb => (d8q hb).symm) h1
/-- Processed columns are empty below the a0Y. -/
theorem d2U {n : Nat} {B : Nat → Nat → Rat} (hB : ∀ i k, ∃ z : Int, B i k = z) : ∀ t a b, (gproc n B t).cs.length ≤ a → a < n → b < t → (gproc n B t).g a b = 0
  | 0, _, _, _, _, h => absurd h (by omega)
  | t + 1, a, b, ha, han, hb => by
    have ih := d2U (n := n) hB t
    rcases a0V (fun p => (gproc n B t).g p t) (gproc n B t).cs.length n with ⟨p, hf, h1, h2, h3, _⟩ | ⟨hf, h4⟩
    · have e : gproc n B (t + 1) = _ := a0J hf
      rw [e] at ha ⊢
      simp only [a1F] at ha
      show a1G (a0D p (gproc n B t).cs.length (gproc n B t).B) ((gproc n B t).cs ++ [t]) a b = 0
      rw [c8N h1 b t (by omega)]
      have hj : (if a = p then (gproc n B t).cs.length else a) < n := by split <;> omega
      have hj2 : (gproc n B t).cs.length ≤ (if a = p then (gproc n B t).cs.length else a) := by split <;> omega
      generalize (if a = p then (gproc n B t).cs.length else a) = i at *
      by_cases hbt : b = t
      · subst hbt
        generalize (gproc n B b).g i b = u
        generalize (gproc n B b).g p b = v at *
        grind
      · rw [ih i b hj2 hj (by omega), ih p b h1 h2 (by omega)]
        grind
    · have e : gproc n B (t + 1) = _ := a1I hf
      rw [e] at ha ⊢
      by_cases hbt : b = t
      · subst hbt; exact h4 a ha han
      · exact ih a b ha han (by omega)
section
variable {n t p : Nat} {B : Nat → Nat → Rat} (hB : ∀ i k, ∃ z : Int, B i k = z) (hf : a2N (fun p => (gproc n B t).g p t) (gproc n B t).cs.length n = some p) (hp : (gproc n B t).cs.length ≤ p)
include hf hp
theorem e3y {a : Nat} (b : Nat) (ha : a < (gproc n B t).cs.length) : Zg (gproc n B (t + 1)) a b = Zg (gproc n B t) a b := by
  have e : gproc n B (t + 1) = _ := a0J hf
  rw [e]
  unfold Zg
  simp only
  have ht : ((gproc n B t).cs ++ [t]).take a = (gproc n B t).cs.take a := by rw [List.take_append_of_le_length (by omega)]
  have hl : ((gproc n B t).cs.take a).length = a := by rw [List.length_take]; omega
  rw [ht, b9i (by omega) (by omega), b2j (by omega) (by omega) b (by omega), if_neg (by omega), if_neg (by omega)]
theorem e6a (b : Nat) : Zg (gproc n B (t + 1)) (gproc n B t).cs.length b = (gproc n B t).last * (gproc n B t).g p b := by
  have e : gproc n B (t + 1) = _ := a0J hf
  rw [e]
  unfold Zg
  simp only
  rw [List.take_append_of_le_length (Nat.le_refl _), List.take_length, b9i hp (Nat.le_refl _), a3o hp]; rfl
omit hp in
theorem d6G {a : Nat} (b : Nat) (ha : (gproc n B t).cs.length < a) : Zg (gproc n B (t + 1)) a b = (gproc n B (t + 1)).last * (gproc n B (t + 1)).g a b := by
  have e : gproc n B (t + 1) = _ := a0J hf
  exact e1m b (by rw [e]; simp only [a1F]; omega)
theorem e0e (h : GOk n (gproc n B t)) : (gproc n B (t + 1)).last = (gproc n B t).last * (gproc n B t).g p t := by
  have e : gproc n B (t + 1) = _ := a0J hf
  rw [e]
  exact c3I h hp t
end
theorem e3x {e n : Nat} {B : Nat → Nat → Rat} (hB : Bd e B) (hn : n ≤ 64) (t : Nat) {a : Nat} (b : Nat) (ha : a < n) : ∃ z : Int, Zg (gproc n B t) a b = z ∧ z.natAbs ≤ LB ^ KB e := by
  have hi : ∀ i k, ∃ z : Int, B i k = z := fun i k => by obtain ⟨z, h, _⟩ := hB i k; exact ⟨z, h⟩
  have hok := a3c (n := n) hi t
  have hl : ((gproc n B t).cs.take a).length ≤ a := by rw [List.length_take]; omega
  have hLB : LB = 4294967296 := rfl
  obtain ⟨z, hz, hz1⟩ := c5J (c2W a hok.piv) (hB.gproc t) (by omega) (i := a) b hl
  exact ⟨z, hz, Nat.le_trans hz1 (lbm (Nat.mul_le_mul_right _ (by omega)))⟩
end Go.Abs
namespace Go.Abs
def a2o (w : Nat → Int) : Nat → Nat
  | 0 => 0
  | n + 1 => Int.gcd (a2o w n) (w n)
/-- The sign of the first entry that is not 0. -/
def sgF (w : Nat → Int) : Nat → Int
  | 0 => 1
  | n + 1 => if (∀ i, i < n → w i = 0) ∧ w n < 0 then -1 else sgF w n
def a1J (w : Nat → Int) (c : Nat) (i : Nat) : Int := w i / (sgF w c * (a2o w c : Int))
theorem c5I {w v : Nat → Int} : ∀ {n : Nat}, (∀ i, i < n → w i = v i) → a2o w n = a2o v n
  | 0, _ => rfl
  | n + 1, h => by rw [a2o, a2o, c5I fun i hi => h i (by omega), h n (by omega)]
theorem d0R {w v : Nat → Int} : ∀ {n : Nat}, (∀ i, i < n → w i = v i) → sgF w n = sgF v n
  | 0, _ => rfl
  | n + 1, h => by
    have e : (∀ i, i < n → w i = 0) = (∀ i, i < n → v i = 0) := by
      rw [eq_iff_iff]
      exact ⟨fun q i hi => by rw [← h i (by omega)]; exact q i hi, fun q i hi => by rw [h i (by omega)]; exact q i hi⟩
    unfold sgF
    rw [d0R fun i hi => h i (by omega), h n (by omega)]
    simp only [e]
theorem d0P (w : Nat → Int) : ∀ n, sgF w n = 1 ∨ sgF w n = -1
  | 0 => .inl rfl
  | n + 1 => by
    unfold sgF; split
    · exact .inr rfl
    · exact d0P w n
theorem d2S (w : Nat → Int) : ∀ {n i : Nat}, i < n → (a2o w n : Int) ∣ w i
  | 0, _, h => absurd h (by omega)
  | n + 1, i, h => by
    rw [a2o]
    by_cases e : i = n
    · subst e; exact Int.gcd_dvd_right ..
    · exact Int.dvd_trans (Int.gcd_dvd_left ..) (d2S w (by omega))
theorem b9n {w : Nat → Int} : ∀ {n : Nat}, a2o w n = 0 ↔ ∀ i, i < n → w i = 0
  | 0 => ⟨fun _ i h => absurd h (by omega), fun _ => rfl⟩
  | n + 1 => by
    rw [a2o, Int.gcd_eq_zero_iff]
    constructor
    · rintro ⟨h1, h2⟩ i hi
      by_cases e : i = n
      · subst e; exact h2
      · exact (b9n (n := n)).1 (by omega) i (by omega)
    · intro h
      exact ⟨by rw [(b9n (n := n)).2 fun i hi => h i (by omega)]; rfl, h n (by omega)⟩
theorem c8t (a : Int) (w : Nat → Int) : ∀ n, a2o (fun i => a * w i) n = a.natAbs * a2o w n
  | 0 => rfl
  | n + 1 => by
    rw [a2o, a2o, c8t a w n]
    rw [Int.gcd, Int.gcd, Int.natAbs_mul, Int.natAbs_natCast, Int.natAbs_natCast, Nat.gcd_mul_left]
theorem d6l {w : Nat → Int} {M : Nat} (hM : 0 < M) : ∀ {n : Nat}, (∀ i, i < n → (w i).natAbs < M) → a2o w n < M
  | 0, _ => hM
  | n + 1, h => by
    rw [a2o, Int.gcd, Int.natAbs_natCast]
    have h1 := d6l hM (n := n) fun i hi => h i (by omega)
    rcases Nat.eq_zero_or_pos (a2o w n) with h0 | h0
    · rw [h0, Nat.gcd_zero_left]; exact h n (by omega)
    · exact Nat.lt_of_le_of_lt (Nat.gcd_le_left _ h0) h1
theorem d5J {a : Int} (ha : a ≠ 0) {w : Nat → Int} : ∀ {n : Nat}, (∃ i, i < n ∧ w i ≠ 0) → sgF (fun i => a * w i) n = a.sign * sgF w n
  | 0, h => by obtain ⟨i, hi, _⟩ := h; omega
  | n + 1, h => by
    have e : (∀ i, i < n → a * w i = 0) = (∀ i, i < n → w i = 0) := by
      rw [eq_iff_iff]
      exact ⟨fun q i hi => by rcases Int.mul_eq_zero.1 (q i hi) with h | h; exact absurd h ha; exact h, fun q i hi => by rw [q i hi, Int.mul_zero]⟩
    by_cases h0 : ∀ i, i < n → w i = 0
    · have hn : w n ≠ 0 := by
        obtain ⟨i, hi, hw⟩ := h
        by_cases e : i = n
        · subst e; exact hw
        · exact absurd (h0 i (by omega)) hw
      have hs0 : ∀ (v : Nat → Int) (m : Nat), (∀ i, i < m → v i = 0) → sgF v m = 1 := by
        intro v m
        induction m with
        | zero => intro _; rfl
        | succ m ih => intro hv; unfold sgF; rw [if_neg (by intro h; have := h.2; rw [hv m (by omega)] at this; omega)]; exact ih fun i hi => hv i (by omega)
      unfold sgF
      rw [hs0 w n h0, hs0 (fun i => a * w i) n fun i hi => by rw [h0 i hi, Int.mul_zero]]
      simp only [e]
      rcases Int.lt_or_gt_of_ne ha with ha' | ha'
      · rw [Int.sign_eq_neg_one_of_neg ha']
        rcases Int.lt_or_gt_of_ne hn with hn' | hn'
        · rw [if_neg (by intro h; have := h.2; have := Int.mul_pos_of_neg_of_neg ha' hn'; omega), if_pos ⟨h0, hn'⟩]; rfl
        · rw [if_pos ⟨h0, Int.mul_neg_of_neg_of_pos ha' hn'⟩, if_neg (by intro h; have := h.2; omega)]; rfl
      · rw [Int.sign_eq_one_of_pos ha', Int.one_mul]
        rcases Int.lt_or_gt_of_ne hn with hn' | hn'
        · rw [if_pos ⟨h0, Int.mul_neg_of_pos_of_neg ha' hn'⟩, if_pos ⟨h0, hn'⟩]
        · rw [if_neg (by intro h; have := h.2; have := Int.mul_pos ha' hn'; omega), if_neg (by intro h; have := h.2; omega)]
    · have hex : ∃ i, i < n ∧ w i ≠ 0 := Classical.byContradiction fun hc => h0 fun i hi => Classical.byContradiction fun h1 => hc ⟨i, hi, h1⟩
      unfold sgF
      simp only [e]
      rw [if_neg (fun h => h0 h.1), if_neg (fun h => h0 h.1), d5J ha hex]
def Nz (w : Nat → Int) (c : Nat) : Prop := ∃ i, i < c ∧ w i ≠ 0
theorem d6k {w : Nat → Int} {c : Nat} (h : Nz w c) : a2o w c ≠ 0 := fun h0 => by
  obtain ⟨i, hi, hw⟩ := h
  exact hw (b9n.1 h0 i hi)
theorem e1G {w : Nat → Int} {c : Nat} (h : Nz w c) : sgF w c * (a2o w c : Int) ≠ 0 := by
  have := d6k h
  exact Int.mul_ne_zero (by rcases d0P w c with h | h <;> omega) (by omega)
/-- A multiple of what is left. -/
theorem a5x {w : Nat → Int} {c i : Nat} (hi : i < c) : w i = (sgF w c * (a2o w c : Int)) * a1J w c i := by
  obtain ⟨q, hq⟩ := d2S w hi
  unfold a1J
  rcases Nat.eq_zero_or_pos (a2o w c) with h0 | h0
  · rw [h0] at hq; rw [h0]; simp at hq ⊢; exact hq
  · have hd : (sgF w c * (a2o w c : Int)) ∣ w i := by
      rcases d0P w c with h | h
      · rw [h, Int.one_mul]; exact ⟨q, hq⟩
      · rw [h]; exact ⟨-q, by rw [hq, Int.neg_mul, Int.one_mul, Int.neg_mul_neg]⟩
    rw [Int.mul_ediv_cancel' hd]
theorem d2j {a : Int} (ha : a ≠ 0) {w : Nat → Int} {c : Nat} (h : Nz w c) {i : Nat} (hi : i < c) : a1J (fun i => a * w i) c i = a1J w c i := by
  have h1 := a5x (w := w) hi
  have hne := e1G h
  unfold a1J
  rw [d5J ha h, c8t]
  have e : a.sign * sgF w c * ((a.natAbs * a2o w c : Nat) : Int) = a * (sgF w c * (a2o w c : Int)) := by
    rw [Int.natCast_mul]
    have key : ∀ t s m g : Int, t * s * (m * g) = t * m * (s * g) := by
      intro t s m g; rw [Int.mul_assoc, Int.mul_assoc, Int.mul_left_comm s m g]
    rw [key, Int.sign_mul_natAbs a]
  rw [e]
  show a * w i / _ = w i / _
  generalize a1J w c i = p at *
  generalize sgF w c * (a2o w c : Int) = x at *
  rw [h1, ← Int.mul_assoc, Int.mul_ediv_cancel_left _ (Int.mul_ne_zero ha hne), Int.mul_ediv_cancel_left _ hne]
theorem b8H {w v : Nat → Int} {c : Nat} (h : ∀ i, i < c → w i = v i) {i : Nat} (hi : i < c) : a1J w c i = a1J v c i := by
  unfold a1J; rw [c5I h, d0R h, h i hi]
/-- Parallel vectors have one such. -/
theorem d5P {a b : Int} (ha : a ≠ 0) (hb : b ≠ 0) {w v : Nat → Int} {c : Nat} (hw : Nz w c) (h : ∀ i, i < c → a * w i = b * v i) {i : Nat} (hi : i < c) : a1J w c i = a1J v c i := by
  have hv : Nz v c := by
    obtain ⟨j, hj, hw⟩ := hw
    refine ⟨j, hj, fun h0 => ?_⟩
    have := h j hj
    rw [h0, Int.mul_zero] at this
    rcases Int.mul_eq_zero.1 this with h | h
    · exact ha h
    · exact hw h
  rw [← d2j ha hw hi, ← d2j hb hv hi]
  exact b8H h hi
theorem e4I {w : Nat → Int} {c : Nat} (h : Nz w c) : Nz (a1J w c) c := by
  obtain ⟨j, hj, hw⟩ := h
  refine ⟨j, hj, fun h0 => hw ?_⟩
  rw [a5x (w := w) hj, h0, Int.mul_zero]
theorem d2k {w : Nat → Int} {c : Nat} (h : Nz w c) {i : Nat} (hi : i < c) : a1J (a1J w c) c i = a1J w c i := by
  have hne := e1G h
  refine d5P (a := sgF w c * (a2o w c : Int)) (b := 1) hne (by decide) (e4I h) (fun j hj => ?_) hi
  rw [Int.one_mul]; exact (a5x hj).symm
theorem c2V {w : Nat → Int} {c i : Nat} (hi : i < c) : (a1J w c i).natAbs ≤ (w i).natAbs := by
  rcases Nat.eq_zero_or_pos (a2o w c) with h0 | h0
  · unfold a1J; rw [h0]; simp
  · have h1 := a5x (w := w) hi
    have h2 := congrArg Int.natAbs h1
    rw [Int.natAbs_mul] at h2
    rw [h2]
    refine Nat.le_mul_of_pos_left _ ?_
    have : sgF w c * (a2o w c : Int) ≠ 0 := Int.mul_ne_zero (by rcases d0P w c with h | h <;> omega) (by omega)
    omega
theorem d0Q {w : Nat → Int} : ∀ {c i : Nat}, i < c → w i ≠ 0 → (∀ j, j < i → w j = 0) → sgF w c = if w i < 0 then -1 else 1
  | 0, _, h, _, _ => absurd h (by omega)
  | n + 1, i, hi, h0, h => by
    unfold sgF
    by_cases e : i = n
    · subst e
      have h1 : sgF w i = 1 := by
        have : ∀ m, m ≤ i → sgF w m = 1 := by
          intro m
          induction m with
          | zero => intro _; rfl
          | succ m ih => intro hm; unfold sgF; rw [if_neg (by intro q; have := q.2; rw [h m (by omega)] at this; omega)]; exact ih (by omega)
        exact this i (Nat.le_refl _)
      rw [h1]
      by_cases hn : w i < 0
      · rw [if_pos ⟨h, hn⟩, if_pos hn]
      · rw [if_neg (fun q => hn q.2), if_neg hn]
    · rw [if_neg (fun q => h0 (q.1 i (by omega)))]
      exact d0Q (by omega) h0 h
end Go.Abs
namespace Go.Abs
def InS (j : JS) (v : Nat → Rat) : Prop := ∀ k, v k = sumR (fun i => v (j.s.cs.getD i 0) * j.M i k) j.s.cs.length
theorem e0l {j : JS} {u w : Nat → Rat} (hu : InS j u) (hw : InS j w) (a b : Rat) : InS j (fun k => a * u k + b * w k) := by
  intro k
  show a * u k + b * w k = _
  rw [hu k, hw k, ← a5r]
  refine a1d fun i _ => ?_
  show _ = (a * u (j.s.cs.getD i 0) + b * w (j.s.cs.getD i 0)) * j.M i k
  grind
theorem b8w {cs : List Nat} {m : Nat} (h : m < cs.length) : cs.take (m + 1) = cs.take m ++ [cs.getD m 0] := by
  rw [List.take_succ_eq_append_getElem h, List.getD_eq_getElem?_getD, List.getElem?_eq_getElem h]; rfl
section
variable {n : Nat} {j : JS} (h : JOk n j)
include h
theorem e6B {a : Nat} (ha : a < j.s.cs.length) : InS j (fun k => j.s.B a k) := by
  intro k
  have := h.up a k
  rw [if_neg (by omega)] at this
  show j.s.B a k = _
  rw [this]
  grind
theorem c9S : ∀ m i, m ≤ i → i < j.s.cs.length → InS j (fun k => a1G j.s.B (j.s.cs.take m) i k)
  | 0, i, _, hi => by
    have := e6B h hi
    intro k
    have := this k
    simp only [List.take_zero, b7G] at this ⊢
    exact this
  | m + 1, i, hm, hi => by
    have h1 := c9S m i (by omega) hi
    have h2 := c9S m m (Nat.le_refl m) (by omega)
    have hl : (j.s.cs.take m).length = m := by rw [List.length_take]; omega
    have hc := e0l h1 h2 1 (-(a1G j.s.B (j.s.cs.take m) i (j.s.cs.getD m 0) / a1G j.s.B (j.s.cs.take m) m (j.s.cs.getD m 0)))
    have e : (fun k => a1G j.s.B (j.s.cs.take (m + 1)) i k) = fun k => 1 * a1G j.s.B (j.s.cs.take m) i k + -(a1G j.s.B (j.s.cs.take m) i (j.s.cs.getD m 0) / a1G j.s.B (j.s.cs.take m) m (j.s.cs.getD m 0)) * a1G j.s.B (j.s.cs.take m) m k := by
      funext k
      rw [b8w (by omega), b9o _ _ _ (by rw [hl]; omega), hl]
      grind
    rw [e]; exact hc
theorem d5Q {a : Nat} (ha : a < j.s.cs.length) : a1G j.s.B (j.s.cs.take a) a (j.s.cs.getD a 0) ≠ 0 := by
  have h1 := a6Y (c2W (a + 1) h.g.piv)
  have hl : (j.s.cs.take a).length = a := by rw [List.length_take]; omega
  rw [b8w ha, c8q (c2W a h.g.piv), hl] at h1
  intro h0
  rw [h0] at h1
  exact h1 (by grind)
theorem b9p : ∀ m i t, m ≤ i → i < j.s.cs.length → t < m → a1G j.s.B (j.s.cs.take m) i (j.s.cs.getD t 0) = 0
  | 0, _, _, _, _, ht => absurd ht (by omega)
  | m + 1, i, t, hm, hi, ht => by
    have hl : (j.s.cs.take m).length = m := by rw [List.length_take]; omega
    rw [b8w (by omega), b9o _ _ _ (by rw [hl]; omega), hl]
    by_cases e : t = m
    · subst e
      have hp := d5Q h (a := t) (by omega)
      generalize a1G j.s.B (j.s.cs.take t) t (j.s.cs.getD t 0) = p at *
      generalize a1G j.s.B (j.s.cs.take t) i (j.s.cs.getD t 0) = q
      grind
    · rw [b9p m i t (by omega) hi (by omega), b9p m m t (Nat.le_refl m) (by omega) (by omega)]
      grind
theorem e7Q {a : Nat} (ha : a < j.s.cs.length) : InS j (fun k => Zg j.s a k) := by
  have h1 := c9S h a a (Nat.le_refl a) ha
  have := e0l h1 h1 (a4n j.s.B (j.s.cs.take a)) 0
  have e : (fun k => Zg j.s a k) = fun k => a4n j.s.B (j.s.cs.take a) * a1G j.s.B (j.s.cs.take a) a k + 0 * a1G j.s.B (j.s.cs.take a) a k := by
    funext k; unfold Zg; grind
  rw [e]; exact this
theorem e3w {a t : Nat} (ha : a < j.s.cs.length) (ht : t < a) : Zg j.s a (j.s.cs.getD t 0) = 0 := by
  unfold Zg; rw [b9p h a a t (Nat.le_refl a) ha ht]; grind
theorem e3v {a : Nat} (ha : a < j.s.cs.length) : Zg j.s a (j.s.cs.getD a 0) ≠ 0 := by
  unfold Zg
  have h1 := d5Q h ha
  have h2 := a6Y (c2W a h.g.piv)
  generalize a1G j.s.B (j.s.cs.take a) a (j.s.cs.getD a 0) = x at *
  generalize a4n j.s.B (j.s.cs.take a) = y at *
  grind
end
/-- The a0Y are columns that were gone through. -/
theorem e5F {n : Nat} {B : Nat → Nat → Rat} : ∀ t c, c ∈ (gproc n B t).cs → c < t
  | 0, _, h => by simp [gproc] at h
  | t + 1, c, h => by
    have h' : c ∈ (b0D n (gproc n B t) t).cs := h
    unfold b0D at h'
    cases hf : a2N (fun p => (gproc n B t).g p t) (gproc n B t).cs.length n with
    | none => rw [hf] at h'; exact Nat.lt_succ_of_lt (e5F t c h')
    | some p =>
      rw [hf] at h'
      rcases List.mem_append.1 h' with h | h
      · exact Nat.lt_succ_of_lt (e5F t c h)
      · simp at h; omega
theorem a8m {n : Nat} {B : Nat → Nat → Rat} {t i : Nat} (h : i < (gproc n B t).cs.length) : (gproc n B t).cs.getD i 0 < t := by
  refine e5F (n := n) (B := B) t _ ?_
  rw [List.getD_eq_getElem?_getD, List.getElem?_eq_getElem h]
  exact List.getElem_mem h
end Go.Abs
namespace Go.Abs
structure Alt (n : Nat) (F : (Nat → Nat → Rat) → Rat) : Prop where
  congr : ∀ M N, (∀ r c, r < n → c < n → M r c = N r c) → F M = F N
  eq0 : ∀ M s t, s ≠ t → s < n → t < n → (∀ c, M s c = M t c) → F M = 0
  lin : ∀ M t (x y : Rat) (u w : Nat → Rat), t < n → F (a0o M t fun c => x * u c + y * w c) = x * F (a0o M t u) + y * F (a0o M t w)
def oneR : Nat → Nat → Rat := fun i k => if i = k then 1 else 0
section
variable {n : Nat} {F : (Nat → Nat → Rat) → Rat} (h : Alt n F)
include h
theorem Alt.add {M : Nat → Nat → Rat} {t : Nat} (u w : Nat → Rat) (ht : t < n) : F (a0o M t fun c => u c + w c) = F (a0o M t u) + F (a0o M t w) := by
  have := h.lin M t 1 1 u w ht
  have e : (fun c => (1 : Rat) * u c + 1 * w c) = fun c => u c + w c := by funext c; grind
  rw [e] at this
  grind
theorem Alt.swap {M : Nat → Nat → Rat} {s t : Nat} (hst : s ≠ t) (hs : s < n) (ht : t < n) : F (a0D s t M) = -F M := by
  let u := M s
  let w := M t
  have A : ∀ p q : Nat → Rat, (∀ c, p c = q c) → F (a0o (a0o M s p) t q) = 0 := fun p q hpq => h.eq0 _ s t hst hs ht fun c => by
    unfold a0o
    simp [hst, hpq c]
  have h0 := A (fun c => u c + w c) (fun c => u c + w c) fun _ => rfl
  rw [h.add _ _ ht, a1m hst, a1m hst, h.add _ _ hs, h.add _ _ hs, ← a1m hst, ← a1m hst, ← a1m hst, ← a1m hst, A u u fun _ => rfl, A w w fun _ => rfl] at h0
  have e1 : a0o (a0o M s u) t w = M := by
    show a0o (a0o M s (M s)) t (M t) = M
    rw [a3h]; exact a3h M t
  have e2 : a0o (a0o M s w) t u = a0D s t M := by
    funext r c; unfold a0o a0D
    by_cases h1 : r = s
    · subst h1; simp [hst]; rfl
    · by_cases h2 : r = t
      · subst h2; simp [h1]; rfl
      · simp [h1, h2]
  rw [e1, e2] at h0
  grind
theorem Alt.addrow {M : Nat → Nat → Rat} {s t : Nat} (x : Rat) (hst : s ≠ t) (hs : s < n) (ht : t < n) : F (a0o M t fun c => M t c + x * M s c) = F M := by
  have h1 := h.lin M t 1 x (M t) (M s) ht
  have e : (fun c => (1 : Rat) * M t c + x * M s c) = fun c => M t c + x * M s c := by funext c; grind
  rw [e, a3h] at h1
  have h0 : F (a0o M t (M s)) = 0 := h.eq0 _ s t hst hs ht fun c => by unfold a0o; simp [hst]
  rw [h1, h0]
  grind
theorem Alt.elim (M : Nat → Nat → Rat) : ∀ k, k < n → F (a6x M k) = F M
  | 0, _ => by congr 1; funext r c; unfold a6x; rw [if_neg (by omega)]
  | k + 1, hk => by
    rw [← Alt.elim M k (by omega), ← h.addrow (M := a6x M k) (s := 0) (t := k + 1) (-(M (k + 1) 0 / M 0 0)) (by omega) (by omega) hk]
    congr 1
    funext r c
    unfold a0o a6x
    by_cases e : r = k + 1
    · subst e
      rw [if_pos ⟨by omega, Nat.le_refl _⟩, if_pos rfl]
      show _ = (if 0 < k + 1 ∧ k + 1 ≤ k then _ else _) + _ * (if 0 < 0 ∧ 0 ≤ k then _ else _)
      rw [if_neg (by omega), if_neg (by omega)]
    · by_cases h2 : 0 < r ∧ r ≤ k
      · rw [if_pos ⟨h2.1, by omega⟩, if_neg e, if_pos h2]
      · rw [if_neg (by omega), if_neg e, if_neg h2]
end
/-- A first row, and behind it a smaller matrix with nought ahead. -/
def und (u : Nat → Rat) (N : Nat → Nat → Rat) : Nat → Nat → Rat := fun r c => if r = 0 then u c else if c = 0 then 0 else N (r - 1) (c - 1)
def shR (v : Nat → Rat) : Nat → Rat := fun c => if c = 0 then 0 else v (c - 1)
theorem b8v (u v : Nat → Rat) (N : Nat → Nat → Rat) (t : Nat) : und u (a0o N t v) = a0o (und u N) (t + 1) (shR v) := by
  funext r c
  cases r with
  | zero => exact (if_neg (show ¬ 0 = t + 1 by omega)).symm
  | succ r =>
    cases c with
    | zero =>
      show (0 : Rat) = if r + 1 = t + 1 then 0 else 0
      split <;> rfl
    | succ c =>
      show (if r = t then v c else N r c) = if r + 1 = t + 1 then v c else N r c
      by_cases e : r = t
      · rw [if_pos e, if_pos (by omega)]
      · rw [if_neg e, if_neg (by omega)]
theorem Alt.und {n : Nat} {F : (Nat → Nat → Rat) → Rat} (h : Alt (n + 1) F) (u : Nat → Rat) : Alt n fun N => F (und u N) := by
  refine ⟨fun M N he => h.congr _ _ fun r c hr hc => ?_, fun M s t hst hs ht he => h.eq0 _ (s + 1) (t + 1) (by omega) (by omega) (by omega) fun c => ?_, fun M t x y v w ht => ?_⟩
  · cases r with
    | zero => rfl
    | succ r =>
      cases c with
      | zero => rfl
      | succ c => exact he r c (by omega) (by omega)
  · cases c with
    | zero => rfl
    | succ c => exact he c
  · show F (Abs.und u (a0o M t _)) = x * F (Abs.und u (a0o M t v)) + y * F (Abs.und u (a0o M t w))
    rw [b8v, b8v, b8v, ← h.lin _ _ _ _ _ _ (by omega)]
    congr 2
    funext c
    unfold shR
    split
    · grind
    · rfl
/-- The first row above the unit matrix. -/
theorem Alt.und_one {n : Nat} {F : (Nat → Nat → Rat) → Rat} (h : Alt (n + 1) F) (u : Nat → Rat) : F (Abs.und u oneR) = u 0 * F oneR := by
  have key : ∀ k, k ≤ n → F (Abs.und (fun c => if 0 < c ∧ c ≤ k then 0 else u c) oneR) = F (Abs.und u oneR) := by
    intro k
    induction k with
    | zero =>
      intro _
      congr 2
      funext c; rw [if_neg (by omega)]
    | succ k ih =>
      intro hk
      rw [← ih (by omega), ← h.addrow (M := Abs.und (fun c => if 0 < c ∧ c ≤ k then 0 else u c) oneR) (s := k + 1) (t := 0) (-(u (k + 1))) (by omega) (by omega) (by omega)]
      congr 1
      funext r c
      cases r with
      | zero =>
        cases c with
        | zero =>
          show (if 0 < 0 ∧ 0 ≤ k + 1 then 0 else u 0) = (if 0 < 0 ∧ 0 ≤ k then 0 else u 0) + -(u (k + 1)) * 0
          rw [if_neg (by omega), if_neg (by omega)]; grind
        | succ c =>
          show (if 0 < c + 1 ∧ c + 1 ≤ k + 1 then 0 else u (c + 1)) = (if 0 < c + 1 ∧ c + 1 ≤ k then 0 else u (c + 1)) + -(u (k + 1)) * (if k = c then 1 else 0)
          by_cases e : k = c
          · subst e; rw [if_pos ⟨by omega, Nat.le_refl _⟩, if_neg (by omega), if_pos rfl]; grind
          · rw [if_neg e]
            by_cases h2 : 0 < c + 1 ∧ c + 1 ≤ k
            · rw [if_pos ⟨h2.1, by omega⟩, if_pos h2]; grind
            · rw [if_neg (by omega), if_neg h2]; grind
      | succ r => rfl
  rw [← key n (Nat.le_refl n)]
  have e : ∀ r c, r < n + 1 → c < n + 1 → Abs.und (fun c => if 0 < c ∧ c ≤ n then 0 else u c) oneR r c = a0o oneR 0 (fun c => u 0 * oneR 0 c + 0 * oneR 0 c) r c := by
    intro r c hr hc
    cases r with
    | zero =>
      cases c with
      | zero =>
        show (if 0 < 0 ∧ 0 ≤ n then 0 else u 0) = u 0 * 1 + 0 * 1
        rw [if_neg (by omega)]; grind
      | succ c =>
        show (if 0 < c + 1 ∧ c + 1 ≤ n then 0 else u (c + 1)) = u 0 * 0 + 0 * 0
        rw [if_pos ⟨by omega, by omega⟩]; grind
    | succ r =>
      cases c with
      | zero => rfl
      | succ c =>
        show (if r = c then (1 : Rat) else 0) = if r + 1 = c + 1 then 1 else 0
        by_cases e : r = c
        · rw [if_pos e, if_pos (by omega)]
        · rw [if_neg e, if_neg (by omega)]
  rw [h.congr _ _ e, h.lin _ _ _ _ _ _ (by omega), a3h]
  grind
theorem Alt.uniq : ∀ {n : Nat} {F : (Nat → Nat → Rat) → Rat}, Alt n F → ∀ M, F M = F oneR * det n M
  | 0, F, h, M => by
    rw [h.congr M oneR fun r c hr => absurd hr (by omega)]
    simp only [det]; grind
  | n + 1, F, h, M => by
    have small : ∀ M : Nat → Nat → Rat, M 0 0 ≠ 0 → F M = F oneR * det (n + 1) M := by
      intro M h0
      have e : F M = F (Abs.und (M 0) (a3W M)) := by
        rw [← h.elim M n (by omega)]
        refine h.congr _ _ fun r c hr hc => ?_
        cases r with
        | zero => exact if_neg (by omega)
        | succ r =>
          have e1 : a6x M n (r + 1) c = M (r + 1) c + -(M (r + 1) 0 / M 0 0) * M 0 c := if_pos ⟨by omega, by omega⟩
          rw [e1]
          cases c with
          | zero => show _ = (0 : Rat); grind
          | succ c => show _ = M (r + 1) (c + 1) - M (r + 1) 0 / M 0 0 * M 0 (c + 1); grind
      have h1 := Alt.uniq (h.und (M 0)) (a3W M)
      have h2 := h.und_one (M 0)
      rw [e, h1, h2, b1N h0]
      grind
    by_cases h0 : ∀ r, r < n + 1 → M r 0 = 0
    · have e : F M = F (Abs.und (M 0) fun i k => M (i + 1) (k + 1)) := by
        refine h.congr _ _ fun r c hr hc => ?_
        cases r with
        | zero => rfl
        | succ r =>
          cases c with
          | zero => exact h0 (r + 1) hr
          | succ c => rfl
      have h1 := Alt.uniq (h.und (M 0)) fun i k => M (i + 1) (k + 1)
      have h2 := h.und_one (M 0)
      rw [e, h1, h2, h0 0 (by omega), c2B (t := 0) (by omega) h0]
      grind
    · obtain ⟨p, hp, hne⟩ : ∃ p, p < n + 1 ∧ M p 0 ≠ 0 := by
        refine Classical.byContradiction fun hq => h0 fun r hr => Classical.byContradiction fun hz => hq ⟨r, hr, hz⟩
      by_cases hp0 : p = 0
      · subst hp0; exact small M hne
      · have hs := small (a0D 0 p M) (by unfold a0D; rw [if_pos rfl]; exact hne)
        rw [h.swap (by omega) (by omega) hp, d0n (by omega) (by omega) hp] at hs
        grind
theorem d6u : ∀ n, det n oneR = 1
  | 0 => rfl
  | n + 1 => by
    have h0 : oneR 0 0 = 1 := if_pos rfl
    rw [b1N (by rw [h0]; decide), h0]
    have : det n (a3W oneR) = det n oneR := a1C fun r c _ _ => by
      unfold a3W oneR
      rw [if_neg (show ¬ r + 1 = 0 by omega)]
      by_cases e : r = c
      · rw [if_pos e, if_pos (by omega)]; grind
      · rw [if_neg e, if_neg (by omega)]; grind
    rw [this, d6u n]; grind
def mulR (n : Nat) (A B : Nat → Nat → Rat) : Nat → Nat → Rat := fun i k => sumR (fun j => A i j * B j k) n
theorem e5D (n : Nat) (A B : Nat → Nat → Rat) : det n (mulR n A B) = det n A * det n B := by
  have h : Alt n fun A => det n (mulR n A B) := by
    refine ⟨fun M N he => a1C fun r c hr hc => a1d fun j hj => by rw [he r j hr hj], fun M s t hst hs ht he => c5X hst hs ht fun c => a1d fun j _ => by rw [he j], fun M t x y u w ht => ?_⟩
    have e : ∀ v : Nat → Rat, mulR n (a0o M t v) B = a0o (mulR n M B) t fun c => sumR (fun j => v j * B j c) n := fun v => by
      funext r c
      unfold mulR a0o
      split <;> rfl
    show det n (mulR n (a0o M t _) B) = _ * det n (mulR n (a0o M t u) B) + _ * det n (mulR n (a0o M t w) B)
    rw [e, e, e, ← d0p _ _ _ _ ht]
    congr 2
    funext c
    rw [← a5r]
    exact a1d fun j _ => by grind
  have h1 := h.uniq A
  have h2 : det n (mulR n oneR B) = det n B := a1C fun r c hr hc => by
    unfold mulR
    rw [b5p hr fun j _ hj => by unfold oneR; rw [if_neg (Ne.symm hj)]; grind]
    unfold oneR; rw [if_pos rfl]; grind
  show det n (mulR n A B) = _
  have h3 : det n (mulR n A B) = det n (mulR n oneR B) * det n A := h1
  rw [h3, h2]
  grind
theorem e2Q (n : Nat) (A : Nat → Nat → Rat) : det n (fun i k => A k i) = det n A := by
  have h : Alt n fun A => det n fun i k => A k i := by
    refine ⟨fun M N he => a1C fun r c hr hc => he c r hc hr, fun M s t hst hs ht he => c8v hs ht hst he, fun M t x y u w ht => ?_⟩
    have e : ∀ v : Nat → Rat, (fun i k => a0o M t v k i) = a1Z (fun i k => M k i) t v := fun v => by
      funext r c
      unfold a0o a1Z
      rfl
    show det n (fun i k => a0o M t _ k i) = _ * det n (fun i k => a0o M t u k i) + _ * det n (fun i k => a0o M t w k i)
    rw [e, e, e, ← b2m _ _ _ _ ht]
  have h1 : det n (fun i k => A k i) = det n (fun i k => oneR k i) * det n A := h.uniq A
  have h2 : det n (fun i k => oneR k i) = det n oneR := a1C fun r c _ _ => by unfold oneR; by_cases e : r = c <;> simp [e, eq_comm]
  rw [h1, h2, d6u]
  grind
end Go.Abs
namespace Go.Abs
theorem c8s {n : Nat} {B : Nat → Nat → Rat} : ∀ t, (gproc n B t).cs.length = t → ∀ b, b < t → (gproc n B t).cs.getD b 0 = b
  | 0, _, _, h => absurd h (by omega)
  | t + 1, hl, b, hb => by
    rcases a0V (fun p => (gproc n B t).g p t) (gproc n B t).cs.length n with ⟨p, hf, h1, h2, h3, _⟩ | ⟨hf, h4⟩
    · have e : gproc n B (t + 1) = _ := a0J hf
      rw [e] at hl ⊢
      simp only [a1F] at hl
      show ((gproc n B t).cs ++ [t]).getD b 0 = b
      have ht : (gproc n B t).cs.length = t := by omega
      by_cases hbt : b = t
      · subst hbt; simp [List.getD_eq_getElem?_getD, ht]
      · have := c8s t ht b (by omega)
        rw [List.getD_eq_getElem?_getD, List.getElem?_append_left (by omega), ← List.getD_eq_getElem?_getD]; exact this
    · have e : gproc n B (t + 1) = gproc n B t := a1I hf
      rw [e] at hl
      have := b1w n B t
      omega
end Go.Abs
namespace Go.Abs
theorem d8W {f : Nat → Rat} {r : Nat} : ∀ {n : Nat}, r ≤ n → (∀ j, r ≤ j → j < n → f j = 0) → sumR f n = sumR f r
  | 0, h, _ => by rw [show r = 0 by omega]
  | n + 1, h, h0 => by
    by_cases e : r = n + 1
    · rw [e]
    · show sumR f n + f n = _
      rw [d8W (n := n) (by omega) fun j h1 h2 => h0 j h1 (by omega), h0 n (by omega) (by omega)]
      grind
section
variable {n : Nat} {B : Nat → Nat → Rat}
/-- Some of the columns, in any order: the exchanges of rows. -/
theorem d5S (f : Nat → Nat) : ∀ t, det n (fun a c => (gproc n B t).B a (f c)) = if (gproc n B t).odd then -det n (fun a c => B a (f c)) else det n (fun a c => B a (f c))
  | 0 => rfl
  | t + 1 => by
    have ih := d5S f t
    rcases a0V (fun p => (gproc n B t).g p t) (gproc n B t).cs.length n with ⟨p, hf, h1, h2, h3, _⟩ | ⟨hf, h4⟩
    · have e : gproc n B (t + 1) = _ := a0J hf
      rw [e]
      show det n (fun a c => a0D p (gproc n B t).cs.length (gproc n B t).B a (f c)) = if (if p = (gproc n B t).cs.length then (gproc n B t).odd else !(gproc n B t).odd) = true then _ else _
      have e2 : (fun a c => a0D p (gproc n B t).cs.length (gproc n B t).B a (f c)) = a0D p (gproc n B t).cs.length fun a c => (gproc n B t).B a (f c) := by
        funext a c
        unfold a0D
        split
        · rfl
        · split <;> rfl
      rw [e2]
      by_cases hp : p = (gproc n B t).cs.length
      · rw [if_pos hp, hp, c6M]; exact ih
      · rw [if_neg hp, d0n hp h2 (by omega), ih]
        cases (gproc n B t).odd <;> simp <;> grind
    · have e : gproc n B (t + 1) = _ := a1I hf
      rw [e]; exact ih
theorem d5T : ∀ t a, a < n → ∃ a', a' < n ∧ ∀ k, (gproc n B t).B a' k = B a k
  | 0, a, h => ⟨a, h, fun _ => rfl⟩
  | t + 1, a, h => by
    obtain ⟨a1, h1, h2⟩ := d5T t a h
    rcases a0V (fun p => (gproc n B t).g p t) (gproc n B t).cs.length n with ⟨p, hf, g1, g2, g3, _⟩ | ⟨hf, h4⟩
    · have e : gproc n B (t + 1) = _ := a0J hf
      rw [e]
      refine ⟨if a1 = p then (gproc n B t).cs.length else if a1 = (gproc n B t).cs.length then p else a1, ?_, fun k => ?_⟩
      · split
        · omega
        · split <;> omega
      · rw [← h2 k]
        show a0D p (gproc n B t).cs.length (gproc n B t).B _ k = _
        unfold a0D
        by_cases e1 : a1 = p
        · rw [if_pos e1]
          by_cases e2 : (gproc n B t).cs.length = p
          · rw [if_pos e2, e1, e2]
          · rw [if_neg e2, if_pos rfl, e1]
        · rw [if_neg e1]
          by_cases e2 : a1 = (gproc n B t).cs.length
          · rw [if_pos e2, if_pos rfl, e2]
          · rw [if_neg e2, if_neg e1, if_neg e2]
    · have e : gproc n B (t + 1) = _ := a1I hf
      rw [e]; exact ⟨a1, h1, h2⟩
variable (hB : ∀ i k, ∃ z : Int, B i k = z)
include hB
/-- Every row, over the columns gone through, from its entries at the a0Y. -/
theorem d9p {t a k : Nat} (ha : a < n) (hk : k < t) : B a k = sumR (fun i => B a ((gproc n B t).cs.getD i 0) * (a0t n B t).M i k) (gproc n B t).cs.length := by
  obtain ⟨a', h1, h2⟩ := d5T (n := n) (B := B) t a ha
  have hok := a5C (n := n) hB t
  have hu := hok.up a' k
  rw [a0O] at hu
  have hz : (if (gproc n B t).cs.length ≤ a' then (a0t n B t).M a' k else 0) = 0 := by
    split
    · rename_i h
      rw [hok.low a' k (by rw [a0O]; exact h), a0O]
      exact d2U hB t a' k h h1 hk
    · rfl
  rw [hz] at hu
  rw [← h2 k, hu]
  have : sumR (fun i => (gproc n B t).B a' ((gproc n B t).cs.getD i 0) * (a0t n B t).M i k) (gproc n B t).cs.length = sumR (fun i => B a ((gproc n B t).cs.getD i 0) * (a0t n B t).M i k) (gproc n B t).cs.length := a1d fun i _ => by rw [h2]
  rw [this]; grind
/-- The entries at the a0Y. -/
theorem d5t : ∀ t i s, i < (gproc n B t).cs.length → s < (gproc n B t).cs.length → (a0t n B t).M i ((gproc n B t).cs.getD s 0) = if i = s then 1 else 0
  | 0, _, _, h, _ => absurd h (Nat.not_lt_zero _)
  | t + 1, i, s, hi, hs => by
    have hok := a5C (n := n) hB t
    have hrn := (a3c (n := n) hB t).len
    rcases a0V (fun p => (gproc n B t).g p t) (gproc n B t).cs.length n with ⟨p, hf, h1, h2, h3, _⟩ | ⟨hf, h4⟩
    · have e : gproc n B (t + 1) = _ := a0J hf
      have ej : a0t n B (t + 1) = _ := b9j (j := a0t n B t) (c := t) (n := n) (p := p) (by rw [a0O]; exact hf)
      rw [a0O] at ej
      rw [e] at hi hs ⊢
      simp only [a1F] at hi hs
      rw [ej]
      show jel (gproc n B t).cs.length t (a0D p (gproc n B t).cs.length (a0t n B t).M) i (((gproc n B t).cs ++ [t]).getD s 0) = _
      have low : ∀ a k, (gproc n B t).cs.length ≤ a → (a0t n B t).M a k = (gproc n B t).g a k := fun a k h => by rw [hok.low a k (by rw [a0O]; exact h), a0O]
      have hold : ∀ s, s < (gproc n B t).cs.length → ((gproc n B t).cs ++ [t]).getD s 0 = (gproc n B t).cs.getD s 0 := fun s hs => by
        simp [List.getD_eq_getElem?_getD, List.getElem?_append_left hs]
      have hnew : ((gproc n B t).cs ++ [t]).getD (gproc n B t).cs.length 0 = t := by simp [List.getD_eq_getElem?_getD]
      have ih := fun i s => d5t t i s
      have hlt : ∀ s, s < (gproc n B t).cs.length → (gproc n B t).cs.getD s 0 < t := fun s hs => a8m hs
      have hz : ∀ s, s < (gproc n B t).cs.length → (a0t n B t).M p ((gproc n B t).cs.getD s 0) = 0 := fun s hs => by
        rw [low p _ h1]; exact d2U hB t p _ h1 h2 (hlt s hs)
      have hp0 : (a0t n B t).M p t ≠ 0 := by rw [low p t h1]; exact h3
      have htop : ∀ k, a0D p (gproc n B t).cs.length (a0t n B t).M (gproc n B t).cs.length k = (a0t n B t).M p k := fun k => by
        unfold a0D
        by_cases e : (gproc n B t).cs.length = p
        · rw [if_pos e, e]
        · rw [if_neg e, if_pos rfl]
      generalize (gproc n B t).cs.length = r at *
      unfold jel
      by_cases hir : i = r
      · rw [if_pos hir, htop, htop]
        by_cases hsr : s = r
        · subst hir; subst hsr
          rw [hnew, if_pos rfl]
          rw [Rat.div_def, Rat.mul_inv_cancel _ hp0]
        · rw [hold s (by omega), hz s (by omega), if_neg (by omega)]
          grind
      · rw [if_neg hir, htop, htop]
        have hM : ∀ k, a0D p r (a0t n B t).M i k = (a0t n B t).M i k := fun k => by
          unfold a0D
          rw [if_neg (by omega), if_neg hir]
        rw [hM, hM]
        by_cases hsr : s = r
        · subst hsr
          rw [hnew, if_neg hir, Rat.div_def, Rat.mul_inv_cancel _ hp0]
          grind
        · rw [hold s (by omega), hz s (by omega), ih i s (by omega) (by omega)]
          grind
    · have e : gproc n B (t + 1) = _ := a1I hf
      have ej : a0t n B (t + 1) = _ := b9k (j := a0t n B t) (c := t) (n := n) (by rw [a0O]; exact hf)
      rw [e] at hi hs ⊢
      rw [ej]
      exact d5t t i s hi hs
/-- All rows independent: in the turned matrix every one of the columns is a head. -/
theorem d3P {m : Nat} {T : Nat → Nat → Rat} (hT : ∀ i k, ∃ z : Int, T i k = z) (hTB : ∀ i k, i < m → k < n → T i k = B k i) (hr : (gproc n B m).cs.length = n) : (gproc m T n).cs.length = n := by
  have hle := b1w m T n
  refine Classical.byContradiction fun hne => ?_
  have hlt : (gproc m T n).cs.length < n := by omega
  have hd0 := a6Y (a3c (n := n) hB m).piv
  unfold a4n at hd0
  rw [hr] at hd0
  have e1 : det n (a0Y (gproc n B m).B (gproc n B m).cs) = det n fun a c => (gproc n B m).B a ((gproc n B m).cs.getD c 0) := by
    refine a1C fun r c _ hc => ?_
    unfold a0Y colm
    rw [if_pos (by omega)]
  rw [e1, d5S fun c => (gproc n B m).cs.getD c 0] at hd0
  have hd1 : det n (fun a c => B a ((gproc n B m).cs.getD c 0)) ≠ 0 := by
    intro h
    rw [h] at hd0
    apply hd0
    split
    · grind
    · rfl
  rw [← e2Q n] at hd1
  apply hd1
  have e2 : det n (fun i k => B k ((gproc n B m).cs.getD i 0)) = det n (mulR n (fun i t => if t < (gproc m T n).cs.length then T ((gproc n B m).cs.getD i 0) ((gproc m T n).cs.getD t 0) else 0) (a0t m T n).M) := by
    refine a1C fun i k hi hk => ?_
    have hci : (gproc n B m).cs.getD i 0 < m := a8m (by omega)
    rw [← hTB _ _ hci hk, d9p hT hci hk]
    unfold mulR
    rw [d8W (r := (gproc m T n).cs.length) hle fun j h1 h2 => by show (if j < (gproc m T n).cs.length then _ else _) * _ = (0 : Rat); rw [if_neg (by omega)]; grind]
    exact a1d fun j hj => by show _ = (if j < (gproc m T n).cs.length then _ else _) * _; rw [if_pos hj]
  rw [e2, e5D, a9K hlt fun r => by rw [if_neg (Nat.lt_irrefl _)]]
  grind
end
end Go.Abs
namespace Go.Abs
open Go.Proofs
noncomputable abbrev Pr : Program := Try.prog
abbrev a7j : FuncId := 11
abbrev b5c : FuncId := 14
abbrev a7i : FuncId := 15
abbrev b1V : FuncId := 16
abbrev b5b : FuncId := 19
abbrev a4Y : FuncId := 21
abbrev a8v : FuncId := 23
abbrev b9A : FuncId := 34
abbrev a8o : FuncId := 36
abbrev a3s : FuncId := 38
abbrev a0M : FuncId := 41
abbrev a1s : FuncId := 42
abbrev a1Q : FuncId := 44
abbrev b2u : FuncId := 48
abbrev a7l : FuncId := 49
abbrev a3a : FuncId := 50
abbrev a5I : FuncId := 51
abbrev a1i : FuncId := 52
abbrev a7e : FuncId := 53
abbrev a7g : FuncId := 54
abbrev b5a : FuncId := 57
abbrev b9y : FuncId := 59
abbrev a6z : FuncId := 60
abbrev a3t : FuncId := 63
abbrev b1W : FuncId := 64
abbrev a7k : FuncId := 67
abbrev a7M : FuncId := 69
abbrev a6C : FuncId := 70
abbrev b4R : FuncId := 71
abbrev a0X : FuncId := 73
abbrev a8s : FuncId := 77
abbrev a2A : FuncId := 78
abbrev a6A : FuncId := 79
abbrev a8p : FuncId := 80
abbrev a9N : FuncId := 81
abbrev b9z : FuncId := 82
abbrev a9U : FuncId := 85
abbrev a5N : FuncId := 86
abbrev a3S : FuncId := 87
abbrev a7d : FuncId := 88
abbrev a9O : FuncId := 89
abbrev b4U : FuncId := 90
abbrev a7f : FuncId := 91
abbrev a8t : FuncId := 92
abbrev a2C : FuncId := 93
abbrev a6B : FuncId := 94
abbrev a1j : FuncId := 95
abbrev a2K : FuncId := 96
abbrev b4W : FuncId := 97
abbrev a5J : FuncId := 98
abbrev a1e : FuncId := 99
abbrev b2r : FuncId := 101
abbrev b2t : FuncId := 102
abbrev a0r : FuncId := 103
abbrev b8r : FuncId := 104
abbrev a3u : FuncId := 105
abbrev b4S : FuncId := 106
abbrev a2B : FuncId := 107
abbrev a4s : FuncId := 108
abbrev a1y : FuncId := 109
abbrev b4T : FuncId := 110
abbrev a0z : FuncId := 111
abbrev a4t : FuncId := 112
abbrev a9R : FuncId := 113
abbrev a3l : FuncId := 114
abbrev a2e : FuncId := 115
abbrev c6l : FuncId := 117
abbrev a8u : FuncId := 118
abbrev c6k : FuncId := 119
abbrev a8r : FuncId := 120
abbrev b4Z : FuncId := 121
abbrev a1H : FuncId := 122
abbrev b8q : FuncId := 123
abbrev a9T : FuncId := 124
abbrev b8p : FuncId := 125
abbrev b4V : FuncId := 126
abbrev a9S : FuncId := 127
abbrev a3m : FuncId := 128
abbrev a9Q : FuncId := 129
abbrev a9P : FuncId := 130
abbrev b4X : FuncId := 131
abbrev a2E : FuncId := 132
abbrev a0P : FuncId := 133
abbrev a2D : FuncId := 134
abbrev b4Y : FuncId := 135
abbrev a8q : FuncId := 136
abbrev a7h : FuncId := 137
def e1D : ByteArray := ⟨#[0, 1, 2, 2, 3, 3, 3, 3, 4, 4, 4, 4, 4, 4, 4, 4, 5, 5, 5, 5, 5, 5, 5, 5, 5, 5, 5, 5, 5, 5, 5, 5, 6, 6, 6, 6, 6, 6, 6, 6, 6, 6, 6, 6, 6, 6, 6, 6, 6, 6, 6, 6, 6, 6, 6, 6, 6, 6, 6, 6, 6, 6, 6, 6, 7, 7, 7, 7, 7, 7, 7, 7, 7, 7, 7, 7, 7, 7, 7, 7, 7, 7, 7, 7, 7, 7, 7, 7, 7, 7, 7, 7, 7, 7, 7, 7, 7, 7, 7, 7, 7, 7, 7, 7, 7, 7, 7, 7, 7, 7, 7, 7, 7, 7, 7, 7, 7, 7, 7, 7, 7, 7, 7, 7, 7, 7, 7, 7, 8, 8, 8, 8, 8, 8, 8, 8, 8, 8, 8, 8, 8, 8, 8, 8, 8, 8, 8, 8, 8, 8, 8, 8, 8, 8, 8, 8, 8, 8, 8, 8, 8, 8, 8, 8, 8, 8, 8, 8, 8, 8, 8, 8, 8, 8, 8, 8, 8, 8, 8, 8, 8, 8, 8, 8, 8, 8, 8, 8, 8, 8, 8, 8, 8, 8, 8, 8, 8, 8, 8, 8, 8, 8, 8, 8, 8, 8, 8, 8, 8, 8, 8, 8, 8, 8, 8, 8, 8, 8, 8, 8, 8, 8, 8, 8, 8, 8, 8, 8, 8, 8, 8, 8, 8, 8, 8, 8, 8, 8, 8, 8, 8, 8, 8, 8, 8, 8, 8, 8, 8, 8, 8, 8, 8, 8, 8, 8]⟩
end Go.Abs

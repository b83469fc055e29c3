/- Part 6 of the proof of BookBack: M1, D1, D2, D3, W1, W2, W3, D4, W5, D5, W6, D6, W7, W8, D9, D10, D11, W9. -/
import Derived.Test.YtclecbomkhgflaaGreatDoorBookBackK5
set_option linter.unusedVariables false
set_option linter.unusedSimpArgs false
namespace Go.Abs
abbrev LB : Nat := 4294967296
def val : List Nat → Nat
 | [] => 0
 | d :: l => d + LB * val l
def Lim (l : List Nat) : Prop := ∀ d ∈ l, d < LB
def limbs (n : Nat) : List Nat := if h : n = 0 then [] else n % LB :: limbs (n / LB)
termination_by n
decreasing_by exact Nat.div_lt_self (by omega) (by decide)
theorem a0R : limbs 0 = [] := by rw [limbs]; simp
theorem a6l {n : Nat} (h : n ≠ 0) : limbs n = n % LB :: limbs (n / LB) := by rw [limbs]; simp [h]
theorem a0q (n : Nat) : val (limbs n) = n := by
 induction n using Nat.strongRecOn with
 | _ n ih =>
  by_cases h : n = 0
  ·subst h; rw [a0R]; rfl
  ·rw [a6l h, val, ih (n / LB) (Nat.div_lt_self (by omega) (by decide))]
   exact Nat.mod_add_div n LB
theorem a0H (n : Nat) : Lim (limbs n) := by
 induction n using Nat.strongRecOn with
 | _ n ih =>
  by_cases h : n = 0
  ·subst h; rw [a0R]; intro d hd; simp at hd
  ·rw [a6l h]
   intro d hd
   rcases List.mem_cons.1 hd with rfl | hd
   ·exact Nat.mod_lt _ (by decide)
   ·exact ih (n / LB) (Nat.div_lt_self (by omega) (by decide)) d hd
theorem c4v : Lim [] := fun d hd => by simp at hd
theorem c1Q {d : Nat} {l : List Nat} : Lim (d :: l) ↔ d < LB ∧ Lim l := by
 constructor
 ·intro h; exact ⟨h d (by simp), fun e he => h e (by simp [he])⟩
 ·rintro ⟨h1, h2⟩ e he
  rcases List.mem_cons.1 he with rfl | he
  ·exact h1
  ·exact h2 e he
theorem b8L {a b : List Nat} : Lim (a ++ b) ↔ Lim a ∧ Lim b := by
 constructor
 ·intro h; exact ⟨fun d hd => h d (by simp [hd]), fun d hd => h d (by simp [hd])⟩
 ·rintro ⟨h1, h2⟩ d hd
  rcases List.mem_append.1 hd with hd | hd
  ·exact h1 d hd
  ·exact h2 d hd
theorem Lim.take {l : List Nat} (h : Lim l) (n : Nat) : Lim (l.take n) := fun d hd => h d (List.mem_of_mem_take hd)
theorem Lim.drop {l : List Nat} (h : Lim l) (n : Nat) : Lim (l.drop n) := fun d hd => h d (List.mem_of_mem_drop hd)
theorem b0c (a b : List Nat) : val (a ++ b) = val a + LB ^ a.length * val b := by
 induction a with
 | nil => simp [val]
 | cons d a ih =>
  simp only [List.cons_append, val, ih, List.length_cons]
  rw [Nat.mul_add, ← Nat.mul_assoc, ← Nat.pow_succ', Nat.add_assoc]
theorem a1Z {l : List Nat} (h : Lim l) : val l < LB ^ l.length := by
 induction l with
 | nil => simp [val]
 | cons d l ih =>
  have h' := c1Q.1 h
  have := ih h'.2
  simp only [val, List.length_cons, Nat.pow_succ']
  have h1 : LB * (val l + 1) ≤ LB * LB ^ l.length := Nat.mul_le_mul_left _ this
  rw [Nat.mul_add, Nat.mul_one] at h1
  have := h'.1
  omega
theorem c7C (n : Nat) : val (List.replicate n 0) = 0 := by
 induction n with
 | zero => rfl
 | succ n ih => simp [List.replicate_succ, val, ih]
theorem b0l : ∀ {l : List Nat}, Lim l → (l.getLast?).getD 1 ≠ 0 → limbs (val l) = l
 | [], _, _ => a0R
 | d :: l, h, hl => by
  obtain ⟨h1, h2⟩ := c1Q.1 h
  have hl' : (l.getLast?).getD 1 ≠ 0 := by
   cases l with
   | nil => simp
   | cons e l => simpa [List.getLast?_cons_cons] using hl
  have hne : val (d :: l) ≠ 0 := by
   intro h0
   simp only [val] at h0
   have hd : d = 0 := by omega
   have hv : val l = 0 := by
    have : LB * val l = 0 := by omega
    rcases Nat.mul_eq_zero.1 this with h | h
    ·exact absurd h (by decide)
    ·exact h
   have := b0l h2 hl'
   rw [hv, a0R] at this
   subst this
   subst hd
   simp at hl
  rw [a6l hne]
  simp only [val]
  rw [Nat.add_mul_mod_self_left, Nat.mod_eq_of_lt h1, Nat.add_mul_div_left _ _ (by decide), Nat.div_eq_of_lt h1, Nat.zero_add, b0l h2 hl']
theorem b4f (n : Nat) : ((limbs n).getLast?).getD 1 ≠ 0 := by
 induction n using Nat.strongRecOn with
 | _ n ih =>
  by_cases h : n = 0
  ·subst h; rw [a0R]; simp
  ·rw [a6l h]
   have := ih (n / LB) (Nat.div_lt_self (by omega) (by decide))
   cases hq : limbs (n / LB) with
   | nil =>
    have h0 : n / LB = 0 := by
     have := a0q (n / LB)
     rw [hq] at this
     exact this.symm
    have : n % LB = n := Nat.mod_eq_of_lt (by
     rcases Nat.lt_or_ge n LB with h' | h'
     ·exact h'
     ·have := Nat.div_pos h' (by decide); omega)
    simp [this, h]
   | cons e l =>
    rw [hq] at this
    simpa [List.getLast?_cons_cons] using this
theorem a0M {n k : Nat} (h : n < LB ^ k) : (limbs n).length ≤ k := by
 induction k generalizing n with
 | zero =>
  have : n = 0 := by simpa using h
  subst this; rw [a0R]; simp
 | succ k ih =>
  by_cases h0 : n = 0
  ·subst h0; rw [a0R]; simp
  ·rw [a6l h0, List.length_cons]
   have : n / LB < LB ^ k := by
    rw [Nat.div_lt_iff_lt_mul (by decide)]
    rwa [Nat.pow_succ] at h
   have := ih this
   omega
theorem d0f {n : Nat} (h : limbs n ≠ []) : LB ^ ((limbs n).length - 1) ≤ n := by
 induction n using Nat.strongRecOn with
 | _ n ih =>
  by_cases h0 : n = 0
  ·subst h0; rw [a0R] at h; simp at h
  ·rw [a6l h0, List.length_cons, Nat.add_sub_cancel]
   by_cases hq : limbs (n / LB) = []
   ·rw [hq]; simp; omega
   ·have := ih (n / LB) (Nat.div_lt_self (by omega) (by decide)) hq
    have hl : 0 < (limbs (n / LB)).length := List.length_pos_iff.2 hq
    have h1 : LB ^ (limbs (n / LB)).length = LB ^ ((limbs (n / LB)).length - 1) * LB := by
     rw [← Nat.pow_succ]; congr 1; omega
    rw [h1]
    exact Nat.le_trans (Nat.mul_le_mul_right _ this) (Nat.div_mul_le_self n LB)
theorem d6O (l : List Nat) : val (l ++ [0]) = val l := by rw [b0c]; simp [val]
theorem a7C (l : List Nat) (d : Nat) : val (l ++ [d]) = val l + LB ^ l.length * d := by rw [b0c]; simp [val]
theorem c7B {l : List Nat} {i : Nat} (h : i < l.length) : val (l.take (i + 1)) = val (l.take i) + LB ^ i * l[i] := by
 rw [List.take_succ_eq_append_getElem h, a7C, List.length_take, Nat.min_eq_left (by omega)]
theorem a2p {l : List Nat} (h : Lim l) (i : Nat) : l.getD i 0 < LB := by
 rw [List.getD_eq_getElem?_getD]
 rcases Nat.lt_or_ge i l.length with hi | hi
 ·rw [List.getElem?_eq_getElem hi, Option.getD_some]; exact h _ (List.getElem_mem hi)
 ·rw [List.getElem?_eq_none hi]; decide
theorem a0w (l : List Nat) (i : Nat) : val (l.take (i + 1)) = val (l.take i) + LB ^ i * l.getD i 0 := by
 rcases Nat.lt_or_ge i l.length with h | h
 ·rw [c7B h, List.getD_eq_getElem?_getD, List.getElem?_eq_getElem h, Option.getD_some]
 ·rw [List.take_of_length_le (by omega), List.take_of_length_le h, List.getD_eq_getElem?_getD, List.getElem?_eq_none h]; simp
theorem a7I (i : Nat) : 0 < LB ^ i := Nat.pow_pos (by decide)
theorem b6s {a b : List Nat} {i : Nat} (ha : Lim a) (hb : Lim b) (h : a.drop (i + 1) = b.drop (i + 1)) (hi : i < a.length) (hi' : i < b.length) (hl : a.length = b.length) (hlt : a.getD i 0 < b.getD i 0) : val a < val b := by
 have e1 : a = a.take (i + 1) ++ a.drop (i + 1) := (List.take_append_drop _ _).symm
 have e2 : b = b.take (i + 1) ++ b.drop (i + 1) := (List.take_append_drop _ _).symm
 rw [e1, e2, b0c, b0c, h, a0w, a0w]
 have l1 : (a.take (i + 1)).length = i + 1 := by rw [List.length_take]; omega
 have l2 : (b.take (i + 1)).length = i + 1 := by rw [List.length_take]; omega
 rw [l1, l2]
 have h1 := a1Z (ha.take i)
 rw [List.length_take, Nat.min_eq_left (by omega)] at h1
 have h2 : LB ^ i * (a.getD i 0 + 1) ≤ LB ^ i * b.getD i 0 := Nat.mul_le_mul_left _ hlt
 rw [Nat.mul_add] at h2
 omega
def blen (n : Nat) : Nat := if n = 0 then 0 else Nat.log2 n + 1
theorem d0S : blen 0 = 0 := rfl
theorem d3c (n : Nat) : n < 2 ^ blen n := by
 unfold blen
 split
 ·rename_i h; subst h; decide
 ·exact Nat.lt_log2_self
theorem c5c {n : Nat} (h : n ≠ 0) : 2 ^ (blen n - 1) ≤ n := by
 unfold blen
 rw [if_neg h, Nat.add_sub_cancel]
 exact Nat.log2_self_le h
theorem e6j {n k : Nat} (h1 : n < 2 ^ k) (h2 : k = 0 ∨ 2 ^ (k - 1) ≤ n) : blen n = k := by
 by_cases h0 : n = 0
 ·subst h0
  rcases h2 with h2 | h2
  ·rw [h2]; rfl
  ·have := Nat.pow_pos (n := k - 1) (show 0 < 2 by decide); omega
 ·have a := d3c n
  have b := c5c h0
  have c : 0 < blen n := by unfold blen; rw [if_neg h0]; omega
  have d : blen n - 1 < k := (Nat.pow_lt_pow_iff_right (by decide)).1 (Nat.lt_of_le_of_lt b h1)
  have e : k - 1 < blen n := by
   rcases h2 with h2 | h2
   ·omega
   ·exact (Nat.pow_lt_pow_iff_right (by decide)).1 (Nat.lt_of_le_of_lt h2 a)
  omega
theorem d4q {h k r : Nat} (hh : h ≠ 0) (hr : r < 2 ^ k) : blen (r + 2 ^ k * h) = k + blen h := by
 have a := d3c h
 have b := c5c hh
 have c : 0 < blen h := by unfold blen; rw [if_neg hh]; omega
 refine e6j ?_ (.inr ?_)
 ·rw [Nat.pow_add]
  have : 2 ^ k * (h + 1) ≤ 2 ^ k * 2 ^ blen h := Nat.mul_le_mul_left _ a
  rw [Nat.mul_add] at this
  omega
 ·rw [show k + blen h - 1 = k + (blen h - 1) by omega, Nat.pow_add]
  have : 2 ^ k * 2 ^ (blen h - 1) ≤ 2 ^ k * h := Nat.mul_le_mul_left _ b
  omega
theorem d4p {n k : Nat} (h : 2 ^ k ≤ n) : blen n = k + blen (n / 2 ^ k) := by
 have hp : 0 < 2 ^ k := Nat.pow_pos (by decide)
 have h0 : n / 2 ^ k ≠ 0 := by
  have := Nat.div_pos h hp; omega
 have := d4q (r := n % 2 ^ k) h0 (Nat.mod_lt _ hp)
 rwa [Nat.mod_add_div] at this
theorem e3t (i : Nat) : LB ^ i = 2 ^ (32 * i) := by rw [Nat.pow_mul]
theorem d6D {l : List Nat} {d : Nat} (hl : Lim l) (hd : d ≠ 0) : blen (val (l ++ [d])) = 32 * l.length + blen d := by
 rw [a7C, e3t]
 exact d4q hd (by rw [← e3t]; exact a1Z hl)
theorem a3g {l : List Nat} (h : Lim l) : (limbs (val l)).length ≤ l.length := a0M (a1Z h)
structure Nt (l : List Nat) : Prop where
 lim : Lim l
 len : l.length ≤ 17592186044416
theorem Nt.limbs {l : List Nat} (h : Nt l) : Nt (limbs (val l)) := ⟨a0H _, Nat.le_trans (a3g h.lim) h.len⟩
theorem c7L (x : List Nat) (k d : Nat) : (x ++ List.replicate (k + 1) 0).set x.length d = (x ++ [d]) ++ List.replicate k 0 := by
 rw [List.set_append_right _ _ (Nat.le_refl _), Nat.sub_self, List.replicate_succ, List.set_cons_zero]; simp
theorem d3r {vd pa pb B c x y i : Nat} (h : vd + B * c = pa + pb) : (vd + B * ((c + x + y) % LB)) + (B * LB) * ((c + x + y) / LB) = (pa + B * x) + (pb + B * y) := by
 have e : (c + x + y) % LB + LB * ((c + x + y) / LB) = c + x + y := Nat.mod_add_div _ _
 have e2 : B * ((c + x + y) % LB) + (B * LB) * ((c + x + y) / LB) = B * (c + x + y) := by rw [Nat.mul_assoc, ← Nat.mul_add, e]
 have e3 : B * (c + x + y) = B * c + B * x + B * y := by rw [Nat.mul_add, Nat.mul_add]
 omega
theorem a3Q {x : List Nat} {d : Nat} (h : Lim x) (hd : d < LB) : Lim (x ++ [d]) := b8L.2 ⟨h, by intro e he; simp at he; omega⟩
theorem e3P {w : List Nat} {k d : Nat} (h : k < w.length) : val (w.set k d) + LB ^ k * w.getD k 0 = val w + LB ^ k * d := by
 induction w generalizing k with
 | nil => simp at h
 | cons e w ih =>
  cases k with
  | zero => simp only [List.set_cons_zero, val, Nat.pow_zero, Nat.one_mul, List.getD_cons_zero]; omega
  | succ k =>
   simp only [List.set_cons_succ, val, List.getD_cons_succ, Nat.pow_succ']
   have := ih (k := k) (by simpa using h)
   have e1 : LB * (val (w.set k d) + LB ^ k * w.getD k 0) = LB * (val w + LB ^ k * d) := by rw [this]
   rw [Nat.mul_add, Nat.mul_add, ← Nat.mul_assoc, ← Nat.mul_assoc] at e1
   omega
theorem e5b {w : List Nat} {k d : Nat} (h : Lim w) (hd : d < LB) : Lim (w.set k d) := by
 intro e he
 rcases List.mem_or_eq_of_mem_set he with h' | h'
 ·exact h e h'
 ·rw [h']; exact hd
theorem d8w {vx va vb B bo bo' d x y : Nat} (h : va + B * bo = vx + vb) (hd : x + LB * bo' = d + bo + y) : (va + B * x) + (B * LB) * bo' = (vx + B * d) + (vb + B * y) := by
 have e : B * (x + LB * bo') = B * (d + bo + y) := by rw [hd]
 rw [Nat.mul_add, Nat.mul_add, Nat.mul_add, ← Nat.mul_assoc] at e
 omega
theorem e1M {vw vx A B C c x y q vb vs t : Nat} (hC : C = A * B) (h : vw + C * c = vx + A * (x * vb)) (hs : vs + C * q = vw + C * (t % LB)) (ht : t = c + x * y + q) :
  vs + (C * LB) * (t / LB) = vx + A * (x * (vb + B * y)) := by
 have e : t % LB + LB * (t / LB) = t := Nat.mod_add_div _ _
 have e1 : C * (t % LB) + (C * LB) * (t / LB) = C * t := by rw [Nat.mul_assoc, ← Nat.mul_add, e]
 have e2 : C * t = C * c + C * (x * y) + C * q := by rw [ht, Nat.mul_add, Nat.mul_add]
 have e3 : A * (x * (vb + B * y)) = A * (x * vb) + C * (x * y) := by
  rw [hC, Nat.mul_add, Nat.mul_add, Nat.mul_assoc A B, Nat.mul_left_comm B x y]
 omega
theorem e1N {c x y q : Nat} (hc : c < LB) (hx : x < LB) (hy : y < LB) (hq : q < LB) : c + x * y + q < LB * LB := by
 have : x * y ≤ (LB - 1) * (LB - 1) := Nat.mul_le_mul (by omega) (by omega)
 have e : (LB - 1) * (LB - 1) + (LB - 1) + (LB - 1) < LB * LB := by decide
 omega
theorem d9a (a : List Nat) (n i : Nat) : (a.drop n).getD i 0 = a.getD (n + i) 0 := by simp [List.getD_eq_getElem?_getD, List.getElem?_drop]
theorem b0b (a : List Nat) (n : Nat) : val a = val (a.take n) + LB ^ n * val (a.drop n) := by
 rcases Nat.lt_or_ge a.length n with h | h
 ·rw [List.take_of_length_le (by omega), List.drop_of_length_le (by omega)]; simp [val]
 ·have := b0c (a.take n) (a.drop n)
  rwa [List.take_append_drop, List.length_take, Nat.min_eq_left h] at this
theorem a5w {a : List Nat} (h : Lim a) (n : Nat) : val (a.take n) < LB ^ n := by
 have h1 := a1Z (h.take n)
 have h2 : LB ^ (a.take n).length ≤ LB ^ n := Nat.pow_le_pow_right (by decide) (by rw [List.length_take]; omega)
 omega
theorem b7x {a : List Nat} {i : Nat} (h : a.length ≤ i) : a.getD i 0 = 0 := by rw [List.getD_eq_getElem?_getD, List.getElem?_eq_none h]; rfl
theorem b6x {l : List Nat} {i : Nat} (h : i < l.length) : l.take (i + 1) = l.take i ++ [l.getD i 0] := by
 rw [List.take_succ_eq_append_getElem h, List.getD_eq_getElem?_getD, List.getElem?_eq_getElem h, Option.getD_some]
end Go.Abs
set_option linter.defProp false
namespace Go.Abs
def u32s (l : List Nat) : List AV := l.map fun n : Nat => .int .u32 (n : Int)
def natV (l : List Nat) : AV := .sl 1 (u32s l)
theorem a0G (l : List Nat) : (u32s l).length = l.length := by simp [u32s]
theorem c2B (a b : List Nat) : u32s (a ++ b) = u32s a ++ u32s b := by simp [u32s]
theorem e0F : u32s [] = [] := rfl
theorem c9k (d : Nat) (l : List Nat) : u32s (d :: l) = .int .u32 (d : Int) :: u32s l := rfl
theorem b6t (l : List Nat) (n : Nat) : (u32s l).take n = u32s (l.take n) := by simp [u32s, List.map_take]
theorem c1A (l : List Nat) (i d : Nat) : (u32s l).set i (.int .u32 (d : Int)) = u32s (l.set i d) := by simp [u32s, List.map_set]
theorem b2E {l : List Nat} {i : Nat} (h : i < l.length) : (u32s l).getD i .top = .int .u32 (l.getD i 0 : Nat) := by
 simp [u32s, h]
theorem d6U (l : List Nat) : (u32s l).flatMap AV.cells = u32s l := by
 induction l with
 | nil => rfl
 | cons d l ih => rw [c9k, List.flatMap_cons, ih]; rfl
theorem e0E (n : Nat) : List.replicate n (AV.int .u32 0) = u32s (List.replicate n 0) := by simp [u32s]
theorem d6V {l : List Nat} {a : AV} (h : a ∈ u32s l) : Cl a := by
 obtain ⟨n, _, rfl⟩ := List.mem_map.1 h; exact .int _ _
theorem b6u {l : List Nat} {a : AV} (h : a ∈ (u32s l).flatMap AV.cells) : Cl a := by rw [d6U] at h; exact d6V h
theorem a1I (l : List Nat) : ∀ a ∈ (Blk.mk 1 (u32s l)).flat, Cl a := fun a h => b6u h
theorem a2R (l : List Nat) : Cl (natV l) := .sl 1 _ fun c h => b6u h
theorem d5U (l : List Nat) : (natV l).cells = [natV l] := rfl
theorem e1J (l : List Nat) : (natV l).fit = true := rfl
theorem c9O (id : Nat) (l : List Nat) : nref id (natV l) = true := a0J (a2R l)
theorem e1K (l : List Nat) : clb (natV l) = true := b4S (a2R l)
theorem e1I (id : Nat) (b : Blk) (l : List Nat) : frz id b (natV l) = natV l := b4P (a2R l)
theorem d8g (id : Nat) (b : Blk) (l : List Nat) : (u32s l).map (frz id b) = u32s l := by
 rw [List.map_congr_left (g := fun x => x) fun a h => b4P (d6V h)]; simp
theorem a9l (H : Heap) (l : List Nat) : lenV H (natV l) = some (.int .i64 l.length) := by simp [natV, c8g, a0G]
theorem c1J (H : Heap) (l : List Nat) : a0Z H 1 false (natV l) = some (u32s l) := a2b H 1 _
theorem a0T (H : Heap) (l : List Nat) (k : IntKind) (i : Nat) (h : i < l.length) : idxV H 1 (natV l) (.int k i) = some (.ro (.int .u32 (l.getD i 0 : Nat)) 0) := by
 rw [natV, d8Q _ _ _ _ _ (by omega) (by rw [a0G]; omega)]
 rw [Int.toNat_natCast, b2E h]
theorem e1G (H : Heap) (l : List Nat) (k : IntKind) (n : Nat) (h : n ≤ l.length) : slcV H 1 (natV l) none (some (.int k n)) none = some (natV (l.take n)) := by
 simp only [natV, slcV, a3T, Option.bind_some, a0G]
 rw [if_pos ⟨trivial, by omega, by omega, by omega⟩]
 simp [b6t]
theorem e7p (H L : Heap) (i off len : Nat) (oc : Option Nat) {b : Blk} (h : L[i]? = some (some b)) : lenV (hap H L) (.mu (lid H i) off len oc) = some (.int .i64 len) := by
 rw [c8h, a0Q, h]; simp
theorem c3T (H L : Heap) (wd i off len : Nat) (oc : Option Nat) (k : IntKind) (j : Nat) {b : Blk} (h : L[i]? = some (some b)) (hw : b.wd = wd) (hj : j < len) :
  idxV (hap H L) wd (.mu (lid H i) off len oc) (.int k j) = some (.loc (lid H i) (off + j) 0) := by
 rw [c8r _ _ _ _ _ _ _ _ (by omega) (by omega), a0Q, h]; simp [hw]
theorem b1t (H L : Heap) (i k : Nat) {b : Blk} (h : L[i]? = some (some b)) (hk : k < b.xs.length) : atV (hap H L) (.loc (lid H i) k 0) = some (b.xs.getD k .top).cells := by
 rw [b3U, a0Q, h]; simp [hk]
theorem a9d {n : Int} (h0 : 0 ≤ n) (h1 : n < 4294967296) : IntKind.wrap .u32 n = n := by
 simp [IntKind.wrap, IntKind.bits, IntKind.signed]; omega
theorem a1B {n : Int} (h0 : 0 ≤ n) (h1 : n < 18446744073709551616) : IntKind.wrap .u64 n = n := by
 simp [IntKind.wrap, IntKind.bits, IntKind.signed]; omega
theorem a0e {n : Int} (h0 : -9223372036854775808 ≤ n) (h1 : n < 9223372036854775808) : IntKind.wrap .i64 n = n := by
 simp [IntKind.wrap, IntKind.bits, IntKind.signed]; omega
theorem a2O (n : Nat) : IntKind.wrap .u32 (n : Int) = ((n % LB : Nat) : Int) := by
 simp [IntKind.wrap, IntKind.bits, IntKind.signed]
theorem a2l (n : Int) : IntKind.wrap .u64 n = n % 18446744073709551616 := by
 simp [IntKind.wrap, IntKind.bits, IntKind.signed]
theorem d3g (n0 : Nat) (env : Env) (H L : Heap) (l : List Nat) (h : l.length ≤ 17592186044416) :
  appV n0 1 4 false .nil (natV l) env (hap H L) = some (.mu (lid H L.length) 0 l.length none, env, hap H (L ++ [some ⟨1, u32s l⟩])) := by
 have := c8N n0 env H L 1 4 false (natV l) (u32s l) (c1J _ l) (by decide) (by rw [a0G]; omega) (by rw [a0G]; omega)
 rwa [a0G] at this
theorem d3f (n0 : Nat) (env : Env) (H L : Heap) (i len : Nat) (oc : Option Nat) (y : AV) (xs l : List Nat) (hH : a0z H) (hl : L[i]? = some (some ⟨1, u32s xs⟩)) (hlen : len = xs.length) (hn : n0 ≤ lid H i) (ha : e3g H L i)
  (hy : a0Z (hap H L) 1 false y = some (u32s l)) (hb : xs.length + l.length ≤ 35184372088832) (hoc : (oc.any fun c => decide (len + l.length ≤ c)) = false := by rfl) :
  appV n0 1 4 false (.mu (lid H i) 0 len oc) y env (hap H L) = some (.mu (lid H i) 0 (len + l.length) (a1f oc (len + l.length)), scrub (lid H i) env, hap H (L.set i (some ⟨1, u32s (xs ++ l)⟩))) := by
 have := b7P n0 env H L 1 4 false i len oc y (u32s xs) (u32s l) hH hl (by rw [a0G]; exact hlen) hn hy ha (fun a h => (b6u h).ref) (by rw [a0G]; omega) (by rw [a0G]; omega) (by rw [a0G]; exact hoc)
 rwa [a0G, ← c2B] at this
theorem b4h (H : Heap) (i : Nat) (l : List Nat) (oc : Option Nat) : frz (lid H i) ⟨1, u32s l⟩ (.mu (lid H i) 0 l.length oc) = natV l := by
 rw [c4J _ _ _ _ _ (by rw [a0G])]; rfl
def EN := And.intro @a9l (And.intro @b4h (And.intro @d8g (And.intro @c9O (And.intro @e1K (And.intro @d5U (And.intro @e1J (And.intro @e1I (And.intro @c1J @a0G))))))))
theorem e4O (H : Heap) (X : Blk) (len : Nat) (oc : Option Nat) : lenV (hap H [some X]) (.mu (lid H 0) 0 len oc) = some (.int .i64 len) := e7p H [some X] 0 0 len oc rfl
theorem b8l (H : Heap) (X : List AV) (wd len : Nat) (oc : Option Nat) (k : IntKind) (j : Nat) (h : j < len) : idxV (hap H [some ⟨wd, X⟩]) wd (.mu (lid H 0) 0 len oc) (.int k j) = some (.loc (lid H 0) j 0) := by
 rw [c3T H [some ⟨wd, X⟩] wd 0 0 len oc k j rfl rfl h, Nat.zero_add]
theorem e7k (H : Heap) (x : List Nat) (j : Nat) (h : j < x.length) : atV (hap H [some ⟨1, u32s x⟩]) (.loc (lid H 0) j 0) = some [.int .u32 (x.getD j 0 : Nat)] := by
 rw [b1t H [some ⟨1, u32s x⟩] 0 j rfl (by simpa [a0G] using h)]
 simp only [b2E h, AV.cells]
theorem c5P (H : Heap) (env : Env) (x : List Nat) (j d : Nat) (h : j < x.length) : a5f 1 (.loc (lid H 0) j 0) (.int .u32 (d : Int)) env (hap H [some ⟨1, u32s x⟩]) = some (.top, env, hap H [some ⟨1, u32s (x.set j d)⟩]) := by
 rw [a5x env H [some ⟨1, u32s x⟩] 1 0 j 0 _ rfl (by simpa [a0G] using h) rfl rfl (Nat.le_refl 1)]
 simp only [a4a, c1A, List.set_cons_zero]
theorem b4d (env : Env) (H L : Heap) (k k' : IntKind) (n : Nat) (h : n ≤ 35184372088832) : d2c 1 4 (.int .u32 0) (.int k n) (.int k' n) env (hap H L) = some (.mu (lid H L.length) 0 n (some n), env, hap H (L ++ [some ⟨1, u32s (List.replicate n 0)⟩])) := by
 rw [c3V env H L 1 4 _ k k' n n (by decide) (Nat.le_refl _) (by omega) (by omega), e0E]
theorem b6p (n : Int) : IntKind.wrap .u32 n = n % 4294967296 := by
 simp [IntKind.wrap, IntKind.bits, IntKind.signed]
theorem e6R (t : Nat) : Int.fdiv (t : Int) (2 ^ min (Int.toNat 32) IntKind.u64.bits) = ((t / LB : Nat) : Int) := by
 rw [show (2 : Int) ^ min (Int.toNat 32) IntKind.u64.bits = (LB : Int) by decide, Int.fdiv_eq_ediv_of_nonneg _ (by decide)]; rfl
theorem e4P (H : Heap) (hH : a0z H) (n0 : Nat) (hn : n0 ≤ lid H 0) (env : Env) (x : List Nat) (d : Nat) (hb : x.length < 35184372088832) :
  appV n0 1 4 false (.mu (lid H 0) 0 x.length none) (.sl 1 [.int .u32 (d : Int)]) env (hap H [some ⟨1, u32s x⟩]) = some (.mu (lid H 0) 0 (x.length + 1) none, scrub (lid H 0) env, hap H [some ⟨1, u32s (x ++ [d])⟩]) := by
 have := d3f n0 env H [some ⟨1, u32s x⟩] 0 x.length none (.sl 1 [.int .u32 (d : Int)]) x [d] hH rfl rfl hn (b4k fun b hb a ha => by
  simp at hb; subst hb; exact a1I x a ha) (a2b _ 1 _) (by simp; omega)
 simpa [a1f] using this
def E1 := And.intro EV (And.intro EVC EN)
end Go.Abs
namespace Go.Abs
def sgn (neg : Bool) (n : Nat) : Int := if neg then -(n : Int) else n
structure ZI where
 neg : Bool
 mag : List Nat
def ZI.av (x : ZI) : AV := .agg [.bool x.neg, natV x.mag]
def ZI.z (x : ZI) : Int := sgn x.neg (val x.mag)
def canZ (z : Int) : ZI := ⟨decide (z < 0), limbs z.natAbs⟩
def Z (z : Int) : AV := .agg [.bool (decide (z < 0)), natV (limbs z.natAbs)]
theorem e6d (z : Int) : (canZ z).av = Z z := rfl
theorem a5h (z : Int) : (canZ z).z = z := by
 unfold canZ ZI.z sgn
 simp only [a0q, decide_eq_true_eq]
 split <;> omega
theorem e6v (neg : Bool) (n : Nat) : .agg [.bool (neg && decide (0 < n)), natV (limbs n)] = Z (sgn neg n) := by
 unfold Z sgn
 cases neg
 ·simp <;> omega
 ·rcases Nat.eq_zero_or_pos n with h | h
  ·subst h; simp
  ·simp [h]
theorem c1E (neg : Bool) : sgn neg 0 = 0 := by cases neg <;> rfl
theorem b5g (neg : Bool) (n : Nat) : (sgn neg n).natAbs = n := by cases neg <;> simp [sgn]
theorem Z_cl (z : Int) : Cl (Z z) := .agg _ (by intro c hc; simp at hc; rcases hc with rfl | rfl; exact .bool _; exact a2R _)
theorem ZI.cl (x : ZI) : Cl x.av := .agg _ (by intro c hc; simp at hc; rcases hc with rfl | rfl; exact .bool _; exact a2R _)
theorem e3J : Z 0 = .agg [.bool false, natV []] := by unfold Z; simp [a0R]
theorem le_zero : Le (.agg [.bool false, .nil]) (Z 0) := by rw [e3J]; exact Le.agg2 (Le.refl _) (Le.nil 1 (by decide))
structure Zok (k : Nat) (x : ZI) : Prop where
 lim : Lim x.mag
 len : x.mag.length ≤ k
theorem Zok.mono {k m : Nat} {x : ZI} (h : Zok k x) (hk : k ≤ m) : Zok m x := ⟨h.lim, Nat.le_trans h.len hk⟩
theorem Zok.lt {k : Nat} {x : ZI} (h : Zok k x) : val x.mag < LB ^ k := by
 have h1 := a1Z h.lim
 have h2 : LB ^ x.mag.length ≤ LB ^ k := Nat.pow_le_pow_right (by decide) h.len
 omega
theorem Zok.abs {k : Nat} {x : ZI} (h : Zok k x) : x.z.natAbs < LB ^ k := by unfold ZI.z; rw [b5g]; exact h.lt
theorem a3m {k : Nat} {z : Int} (h : z.natAbs < LB ^ k) : Zok k (canZ z) := ⟨a0H _, a0M h⟩
section
variable (n0 : Nat) (env : Env) (H L : Heap)
def cpyV (wd : Nat) (x y : AV) (env : Env) (H : Heap) : Option (AV × Env × Heap) := (a0Z H wd false y).bind fun ys => match x with
   | .mu id off len _ => (hrow H id).bind fun r =>
     if r.wd = wd ∧ off + len ≤ r.xs.length then
      some (.int .i64 (min ys.length len : Nat), env, H.set id (some ⟨wd, r.xs.take off ++ ys.take (min ys.length len) ++ r.xs.drop (off + min ys.length len)⟩)) else none
   | _ => none
theorem e7J (wd : Nat) (a b : Src) : ev n0 (.cpy wd a b) env H = cpyV wd (a.ev env) (b.ev env) env H := by
 simp only [ev, cpyV]; cases a0Z H wd false (b.ev env) <;> simp only [Option.bind_none, Option.bind_some]; split <;> simp_all
theorem d4l (wd i len : Nat) (oc : Option Nat) (y : AV) (xs ys : List AV) (hl : L[i]? = some (some ⟨wd, xs⟩)) (hlen : len = xs.length) (hy : a0Z (hap H L) wd false y = some ys) (hle : len ≤ ys.length) :
  cpyV wd (.mu (lid H i) 0 len oc) y env (hap H L) = some (.int .i64 len, env, hap H (L.set i (some ⟨wd, ys.take len⟩))) := by
 subst hlen
 simp only [cpyV, hy, Option.bind_some, a0Q, hl, Option.join_some, a2Q]
 rw [if_pos ⟨trivial, by omega⟩]
 simp [Nat.min_eq_right hle]
end
def EI := @e7J
def E2 := And.intro @EV2 (And.intro @EI @E1)
end Go.Abs
namespace Go.Abs
theorem ZI.av_fit (x : ZI) : x.av.fit = true := rfl
theorem ZI.av_cells (x : ZI) : x.av.cells = [.bool x.neg, natV x.mag] := rfl
theorem ZI.av_nref (id : Nat) (x : ZI) : nref id x.av = true := a0J x.cl
theorem ZI.av_frz (id : Nat) (b : Blk) (x : ZI) : frz id b x.av = x.av := b4P x.cl
theorem e6w (z : Int) : (Z z).cells = [.bool (decide (z < 0)), natV (limbs z.natAbs)] := rfl
theorem e8w (z : Int) : (Z z).fit = true := rfl
theorem e7Z (id : Nat) (z : Int) : nref id (Z z) = true := a0J (Z_cl z)
theorem e8v (id : Nat) (b : Blk) (z : Int) : frz id b (Z z) = Z z := b4P (Z_cl z)
def vecV (v : List ZI) : AV := .sl 2 (v.map ZI.av)
def matV (b : List (List ZI)) : AV := .sl 1 (b.map vecV)
theorem a5T {a : AV} (h : Cl a) : ∀ c ∈ a.cells, Cl c := by
 intro c hc
 cases a with
 | agg cs => cases h with | agg _ h => exact h c hc
 | mo l => cases h
 | io i n s => cases h
 | ms bs ks vs n => cases h
 | _ => simp [AV.cells] at hc; subst hc; exact h
theorem e6a {α : Type} (wd : Nat) (f : α → AV) (l : List α) (h : ∀ x, Cl (f x)) : Cl (.sl wd (l.map f)) := by
 refine .sl wd _ fun c hc => ?_
 obtain ⟨x, hx, hc⟩ := List.mem_flatMap.1 hc
 obtain ⟨y, _, rfl⟩ := List.mem_map.1 hx
 exact a5T (h y) c hc
theorem a0x (v : List ZI) : Cl (vecV v) := e6a 2 _ v ZI.cl
theorem a9V (b : List (List ZI)) : Cl (matV b) := e6a 1 _ b a0x
theorem b7W (v : List ZI) : (vecV v).cells = [vecV v] := rfl
theorem e0z (v : List ZI) : (vecV v).fit = true := rfl
theorem c9i (id : Nat) (v : List ZI) : nref id (vecV v) = true := a0J (a0x v)
theorem e0A (v : List ZI) : clb (vecV v) = true := b4S (a0x v)
theorem e0y (id : Nat) (b : Blk) (v : List ZI) : frz id b (vecV v) = vecV v := b4P (a0x v)
theorem d6i (v : List (List ZI)) : (matV v).cells = [matV v] := rfl
theorem e1Q (v : List (List ZI)) : (matV v).fit = true := rfl
theorem b3B (id : Nat) (v : List (List ZI)) : nref id (matV v) = true := a0J (a9V v)
theorem e1R (v : List (List ZI)) : clb (matV v) = true := b4S (a9V v)
theorem e1P (id : Nat) (b : Blk) (v : List (List ZI)) : frz id b (matV v) = matV v := b4P (a9V v)
section
variable (H : Heap)
theorem e3m {α : Type} (wd : Nat) (f : α → AV) (l : List α) : lenV H (.sl wd (l.map f)) = some (.int .i64 l.length) := by rw [c8g, List.length_map]
theorem d3x {α : Type} (wd : Nat) (f : α → AV) (l : List α) (k : IntKind) (i : Nat) (h : i < l.length) : idxV H wd (.sl wd (l.map f)) (.int k i) = some (.ro (f l[i]) 0) := by
 rw [d8Q _ _ _ _ _ (by omega) (by rw [List.length_map]; omega)]
 simp [h]
theorem e3O (v : List ZI) : lenV H (vecV v) = some (.int .i64 v.length) := e3m H 2 _ v
theorem b2D (v : List ZI) (k : IntKind) (i : Nat) (h : i < v.length) : idxV H 2 (vecV v) (.int k i) = some (.ro v[i].av 0) := d3x H 2 _ v k i h
theorem b5G (v : List (List ZI)) : lenV H (matV v) = some (.int .i64 v.length) := e3m H 1 _ v
theorem a9U (v : List (List ZI)) (k : IntKind) (i : Nat) (h : i < v.length) : idxV H 1 (matV v) (.int k i) = some (.ro (vecV v[i]) 0) := d3x H 1 _ v k i h
theorem a4E {α : Type} (wd : Nat) (f : α → AV) (l : List α) (h : ∀ x, Cl (f x)) : ∀ a ∈ (Blk.mk wd (l.map f)).flat, Cl a := by
 intro a ha
 obtain ⟨x, hx, hc⟩ := List.mem_flatMap.1 ha
 obtain ⟨y, _, rfl⟩ := List.mem_map.1 hx
 exact a5T (h y) a hc
theorem d9f {α : Type} (id : Nat) (b : Blk) (f : α → AV) (l : List α) (h : ∀ x, Cl (f x)) : (l.map f).map (frz id b) = l.map f := by
 rw [List.map_map]
 exact List.map_congr_left fun x _ => b4P (h x)
theorem d6q {α : Type} (i : Nat) (wd : Nat) (f : α → AV) (l : List α) (oc : Option Nat) : frz (lid H i) ⟨wd, l.map f⟩ (.mu (lid H i) 0 l.length oc) = .sl wd (l.map f) := by
 rw [c4J _ _ _ _ _ (by rw [List.length_map])]
end
structure Vok (k : Nat) (v : List ZI) : Prop where
 len : v.length ≤ 2097152
 el : ∀ x ∈ v, Zok k x
structure Mok (k : Nat) (b : List (List ZI)) : Prop where
 len : b.length ≤ 2097152
 el : ∀ v ∈ b, Vok k v
theorem Vok.mono {k m : Nat} {v : List ZI} (h : Vok k v) (hk : k ≤ m) : Vok m v := ⟨h.len, fun x hx => (h.el x hx).mono hk⟩
theorem Mok.mono {k m : Nat} {b : List (List ZI)} (h : Mok k b) (hk : k ≤ m) : Mok m b := ⟨h.len, fun x hx => (h.el x hx).mono hk⟩
theorem Vok.get {k : Nat} {v : List ZI} (h : Vok k v) {i : Nat} (hi : i < v.length) : Zok k v[i] := h.el _ (List.getElem_mem hi)
theorem Mok.get {k : Nat} {v : List (List ZI)} (h : Mok k v) {i : Nat} (hi : i < v.length) : Vok k v[i] := h.el _ (List.getElem_mem hi)
theorem c9e : (0 < 2) = True := by decide
def EM := And.intro c9e <| And.intro @e3O (And.intro @b5G (And.intro @b7W (And.intro @e0z (And.intro @c9i (And.intro @e0A (And.intro @e0y (And.intro @d6i (And.intro @e1Q (And.intro @b3B (And.intro @e1R (And.intro @e1P
 (And.intro @ZI.av_fit (And.intro @ZI.av_cells (And.intro @ZI.av_nref (And.intro @ZI.av_frz (And.intro @e6w (And.intro @e8w (And.intro @e7Z @e8v))))))))))))))))))
def zs (v : List ZI) : List Int := v.map ZI.z
def E3 := And.intro EM @E2
end Go.Abs
namespace Go.Abs
theorem a0o (l : List Nat) (hl : Lim l) (hb : l.length ≤ 17592186044416) : a0f Pr a0t [natV l] (natV (limbs (val l))) := by
 refine a0f.intro c2Z c2X (by simp only [List.length_cons, List.length_nil]; omega) (a2R _) fun H hH => ?_
 refine Safe.seq (Safe.region ?_)
 simp only [b5o, E1, seval]
 refine Safe.seq (Safe.block (Safe.loop ?_))
 refine Safe.keep [0] ?_
 simp only [E1, seval]
 generalize hv : val l = v
 have stop : ∀ (l : List Nat) (ts : Env), Lim l → val l = v → (l.getLast?).getD 1 ≠ 0 → look ts 0 = natV l → Safe ⟨Pr, fun _ _ => false, a0t, 21, [.tmp 2], H.length⟩ [.code ((ACode.region a5M false).seq ACode.ret)] ts (hap H []) fun r' H' => r' = natV (limbs v) ∧ ∃ L, H' = hap H L := by
  intro l ts hl hv hn h0
  refine Safe.seq (Safe.region ?_)
  simp only [a5M, E1, seval, h0]
  refine Safe.retn ?_
  simp only [E1, seval]
  rw [← hv, b0l hl hn]
  exact ⟨rfl, [], rfl⟩
 induction hn : l.length using Nat.strongRecOn generalizing l with
 | _ n ih =>
 refine Safe.inLoop (Safe.seq (Safe.seq (Safe.region ?_)))
 rcases List.eq_nil_or_concat l with rfl | ⟨l', d, rfl⟩
 ·simp only [a8v, E1, seval, a9l, Int.natCast_zero, Int.lt_irrefl]
  refine Safe.cond ?_
  simp only [E1, seval]
  refine Safe.exit rfl ?_
  exact stop [] _ hl hv (by simp) (by simp only [E1, seval])
 ·simp only [List.concat_eq_append] at *
  have hlen : (l' ++ [d]).length = l'.length + 1 := by simp
  have h0 : (0 : Int) < ((l' ++ [d]).length : Int) := by omega
  have hw : IntKind.i64.wrap (((l' ++ [d]).length : Int) - 1) = (l'.length : Int) := by rw [hlen, a0e] <;> omega
  have hg : (l' ++ [d]).getD l'.length 0 = d := by simp
  simp only [a8v, E1, seval, a9l, h0, hw, a0T _ (l' ++ [d]) _ l'.length (by omega), hg]
  refine Safe.cond ?_
  simp only [E1, seval]
  by_cases hd : d = 0
  ·subst hd
   simp only [Int.natCast_zero, E1, seval]
   refine Safe.skip (Safe.block (Safe.region ?_))
   simp only [b5n, E1, seval, a9l, hw, e1G _ (l' ++ [0]) _ l'.length (by omega)]
   refine Safe.inBlock (Safe.keep [0] ?_)
   simp only [E1, seval, List.take_left']
   exact ih l'.length (by omega) l' (b8L.1 hl).1 (by omega) (by rw [← hv, d6O]) rfl
  ·have : ¬ ((d : Int) = 0) := by omega
   simp only [this, E1, seval]
   refine Safe.exit rfl ?_
   exact stop (l' ++ [d]) _ hl hv (by simpa using hd) (by simp only [E1, seval])
theorem b6O (l : List Nat) (hl : Nt l) : a0f Pr b4l [natV l] (natV (limbs (val l))) := by
 refine a0f.intro d1Y d1X (by simp only [List.length_cons, List.length_nil]; omega) (a2R _) fun H hH => ?_
 refine Safe.seq (Safe.region ?_)
 simp only [c3w, E1, seval]
 refine Safe.seq (Safe.region ?_)
 simp only [c3v, E1, seval]
 refine (a0o l hl.lim hl.len).acall ?_
 simp only [E1, seval, d3g _ _ H [] _ hl.limbs.len]
 refine Safe.freeze 0 (b := ⟨1, u32s (limbs (val l))⟩) hH rfl rfl (a1I _) ?_
 refine Safe.retn ?_
 simp only [E1, seval]
 first | exact ⟨rfl, _, rfl⟩ | exact ⟨_, rfl⟩ | exact ⟨trivial, _, rfl⟩
def cmpI (a b : Nat) : Int := if a < b then -1 else if b < a then 1 else 0
theorem b7X {a b : Nat} (h : (limbs a).length < (limbs b).length) : a < b := by
 have h1 : limbs b ≠ [] := by intro h0; rw [h0] at h; simp at h
 have := d0f h1
 have h2 := a1Z (a0H a)
 rw [a0q] at h2
 have h3 : LB ^ (limbs a).length ≤ LB ^ ((limbs b).length - 1) := Nat.pow_le_pow_right (by decide) (by omega)
 omega
theorem b5m (a b : List Nat) (ha : Nt a) (hb : Nt b) : a0f Pr b0N [natV a, natV b] (.int .i64 (cmpI (val a) (val b))) := by
 refine a0f.intro d5Q d5P (by simp only [List.length_cons, List.length_nil]; omega) (.int _ _) fun H hH => ?_
 refine Safe.seq (Safe.region ?_)
 simp only [c6K, E1, seval]
 refine Safe.seq (Safe.region ?_)
 simp only [c6J, E1, seval]
 refine (a0o a ha.lim ha.len).acall ?_
 try simp only [E1, seval]
 refine (a0o b hb.lim hb.len).acall ?_
 try simp only [E1, seval]
 have na := ha.limbs
 have nb := hb.limbs
 have va := a0q (val a)
 have vb := a0q (val b)
 generalize hA : limbs (val a) = A at na va ⊢
 generalize hB : limbs (val b) = B at nb vb ⊢
 refine Safe.keep [0, 1] (Safe.seq (Safe.seq (Safe.region ?_)))
 simp only [c6I, E1, seval, a9l]
 refine Safe.cond ?_
 simp only [E1, seval]
 by_cases hlen : A.length = B.length
 ·have : ((A.length : Int) = B.length) := by omega
  simp only [this, E1, seval]
  refine Safe.skip (Safe.seq (Safe.seq (Safe.region ?_)))
  simp only [c6E, E1, seval, a9l]
  refine Safe.block (Safe.loop ?_)
  have key : ∀ n, n ≤ A.length → A.drop n = B.drop n → Safe ⟨Pr, fun _ _ => false, b0N, 45, [.tmp 4], H.length⟩ [.inLoop c6L, .inBlock 0, .code ((ACode.region b5C false).seq .ret)]
    [(0, natV A), (1, natV B), (5, .int .i64 ((n : Int) - 1))] (hap H []) fun r' H' => r' = .int .i64 (cmpI (val a) (val b)) ∧ ∃ L, H' = hap H L := by
   intro n
   induction n with
   | zero =>
    intro _ hd
    refine Safe.inLoop (Safe.seq (Safe.seq (Safe.region ?_)))
    simp only [b8w, E1, seval]
    refine Safe.cond ?_
    simp only [E1, seval, show ¬ ((0 : Int) ≤ ((0 : Nat) : Int) - 1) by omega]
    refine Safe.exit rfl (Safe.seq (Safe.region ?_))
    simp only [b5C, E1, seval]
    refine Safe.retn ?_
    simp only [E1, seval]
    have : val a = val b := by
     simp only [List.drop_zero] at hd
     rw [← va, ← vb, hd]
    refine ⟨?_, [], rfl⟩
    simp [cmpI, this]
   | succ m ih =>
    intro hm hd
    refine Safe.inLoop (Safe.seq (Safe.seq (Safe.region ?_)))
    simp only [b8w, E1, seval]
    refine Safe.cond ?_
    have e1 : ((m + 1 : Nat) : Int) - 1 = (m : Int) := by omega
    simp only [E1, seval, e1, Int.natCast_nonneg]
    refine Safe.skip (Safe.seq (Safe.block (Safe.seq (Safe.regionD ?_))))
    simp only [c6D, E1, seval, a0T _ A _ m (by omega), a0T _ B _ m (by omega)]
    refine Safe.cond ?_
    simp only [E1, seval]
    by_cases hq : A.getD m 0 = B.getD m 0
    ·simp only [hq, E1, seval]
     refine Safe.skip (Safe.inBlock (Safe.region ?_))
     simp only [c3K, E1, seval]
     refine Safe.keep [0, 1, 5] ?_
     have := na.len
     simp only [E1, seval, a0e (n := (m : Int) - 1) (by omega) (by omega)]
     refine ih (by omega) ?_
     rw [List.drop_eq_getElem_cons (by omega), List.drop_eq_getElem_cons (l := B) (by omega), hd]
     simp only [List.getD_eq_getElem?_getD, List.getElem?_eq_getElem (show m < A.length by omega), List.getElem?_eq_getElem (show m < B.length by omega), Option.getD_some] at hq
     rw [hq]
    ·have hq' : ¬ ((A.getD m 0 : Nat) : Int) = ((B.getD m 0 : Nat) : Int) := by omega
     simp only [hq', E1, seval]
     refine Safe.seq (Safe.seq (Safe.regionD ?_))
     simp only [c6C, E1, seval, a0T _ A _ m (by omega), a0T _ B _ m (by omega)]
     refine Safe.cond ?_
     simp only [E1, seval]
     by_cases hlt : A.getD m 0 < B.getD m 0
     ·have hlt' : ((A.getD m 0 : Nat) : Int) < ((B.getD m 0 : Nat) : Int) := by omega
      simp only [hlt', E1, seval]
      refine Safe.seq (Safe.region ?_)
      simp only [c3M, E1, seval]
      refine Safe.retn ?_
      simp only [E1, seval]
      have := b6s na.lim nb.lim hd (by omega) (by omega) hlen hlt
      refine ⟨?_, [], rfl⟩
      rw [← va, ← vb]; simp [cmpI, this]
     ·have hlt' : ¬ ((A.getD m 0 : Nat) : Int) < ((B.getD m 0 : Nat) : Int) := by omega
      simp only [hlt', E1, seval]
      refine Safe.skip (Safe.seq (Safe.region ?_))
      simp only [c3L, E1, seval]
      refine Safe.retn ?_
      simp only [E1, seval]
      have := b6s nb.lim na.lim hd.symm (by omega) (by omega) hlen.symm (show B.getD m 0 < A.getD m 0 by omega)
      refine ⟨?_, [], rfl⟩
      rw [← va, ← vb]; simp [cmpI, this, Nat.lt_asymm this]
  refine Safe.keep [0, 1, 5] ?_
  have := na.len
  have hk := key A.length (Nat.le_refl _) (by rw [List.drop_length, hlen, List.drop_length])
  simp only [E1, seval, ← hlen, a0e (n := (A.length : Int) - 1) (by omega) (by omega)]
  exact hk
 ·have : ¬ ((A.length : Int) = B.length) := by omega
  simp only [this, E1, seval]
  refine Safe.seq (Safe.seq (Safe.region ?_))
  simp only [c6H, E1, seval, a9l]
  refine Safe.cond ?_
  simp only [E1, seval]
  by_cases hlt : A.length < B.length
  ·have hlt' : ((A.length : Int) < B.length) := by omega
   simp only [hlt', E1, seval]
   refine Safe.seq (Safe.region ?_)
   simp only [c6G, E1, seval]
   refine Safe.retn ?_
   simp only [E1, seval]
   have : val a < val b := b7X (by rw [hA, hB]; exact hlt)
   refine ⟨?_, [], rfl⟩
   simp [cmpI, this]
  ·have hlt' : ¬ ((A.length : Int) < B.length) := by omega
   simp only [hlt', E1, seval]
   refine Safe.skip (Safe.seq (Safe.region ?_))
   simp only [c6F, E1, seval]
   refine Safe.retn ?_
   simp only [E1, seval]
   have : val b < val a := b7X (by rw [hA, hB]; omega)
   refine ⟨?_, [], rfl⟩
   simp [cmpI, this, Nat.lt_asymm this]
theorem b4g (n : Nat) (h : n < 4294967296) : a0f Pr a1p [.int .u32 n] (.int .i64 (blen n)) := by
 refine a0f.intro b7h b7g (by simp only [List.length_cons, List.length_nil]; omega) (.int _ _) fun H hH => ?_
 refine Safe.seq (Safe.region ?_)
 simp only [a9t, E1, Nat.reduceAdd, Nat.reduceEqDiff, reduceCtorEq, ↓reduceIte]
 have stop : ∀ (m s : Nat) (env : Env), m < 256 → s ≤ 24 → look env 0 = .int .u32 m → look env 2 = .int .i64 s → s + blen m = blen n → Safe ⟨Pr, fun _ _ => false, a1p, 19, [.tmp 2], H.length⟩ [.code ((ACode.region a2L false).seq .ret)] env (hap H [])
   fun r' H' => r' = .int .i64 (blen n) ∧ ∃ L, H' = hap H L := by
  intro m s env hm hs h0 h2 hb
  refine Safe.seq (Safe.region ?_)
  have hw : IntKind.wrap .u8 (m : Int) = m := by simp [IntKind.wrap, IntKind.bits, IntKind.signed]; omega
  simp only [a2L, E1, Nat.reduceAdd, Nat.reduceEqDiff, reduceCtorEq, ↓reduceIte, h0, h2, hw, d4t]
  have tab : ∀ m : Fin 256, c9n.data.toList.getD m.val 0 = UInt8.ofNat (blen m.val) ∧ blen m.val ≤ 8 := by decide +kernel
  have ht : c9n.data.toList.getD m 0 = UInt8.ofNat (blen m) ∧ blen m ≤ 8 := tab ⟨m, hm⟩
  have hsz : c9n.size = 256 := by decide +kernel
  rw [if_pos (by rw [hsz]; omega)]
  simp only [Int.toNat_natCast, ht.1, E1, Nat.reduceAdd, Nat.reduceEqDiff, reduceCtorEq, ↓reduceIte]
  have h8 : ((UInt8.ofNat (blen m)).toNat : Nat) = blen m := by
   have := ht.2
   simp [UInt8.toNat_ofNat']; omega
  refine Safe.retn ?_
  have := ht.2
  simp only [E1, Nat.reduceAdd, Nat.reduceEqDiff, reduceCtorEq, ↓reduceIte, h8, a0e (n := (blen m : Int)) (by omega) (by omega)]
  rw [a0e (by omega) (by omega)]
  exact ⟨by rw [← hb]; rfl, [], rfl⟩
 have mid : ∀ (m s : Nat) (env : Env), m < 65536 → s ≤ 16 → look env 0 = .int .u32 m → look env 2 = .int .i64 s → s + blen m = blen n → Safe ⟨Pr, fun _ _ => false, a1p, 19, [.tmp 2], H.length⟩
   [.code ((((ACode.region a4f false).seq (.cond (.t 8) ((ACode.region a4e false).seq (.region a4d false)) .skip)).seq ((ACode.region a2L false).seq .ret)))] env (hap H [])
   fun r' H' => r' = .int .i64 (blen n) ∧ ∃ L, H' = hap H L := by
  intro m s env hm hs h0 h2 hb
  refine Safe.seq (Safe.seq (Safe.region ?_))
  simp only [a4f, E1, Nat.reduceAdd, Nat.reduceEqDiff, reduceCtorEq, ↓reduceIte, h0]
  refine Safe.cond ?_
  simp only [E1, Nat.reduceAdd, Nat.reduceEqDiff, reduceCtorEq, ↓reduceIte]
  by_cases hc : 256 ≤ m
  ·have hc' : (256 : Int) ≤ (m : Int) := by omega
   simp only [hc', E1, Nat.reduceAdd, Nat.reduceEqDiff, reduceCtorEq, ↓reduceIte]
   refine Safe.seq (Safe.region ?_)
   simp only [a4e, E1, Nat.reduceAdd, Nat.reduceEqDiff, reduceCtorEq, ↓reduceIte, h0, a6h _ _ _ (show (0 : Int) ≤ 8 by decide)]
   refine Safe.region ?_
   simp only [a4d, E1, Nat.reduceAdd, Nat.reduceEqDiff, reduceCtorEq, ↓reduceIte, h2]
   have e1 : Int.fdiv (m : Int) (2 ^ min (Int.toNat 8) IntKind.u32.bits) = ((m / 256 : Nat) : Int) := by
    rw [show (2 : Int) ^ min (Int.toNat 8) IntKind.u32.bits = 256 by decide, Int.fdiv_eq_ediv_of_nonneg _ (by decide)]; omega
   have e2 : IntKind.wrap .i64 ((s : Int) + 8) = ((s + 8 : Nat) : Int) := by rw [a0e] <;> omega
   refine stop (m / 256) (s + 8) _ (by omega) (by omega) (by simp only [E1, Nat.reduceAdd, Nat.reduceEqDiff, reduceCtorEq, ↓reduceIte, e1]) (by simp only [E1, Nat.reduceAdd, Nat.reduceEqDiff, reduceCtorEq, ↓reduceIte, e2]) ?_
   have := d4p (n := m) (k := 8) (by omega)
   simp only [Nat.reducePow] at this
   omega
  ·have hc' : ¬ (256 : Int) ≤ (m : Int) := by omega
   simp only [hc', E1, Nat.reduceAdd, Nat.reduceEqDiff, reduceCtorEq, ↓reduceIte]
   exact Safe.skip (stop m s _ (by omega) (by omega) (by simp only [E1, Nat.reduceAdd, Nat.reduceEqDiff, reduceCtorEq, ↓reduceIte, h0]) (by simp only [E1, Nat.reduceAdd, Nat.reduceEqDiff, reduceCtorEq, ↓reduceIte, h2]) hb)
 refine Safe.seq (Safe.seq (Safe.region ?_))
 simp only [a9s, E1, Nat.reduceAdd, Nat.reduceEqDiff, reduceCtorEq, ↓reduceIte]
 refine Safe.cond ?_
 simp only [E1, Nat.reduceAdd, Nat.reduceEqDiff, reduceCtorEq, ↓reduceIte]
 by_cases hc : 65536 ≤ n
 ·have hc' : (65536 : Int) ≤ (n : Int) := by omega
  simp only [hc', E1, Nat.reduceAdd, Nat.reduceEqDiff, reduceCtorEq, ↓reduceIte]
  refine Safe.seq (Safe.region ?_)
  simp only [a9r, E1, Nat.reduceAdd, Nat.reduceEqDiff, reduceCtorEq, ↓reduceIte, a6h _ _ _ (show (0 : Int) ≤ 16 by decide)]
  refine Safe.region ?_
  simp only [a9q, E1, Nat.reduceAdd, Nat.reduceEqDiff, reduceCtorEq, ↓reduceIte]
  have e1 : Int.fdiv (n : Int) (2 ^ min (Int.toNat 16) IntKind.u32.bits) = ((n / 65536 : Nat) : Int) := by
   rw [show (2 : Int) ^ min (Int.toNat 16) IntKind.u32.bits = 65536 by decide, Int.fdiv_eq_ediv_of_nonneg _ (by decide)]; omega
  refine mid (n / 65536) 16 _ (by omega) (by omega) (by simp only [E1, Nat.reduceAdd, Nat.reduceEqDiff, reduceCtorEq, ↓reduceIte, e1]) (by simp only [E1, Nat.reduceAdd, Nat.reduceEqDiff, reduceCtorEq, ↓reduceIte]; rfl) ?_
  have := d4p (n := n) (k := 16) (by omega)
  simp only [Nat.reducePow] at this
  omega
 ·have hc' : ¬ (65536 : Int) ≤ (n : Int) := by omega
  simp only [hc', E1, Nat.reduceAdd, Nat.reduceEqDiff, reduceCtorEq, ↓reduceIte]
  exact Safe.skip (mid n 0 _ (by omega) (by omega) (by simp only [E1, Nat.reduceAdd, Nat.reduceEqDiff, reduceCtorEq, ↓reduceIte]) (by simp only [E1, Nat.reduceAdd, Nat.reduceEqDiff, reduceCtorEq, ↓reduceIte]; rfl) (by omega))
theorem b9X (l : List Nat) (hl : Nt l) : a0f Pr b4m [natV l] (.int .i64 (blen (val l))) := by
 refine a0f.intro d2a d1Z (by simp only [List.length_cons, List.length_nil]; omega) (.int _ _) fun H hH => ?_
 refine Safe.seq (Safe.region ?_)
 simp only [c3R, E1, seval]
 refine Safe.seq (Safe.region ?_)
 simp only [c3Q, E1, seval]
 refine (a0o l hl.lim hl.len).acall ?_
 try simp only [E1, seval]
 have nl := hl.limbs
 have vl := a0q (val l)
 have hlast := b4f (val l)
 generalize hA : limbs (val l) = A at nl vl hlast ⊢
 refine Safe.keep [0] (Safe.seq (Safe.seq (Safe.region ?_)))
 simp only [c3P, E1, seval]
 refine Safe.cond ?_
 simp only [E1, seval]
 rcases List.eq_nil_or_concat A with rfl | ⟨A', d, rfl⟩
 ·simp only [E1, seval, Int.natCast_zero]
  refine Safe.seq (Safe.region ?_)
  simp only [c3O, E1, seval]
  refine Safe.retn ?_
  simp only [E1, seval]
  rw [← vl]
  exact ⟨rfl, [], rfl⟩
 ·simp only [List.concat_eq_append] at *
  have hlen : (A' ++ [d]).length = A'.length + 1 := by simp
  have hn0 : ¬ (((A' ++ [d]).length : Int) = 0) := by omega
  have hg : (A' ++ [d]).getD A'.length 0 = d := by simp
  have hd : d ≠ 0 := by simpa using hlast
  have hlt : d < 4294967296 := nl.lim d (by simp)
  have := nl.len
  have hw : IntKind.i64.wrap (((A' ++ [d]).length : Int) - 1) = (A'.length : Int) := by rw [hlen, a0e] <;> omega
  simp only [hn0, E1, seval]
  refine Safe.skip (Safe.seq (Safe.region ?_))
  simp only [c3N, E1, seval, hw, a0T _ (A' ++ [d]) _ A'.length (by omega), hg]
  refine (b4g d hlt).acall ?_
  simp only [E1, seval]
  refine Safe.retn ?_
  simp only [E1, seval]
  have hb : blen d ≤ 32 := by
   rcases Nat.lt_or_ge 32 (blen d) with h | h
   ·have := c5c hd
    have := Nat.pow_le_pow_right (show 0 < 2 by decide) (show 32 ≤ blen d - 1 by omega)
    omega
   ·exact h
  rw [a0e (n := 32 * (A'.length : Int)) (by omega) (by omega), a0e (by omega) (by omega)]
  refine ⟨?_, [], rfl⟩
  rw [← vl, d6D (b8L.1 nl.lim).1 hd]
  congr 1
theorem c2W (a b : List Nat) (la : Lim a) (lb : Lim b) (ha : a.length < 17592186044416) (hb : b.length < 17592186044416) : a0f Pr a8O [natV a, natV b] (natV (limbs (val a + val b))) := by
 refine a0f.intro d5T d5S (by simp only [List.length_cons, List.length_nil]; omega) (a2R _) fun H hH => ?_
 refine Safe.seq (Safe.region ?_)
 have hLB : LB = 4294967296 := rfl
 simp only [c6R, E1, Nat.reduceAdd, Nat.reduceEqDiff, reduceCtorEq, ↓reduceIte]
 have main : ∀ (a b : List Nat) (env : Env) (s : Nat), Lim a → Lim b → b.length ≤ a.length → a.length < 17592186044416 → val a + val b = s → look env 0 = natV a → look env 1 = natV b →
   Safe ⟨Pr, fun _ _ => false, a8O, 58, [.tmp 4], H.length⟩ [.code ((ACode.region b8A false).seq ((ACode.region b8z false).seq (((ACode.region b8y false).seq (.block 0 (.loop b4b))).seq ((ACode.region a8y false).seq ((ACode.region a8x false).seq .ret)))))]
    env (hap H []) fun r' H' => r' = natV (limbs s) ∧ ∃ L, H' = hap H L := by
  intro a b env s la lb hle ha hs h0 h1
  refine Safe.seq (Safe.region ?_)
  have hw : IntKind.wrap .i64 ((a.length : Int) + 1) = ((a.length + 1 : Nat) : Int) := by rw [a0e] <;> omega
  simp only [b8A, E1, Nat.reduceAdd, Nat.reduceEqDiff, reduceCtorEq, ↓reduceIte, h0, hw, b4d _ H [] _ _ (a.length + 1) (by omega)]
  refine Safe.seq (Safe.region ?_)
  simp only [b8z, E1, Nat.reduceAdd, Nat.reduceEqDiff, reduceCtorEq, ↓reduceIte]
  refine Safe.seq (Safe.seq (Safe.region ?_))
  simp only [b8y, E1, Nat.reduceAdd, Nat.reduceEqDiff, reduceCtorEq, ↓reduceIte, h0]
  refine Safe.block (Safe.loop ?_)
  have key : ∀ (k i c : Nat) (x : List Nat), i + k = a.length → x.length = i → Lim x → c ≤ 1 → val x + LB ^ i * c = val (a.take i) + val (b.take i) →
    Safe ⟨Pr, fun _ _ => false, a8O, 58, [.tmp 4], H.length⟩ [.inLoop b4b, .inBlock 0, .code ((ACode.region a8y false).seq ((ACode.region a8x false).seq .ret))]
     [(0, natV a), (1, natV b), (5, .mu (lid H 0) 0 (a.length + 1) (some (a.length + 1))), (6, .int .u64 c), (20, .int .i64 a.length), (21, .int .i64 i)]
     (hap H [some ⟨1, u32s (x ++ List.replicate (k + 1) 0)⟩]) fun r' H' => r' = natV (limbs s) ∧ ∃ L, H' = hap H L := by
   intro k
   induction k with
   | zero =>
    intro i c x hik hx lx hc hv
    have hi : i = a.length := by omega
    subst hi
    refine Safe.inLoop (Safe.seq (Safe.region ?_))
    simp only [b8x, E1, Nat.reduceAdd, Nat.reduceEqDiff, reduceCtorEq, ↓reduceIte]
    refine Safe.seq (Safe.cond ?_)
    simp only [E1, Nat.reduceAdd, Nat.reduceEqDiff, reduceCtorEq, ↓reduceIte, Int.lt_irrefl]
    refine Safe.exit rfl (Safe.seq (Safe.region ?_))
    have hcw : IntKind.wrap .u32 (c : Int) = (c : Int) := a9d (by omega) (by omega)
    simp only [a8y, E1, Nat.reduceAdd, Nat.reduceEqDiff, reduceCtorEq, ↓reduceIte, b8l _ _ _ _ _ _ a.length (Nat.lt_succ_self _), hcw, c5P _ _ _ a.length c (show a.length < (x ++ List.replicate (0 + 1) 0).length by simp [hx])]
    rw [← hx, c7L, hx]
    simp only [List.replicate_zero, List.append_nil]
    have hlen : a.length + 1 = (x ++ [c]).length := by simp [hx]
    refine Safe.freeze 0 (b := ⟨1, u32s (x ++ [c])⟩) hH rfl rfl (a1I _) ?_
    refine Safe.seq (Safe.region ?_)
    simp only [a8x, E1, Nat.reduceAdd, Nat.reduceEqDiff, reduceCtorEq, ↓reduceIte, hlen]
    refine (a0o (x ++ [c]) (a3Q lx (by omega)) (by omega)).acall ?_
    try simp only [E1, Nat.reduceAdd, Nat.reduceEqDiff, reduceCtorEq, ↓reduceIte]
    refine Safe.retn ?_
    simp only [E1, Nat.reduceAdd, Nat.reduceEqDiff, reduceCtorEq, ↓reduceIte]
    rw [List.take_length, List.take_of_length_le hle] at hv
    rw [a7C, hx, hv, hs]
    first | exact ⟨rfl, _, rfl⟩ | exact ⟨_, rfl⟩ | exact ⟨trivial, _, rfl⟩
   | succ k ih =>
    intro i c x hik hx lx hc hv
    refine Safe.inLoop (Safe.seq (Safe.region ?_))
    simp only [b8x, E1, Nat.reduceAdd, Nat.reduceEqDiff, reduceCtorEq, ↓reduceIte]
    refine Safe.seq (Safe.cond ?_)
    have hlt : (i : Int) < (a.length : Int) := by omega
    simp only [E1, Nat.reduceAdd, Nat.reduceEqDiff, reduceCtorEq, ↓reduceIte, hlt]
    refine Safe.skip (Safe.seq (Safe.block (Safe.seq (Safe.region ?_))))
    simp only [c6O, E1, Nat.reduceAdd, Nat.reduceEqDiff, reduceCtorEq, ↓reduceIte]
    refine Safe.seq (Safe.region ?_)
    have xa := a2p la i
    have xb := a2p lb i
    have h1w : IntKind.wrap .u64 ((a.getD i 0 : Nat) : Int) = ((a.getD i 0 : Nat) : Int) := a1B (by omega) (by omega)
    have h2w : IntKind.wrap .u64 ((c : Int) + ((a.getD i 0 : Nat) : Int)) = ((c + a.getD i 0 : Nat) : Int) := by rw [a1B] <;> omega
    simp only [c6N, E1, Nat.reduceAdd, Nat.reduceEqDiff, reduceCtorEq, ↓reduceIte, a0T _ a _ i (by omega), h1w, h2w]
    refine Safe.seq (Safe.seq (Safe.region ?_))
    simp only [c6M, E1, Nat.reduceAdd, Nat.reduceEqDiff, reduceCtorEq, ↓reduceIte]
    refine Safe.cond ?_
    simp only [E1, Nat.reduceAdd, Nat.reduceEqDiff, reduceCtorEq, ↓reduceIte]
    have rest : ∀ env : Env, look env 0 = natV a → look env 1 = natV b → look env 5 = .mu (lid H 0) 0 (a.length + 1) (some (a.length + 1)) → look env 6 = .int .u64 (c + a.getD i 0 + b.getD i 0 : Nat) → look env 7 = .int .i64 i → look env 20 = .int .i64 a.length → look env 21 = .int .i64 i →
      Safe ⟨Pr, fun _ _ => false, a8O, 58, [.tmp 4], H.length⟩ [.code ((ACode.region b5F false).seq (.region b5E false)), .inBlock 1, .code (.region b5D false), .inLoop b4b, .inBlock 0, .code ((ACode.region a8y false).seq ((ACode.region a8x false).seq .ret))]
       env (hap H [some ⟨1, u32s (x ++ List.replicate (k + 1 + 1) 0)⟩]) fun r' H' => r' = natV (limbs s) ∧ ∃ L, H' = hap H L := by
     intro env e0 e1 e5 e6 e7 e20 e21
     refine Safe.seq (Safe.region ?_)
     have hcw : IntKind.wrap .u32 ((c + a.getD i 0 + b.getD i 0 : Nat) : Int) = (((c + a.getD i 0 + b.getD i 0) % LB : Nat) : Int) := a2O _
     simp only [b5F, E1, Nat.reduceAdd, Nat.reduceEqDiff, reduceCtorEq, ↓reduceIte, e5, e6, e7, b8l _ _ _ _ _ _ i (show i < a.length + 1 by omega), hcw, c5P _ _ _ i _ (show i < (x ++ List.replicate (k + 1 + 1) 0).length by simp [hx] <;> omega)]
     refine Safe.region ?_
     have hs32 : Int.fdiv ((c + a.getD i 0 + b.getD i 0 : Nat) : Int) (2 ^ min (Int.toNat 32) IntKind.u64.bits) = (((c + a.getD i 0 + b.getD i 0) / LB : Nat) : Int) := by
      rw [show (2 : Int) ^ min (Int.toNat 32) IntKind.u64.bits = (LB : Int) by decide, Int.fdiv_eq_ediv_of_nonneg _ (by decide)]; rfl
     simp only [b5E, E1, Nat.reduceAdd, Nat.reduceEqDiff, reduceCtorEq, ↓reduceIte, e6, a6h _ _ _ (show (0 : Int) ≤ 32 by decide), hs32]
     refine Safe.inBlock (Safe.region ?_)
     have hiw : IntKind.wrap .i64 ((i : Int) + 1) = ((i + 1 : Nat) : Int) := by rw [a0e] <;> omega
     simp only [b5D, E1, Nat.reduceAdd, Nat.reduceEqDiff, reduceCtorEq, ↓reduceIte, e21, hiw]
     refine Safe.keep [0, 1, 5, 6, 20, 21] ?_
     simp only [E1, Nat.reduceAdd, Nat.reduceEqDiff, reduceCtorEq, ↓reduceIte, e0, e1, e5, e20]
     have hset : (x ++ List.replicate (k + 1 + 1) 0).set i ((c + a.getD i 0 + b.getD i 0) % LB) = (x ++ [(c + a.getD i 0 + b.getD i 0) % LB]) ++ List.replicate (k + 1) 0 := by subst hx; exact c7L _ _ _
     rw [hset]
     refine ih (i + 1) _ _ (by omega) (by simp [hx]) (a3Q lx (Nat.mod_lt _ (by decide))) ?_ ?_
     ·have : c + a.getD i 0 + b.getD i 0 < LB * 2 := by omega
      have := Nat.div_lt_of_lt_mul this
      omega
     ·rw [a7C, hx, a0w, a0w, Nat.pow_succ]
      exact d3r (i := 0) hv
    by_cases hib : i < b.length
    ·have hib' : (i : Int) < (b.length : Int) := by omega
     simp only [hib', E1, Nat.reduceAdd, Nat.reduceEqDiff, reduceCtorEq, ↓reduceIte]
     refine Safe.region ?_
     have h3w : IntKind.wrap .u64 ((b.getD i 0 : Nat) : Int) = ((b.getD i 0 : Nat) : Int) := a1B (by omega) (by omega)
     have h4w : IntKind.wrap .u64 (((c + a.getD i 0 : Nat) : Int) + ((b.getD i 0 : Nat) : Int)) = ((c + a.getD i 0 + b.getD i 0 : Nat) : Int) := by rw [a1B] <;> omega
     simp only [c3S, E1, Nat.reduceAdd, Nat.reduceEqDiff, reduceCtorEq, ↓reduceIte, a0T _ b _ i hib, h3w, h4w]
     exact rest _ (by simp only [E1, Nat.reduceAdd, Nat.reduceEqDiff, reduceCtorEq, ↓reduceIte]) (by simp only [E1, Nat.reduceAdd, Nat.reduceEqDiff, reduceCtorEq, ↓reduceIte]) (by simp only [E1, Nat.reduceAdd, Nat.reduceEqDiff, reduceCtorEq, ↓reduceIte]) (by simp only [E1, Nat.reduceAdd, Nat.reduceEqDiff, reduceCtorEq, ↓reduceIte]) (by simp only [E1, Nat.reduceAdd, Nat.reduceEqDiff, reduceCtorEq, ↓reduceIte]) (by simp only [E1, Nat.reduceAdd, Nat.reduceEqDiff, reduceCtorEq, ↓reduceIte]) (by simp only [E1, Nat.reduceAdd, Nat.reduceEqDiff, reduceCtorEq, ↓reduceIte])
    ·have hib' : ¬ (i : Int) < (b.length : Int) := by omega
     simp only [hib', E1, Nat.reduceAdd, Nat.reduceEqDiff, reduceCtorEq, ↓reduceIte]
     have hz : b.getD i 0 = 0 := by rw [List.getD_eq_getElem?_getD, List.getElem?_eq_none (by omega)]; rfl
     refine Safe.skip (rest _ (by simp only [E1, Nat.reduceAdd, Nat.reduceEqDiff, reduceCtorEq, ↓reduceIte]) (by simp only [E1, Nat.reduceAdd, Nat.reduceEqDiff, reduceCtorEq, ↓reduceIte]) (by simp only [E1, Nat.reduceAdd, Nat.reduceEqDiff, reduceCtorEq, ↓reduceIte]) (by simp only [E1, Nat.reduceAdd, Nat.reduceEqDiff, reduceCtorEq, ↓reduceIte, hz]) (by simp only [E1, Nat.reduceAdd, Nat.reduceEqDiff, reduceCtorEq, ↓reduceIte]) (by simp only [E1, Nat.reduceAdd, Nat.reduceEqDiff, reduceCtorEq, ↓reduceIte]) (by simp only [E1, Nat.reduceAdd, Nat.reduceEqDiff, reduceCtorEq, ↓reduceIte]))
  refine Safe.keep [0, 1, 5, 6, 20, 21] ?_
  simp only [E1, Nat.reduceAdd, Nat.reduceEqDiff, reduceCtorEq, ↓reduceIte, h0, h1]
  exact key a.length 0 0 [] (by omega) rfl c4v (by omega) (by simp [val])
 refine Safe.seq (Safe.seq (Safe.region ?_))
 simp only [c6Q, E1, Nat.reduceAdd, Nat.reduceEqDiff, reduceCtorEq, ↓reduceIte]
 refine Safe.cond ?_
 simp only [E1, Nat.reduceAdd, Nat.reduceEqDiff, reduceCtorEq, ↓reduceIte]
 by_cases hlt : a.length < b.length
 ·have hlt' : (a.length : Int) < (b.length : Int) := by omega
  simp only [hlt', E1, Nat.reduceAdd, Nat.reduceEqDiff, reduceCtorEq, ↓reduceIte]
  refine Safe.region ?_
  simp only [c6P, E1, Nat.reduceAdd, Nat.reduceEqDiff, reduceCtorEq, ↓reduceIte]
  exact main b a _ _ lb la (by omega) hb (Nat.add_comm _ _) (by simp only [E1, Nat.reduceAdd, Nat.reduceEqDiff, reduceCtorEq, ↓reduceIte]) (by simp only [E1, Nat.reduceAdd, Nat.reduceEqDiff, reduceCtorEq, ↓reduceIte])
 ·have hlt' : ¬ (a.length : Int) < (b.length : Int) := by omega
  simp only [hlt', E1, Nat.reduceAdd, Nat.reduceEqDiff, reduceCtorEq, ↓reduceIte]
  exact Safe.skip (main a b _ _ la lb (by omega) ha rfl (by simp only [E1, Nat.reduceAdd, Nat.reduceEqDiff, reduceCtorEq, ↓reduceIte]) (by simp only [E1, Nat.reduceAdd, Nat.reduceEqDiff, reduceCtorEq, ↓reduceIte]))
theorem c9K (a b : List Nat) (la : Lim a) (lb : Lim b) (ha : a.length ≤ 17592186044416) (hb : b.length ≤ a.length) (hv : val b ≤ val a) : a0f Pr b0M [natV a, natV b] (natV (limbs (val a - val b))) := by
 refine a0f.intro d1T d1S (by simp only [List.length_cons, List.length_nil]; omega) (a2R _) fun H hH => ?_
 refine Safe.seq (Safe.region ?_)
 have hLB : LB = 4294967296 := rfl
 simp only [c3m, E1, Nat.reduceAdd, Nat.reduceEqDiff, reduceCtorEq, ↓reduceIte]
 refine Safe.seq (Safe.region ?_)
 simp only [c3l, E1, Nat.reduceAdd, Nat.reduceEqDiff, reduceCtorEq, ↓reduceIte, b4d _ H [] _ _ a.length (by omega)]
 refine Safe.seq (Safe.region ?_)
 simp only [c3k, E1, Nat.reduceAdd, Nat.reduceEqDiff, reduceCtorEq, ↓reduceIte]
 refine Safe.seq (Safe.seq (Safe.region ?_))
 simp only [c3j, E1, Nat.reduceAdd, Nat.reduceEqDiff, reduceCtorEq, ↓reduceIte]
 refine Safe.block (Safe.loop ?_)
 have key : ∀ (k i c : Nat) (x : List Nat), i + k = a.length → x.length = i → Lim x → c ≤ 1 → val (a.take i) + LB ^ i * c = val x + val (b.take i) →
    Safe ⟨Pr, fun _ _ => false, b0M, 45, [.tmp 4], H.length⟩ [.inLoop b5v, .inBlock 0, .code ((ACode.region a9f false).seq .ret)]
     [(0, natV a), (1, natV b), (5, .mu (lid H 0) 0 a.length (some a.length)), (6, .int .u64 c), (13, .int .i64 a.length), (14, .int .i64 i)]
     (hap H [some ⟨1, u32s (x ++ List.replicate k 0)⟩]) fun r' H' => r' = natV (limbs (val a - val b)) ∧ ∃ L, H' = hap H L := by
  intro k
  induction k with
  | zero =>
   intro i c x hik hx lx hc hv2
   have hi : i = a.length := by omega
   subst hi
   refine Safe.inLoop (Safe.seq (Safe.region ?_))
   simp only [b5u, E1, Nat.reduceAdd, Nat.reduceEqDiff, reduceCtorEq, ↓reduceIte]
   refine Safe.seq (Safe.cond ?_)
   simp only [E1, Nat.reduceAdd, Nat.reduceEqDiff, reduceCtorEq, ↓reduceIte, Int.lt_irrefl]
   refine Safe.exit rfl ?_
   simp only [List.replicate_zero, List.append_nil]
   refine Safe.freeze 0 (b := ⟨1, u32s x⟩) hH rfl rfl (a1I _) ?_
   refine Safe.seq (Safe.region ?_)
   simp only [a9f, E1, Nat.reduceAdd, Nat.reduceEqDiff, reduceCtorEq, ↓reduceIte, ← hx]
   refine (a0o x lx (by omega)).acall ?_
   try simp only [E1, Nat.reduceAdd, Nat.reduceEqDiff, reduceCtorEq, ↓reduceIte]
   refine Safe.retn ?_
   simp only [E1, Nat.reduceAdd, Nat.reduceEqDiff, reduceCtorEq, ↓reduceIte]
   rw [List.take_length, List.take_of_length_le hb] at hv2
   have h1 := a1Z lx
   rw [hx] at h1
   have hc0 : c = 0 := by
    rcases Nat.eq_zero_or_pos c with h | h
    ·exact h
    ·have : c = 1 := by omega
     subst this
     omega
   subst hc0
   have : val x = val a - val b := by omega
   rw [this]
   first | exact ⟨rfl, _, rfl⟩ | exact ⟨_, rfl⟩ | exact ⟨trivial, _, rfl⟩
  | succ k ih =>
   intro i c x hik hx lx hc hv2
   refine Safe.inLoop (Safe.seq (Safe.region ?_))
   simp only [b5u, E1, Nat.reduceAdd, Nat.reduceEqDiff, reduceCtorEq, ↓reduceIte]
   refine Safe.seq (Safe.cond ?_)
   have hlt : (i : Int) < (a.length : Int) := by omega
   simp only [E1, Nat.reduceAdd, Nat.reduceEqDiff, reduceCtorEq, ↓reduceIte, hlt]
   refine Safe.skip (Safe.seq (Safe.block (Safe.seq (Safe.region ?_))))
   simp only [c3i, E1, Nat.reduceAdd, Nat.reduceEqDiff, reduceCtorEq, ↓reduceIte]
   refine Safe.seq (Safe.region ?_)
   have xa := a2p la i
   have xb := a2p lb i
   have h1w : IntKind.wrap .u64 ((a.getD i 0 : Nat) : Int) = ((a.getD i 0 : Nat) : Int) := a1B (by omega) (by omega)
   simp only [c3h, E1, Nat.reduceAdd, Nat.reduceEqDiff, reduceCtorEq, ↓reduceIte, a0T _ a _ i (by omega), h1w]
   refine Safe.seq (Safe.seq (Safe.region ?_))
   simp only [c3g, E1, Nat.reduceAdd, Nat.reduceEqDiff, reduceCtorEq, ↓reduceIte]
   refine Safe.cond ?_
   simp only [E1, Nat.reduceAdd, Nat.reduceEqDiff, reduceCtorEq, ↓reduceIte]
   have rest : ∀ env : Env, look env 0 = natV a → look env 1 = natV b → look env 5 = .mu (lid H 0) 0 a.length (some a.length) → look env 8 = .int .u64 (((a.getD i 0 : Nat) - (c : Int) - (b.getD i 0 : Nat)) % 18446744073709551616) → look env 7 = .int .i64 i → look env 13 = .int .i64 a.length → look env 14 = .int .i64 i →
      Safe ⟨Pr, fun _ _ => false, b0M, 45, [.tmp 4], H.length⟩ [.code ((ACode.region b5t false).seq (.region b3b false)), .inBlock 1, .code (.region b3a false), .inLoop b5v, .inBlock 0, .code ((ACode.region a9f false).seq .ret)]
       env (hap H [some ⟨1, u32s (x ++ List.replicate (k + 1) 0)⟩]) fun r' H' => r' = natV (limbs (val a - val b)) ∧ ∃ L, H' = hap H L := by
    intro env e0 e1 e5 e8 e7 e13 e14
    refine Safe.seq (Safe.region ?_)
    obtain ⟨d, bo, hd, hbo, hdl, hD, hB⟩ : ∃ d bo : Nat, a.getD i 0 + LB * bo = d + c + b.getD i 0 ∧ bo ≤ 1 ∧ d < LB ∧ (((a.getD i 0 : Nat) - (c : Int) - (b.getD i 0 : Nat)) % 18446744073709551616) % 4294967296 = (d : Int) ∧ (((a.getD i 0 : Nat) - (c : Int) - (b.getD i 0 : Nat)) % 18446744073709551616) / 9223372036854775808 = (bo : Int) := by
     by_cases hlt : a.getD i 0 < c + b.getD i 0
     ·exact ⟨a.getD i 0 + LB - c - b.getD i 0, 1, by omega, by omega, by omega, by omega, by omega⟩
     ·exact ⟨a.getD i 0 - c - b.getD i 0, 0, by omega, by omega, by omega, by omega, by omega⟩
    simp only [b5t, E1, Nat.reduceAdd, Nat.reduceEqDiff, reduceCtorEq, ↓reduceIte, e5, e8, e7, b8l _ _ _ _ _ _ i (show i < a.length by omega), b6p, hD, c5P _ _ _ i _ (show i < (x ++ List.replicate (k + 1) 0).length by simp [hx])]
    refine Safe.region ?_
    have hs63 : ∀ n : Int, Int.fdiv n (2 ^ min (Int.toNat 63) IntKind.u64.bits) = n / 9223372036854775808 := by
     intro n
     rw [show (2 : Int) ^ min (Int.toNat 63) IntKind.u64.bits = 9223372036854775808 by decide, Int.fdiv_eq_ediv_of_nonneg _ (by decide)]
    simp only [b3b, E1, Nat.reduceAdd, Nat.reduceEqDiff, reduceCtorEq, ↓reduceIte, e8, a6h _ _ _ (show (0 : Int) ≤ 63 by decide), hs63, hB]
    refine Safe.inBlock (Safe.region ?_)
    have hiw : IntKind.wrap .i64 ((i : Int) + 1) = ((i + 1 : Nat) : Int) := by rw [a0e] <;> omega
    simp only [b3a, E1, Nat.reduceAdd, Nat.reduceEqDiff, reduceCtorEq, ↓reduceIte, e14, hiw]
    refine Safe.keep [0, 1, 5, 6, 13, 14] ?_
    simp only [E1, Nat.reduceAdd, Nat.reduceEqDiff, reduceCtorEq, ↓reduceIte, e0, e1, e5, e13]
    have hset : (x ++ List.replicate (k + 1) 0).set i d = (x ++ [d]) ++ List.replicate k 0 := by subst hx; exact c7L _ _ _
    rw [hset]
    refine ih (i + 1) bo _ (by omega) (by simp [hx]) (a3Q lx hdl) hbo ?_
    rw [a7C, hx, a0w, a0w, Nat.pow_succ]
    exact d8w hv2 hd
   by_cases hib : i < b.length
   ·have hib' : (i : Int) < (b.length : Int) := by omega
    simp only [hib', E1, Nat.reduceAdd, Nat.reduceEqDiff, reduceCtorEq, ↓reduceIte]
    refine Safe.region ?_
    have h3w : IntKind.wrap .u64 ((b.getD i 0 : Nat) : Int) = ((b.getD i 0 : Nat) : Int) := a1B (by omega) (by omega)
    have h4w : IntKind.wrap .u64 (IntKind.wrap .u64 (((a.getD i 0 : Nat) : Int) - c) - ((b.getD i 0 : Nat) : Int)) = ((a.getD i 0 : Nat) - (c : Int) - (b.getD i 0 : Nat)) % 18446744073709551616 := by
     rw [a2l, a2l]; omega
    simp only [c3f, E1, Nat.reduceAdd, Nat.reduceEqDiff, reduceCtorEq, ↓reduceIte, a0T _ b _ i hib, h3w, h4w]
    exact rest _ (by simp only [E1, Nat.reduceAdd, Nat.reduceEqDiff, reduceCtorEq, ↓reduceIte]) (by simp only [E1, Nat.reduceAdd, Nat.reduceEqDiff, reduceCtorEq, ↓reduceIte]) (by simp only [E1, Nat.reduceAdd, Nat.reduceEqDiff, reduceCtorEq, ↓reduceIte]) (by simp only [E1, Nat.reduceAdd, Nat.reduceEqDiff, reduceCtorEq, ↓reduceIte]) (by simp only [E1, Nat.reduceAdd, Nat.reduceEqDiff, reduceCtorEq, ↓reduceIte]) (by simp only [E1, Nat.reduceAdd, Nat.reduceEqDiff, reduceCtorEq, ↓reduceIte]) (by simp only [E1, Nat.reduceAdd, Nat.reduceEqDiff, reduceCtorEq, ↓reduceIte])
   ·have hib' : ¬ (i : Int) < (b.length : Int) := by omega
    simp only [hib', E1, Nat.reduceAdd, Nat.reduceEqDiff, reduceCtorEq, ↓reduceIte]
    have hz : b.getD i 0 = 0 := by rw [List.getD_eq_getElem?_getD, List.getElem?_eq_none (by omega)]; rfl
    refine Safe.skip (rest _ (by simp only [E1, Nat.reduceAdd, Nat.reduceEqDiff, reduceCtorEq, ↓reduceIte]) (by simp only [E1, Nat.reduceAdd, Nat.reduceEqDiff, reduceCtorEq, ↓reduceIte]) (by simp only [E1, Nat.reduceAdd, Nat.reduceEqDiff, reduceCtorEq, ↓reduceIte]) (by simp only [E1, Nat.reduceAdd, Nat.reduceEqDiff, reduceCtorEq, ↓reduceIte, hz, a2l]; simp) (by simp only [E1, Nat.reduceAdd, Nat.reduceEqDiff, reduceCtorEq, ↓reduceIte]) (by simp only [E1, Nat.reduceAdd, Nat.reduceEqDiff, reduceCtorEq, ↓reduceIte]) (by simp only [E1, Nat.reduceAdd, Nat.reduceEqDiff, reduceCtorEq, ↓reduceIte]))
 refine Safe.keep [0, 1, 5, 6, 13, 14] ?_
 simp only [E1, Nat.reduceAdd, Nat.reduceEqDiff, reduceCtorEq, ↓reduceIte]
 exact key a.length 0 0 [] (by omega) rfl c4v (by omega) (by simp [val])
theorem c2U (a b : List Nat) (ha : Nt a) (hb : Nt b) (hv : val b ≤ val a) : a0f Pr c5j [natV a, natV b] (.tup [natV (limbs (val a - val b)), .int .i64 0]) := by
 refine a0f.intro d5H d5G (by simp only [List.length_cons, List.length_nil]; omega) (.tup _ (by intro c hc; simp at hc; rcases hc with rfl | rfl; exact a2R _; exact .int _ _)) fun H hH => ?_
 refine Safe.seq (Safe.region ?_)
 simp only [c6j, E1, seval]
 refine Safe.seq (Safe.seq (Safe.region ?_))
 simp only [c6i, E1, seval]
 refine (b5m a b ha hb).acall ?_
 have h0 : ¬ (cmpI (val a) (val b) < 0) := by unfold cmpI; split <;> (try split) <;> omega
 simp only [E1, seval, h0]
 refine Safe.cond ?_
 simp only [E1, seval]
 refine Safe.skip (Safe.seq (Safe.region ?_))
 simp only [c6h, E1, seval]
 refine (a0o a ha.lim ha.len).acall ?_
 try simp only [E1, seval]
 refine (a0o b hb.lim hb.len).acall ?_
 try simp only [E1, seval]
 have hlen : (limbs (val b)).length ≤ (limbs (val a)).length := by
  rcases Nat.lt_or_ge (limbs (val a)).length (limbs (val b)).length with h | h
  ·have := b7X h; omega
  ·exact h
 have := c9K (limbs (val a)) (limbs (val b)) (a0H _) (a0H _) ha.limbs.len hlen (by rw [a0q, a0q]; exact hv)
 rw [a0q, a0q] at this
 refine this.acall ?_
 try simp only [E1, seval]
 refine Safe.retn ?_
 simp only [E1, seval]
 first | exact ⟨rfl, _, rfl⟩ | exact ⟨_, rfl⟩ | exact ⟨trivial, _, rfl⟩
theorem e0S (w r : List Nat) (k d : Nat) (h : k < w.length) : (w ++ r).set k d = w.set k d ++ r := List.set_append_left _ _ h
theorem d8Z (w r : List Nat) (k : Nat) (h : k < w.length) : (w ++ r).getD k 0 = w.getD k 0 := by
 simp [List.getElem?_append_left h]
theorem c2V (a b : List Nat) (ha : Nt a) (hb : Nt b) (hab : a.length + b.length ≤ 17592186044416) : a0f Pr a8N [natV a, natV b] (natV (limbs (val a * val b))) := by
 refine a0f.intro d5K d5J (by simp only [List.length_cons, List.length_nil]; omega) (a2R _) fun H hH => ?_
 refine Safe.seq (Safe.region ?_)
 have hLB : LB = 4294967296 := rfl
 simp only [c6r, E1, Nat.reduceAdd, Nat.reduceEqDiff, reduceCtorEq, ↓reduceIte]
 refine Safe.seq (Safe.region ?_)
 simp only [c6q, E1, Nat.reduceAdd, Nat.reduceEqDiff, reduceCtorEq, ↓reduceIte]
 refine (a0o a ha.lim ha.len).acall ?_
 try simp only [E1, Nat.reduceAdd, Nat.reduceEqDiff, reduceCtorEq, ↓reduceIte]
 refine (a0o b hb.lim hb.len).acall ?_
 try simp only [E1, Nat.reduceAdd, Nat.reduceEqDiff, reduceCtorEq, ↓reduceIte]
 have la := a0H (val a)
 have lb := a0H (val b)
 have va := a0q (val a)
 have vb := a0q (val b)
 have hA := a3g ha.lim
 have hB := a3g hb.lim
 generalize limbs (val a) = A at la va hA ⊢
 generalize limbs (val b) = B at lb vb hB ⊢
 refine Safe.keep [0, 1] (Safe.seq (Safe.region ?_))
 have hw : IntKind.wrap .i64 ((A.length : Int) + (B.length : Int)) = ((A.length + B.length : Nat) : Int) := by rw [a0e] <;> omega
 simp only [c6p, E1, Nat.reduceAdd, Nat.reduceEqDiff, reduceCtorEq, ↓reduceIte, hw, b4d _ H [] _ _ (A.length + B.length) (by omega)]
 refine Safe.seq (Safe.seq (Safe.region ?_))
 simp only [c6o, E1, Nat.reduceAdd, Nat.reduceEqDiff, reduceCtorEq, ↓reduceIte]
 refine Safe.block (Safe.loop ?_)
 -- the inner loop
 have inner : ∀ (todo : List AItem) (i x : Nat) (z vx : Nat), i < A.length → x = A.getD i 0 → 
   (∀ (w : List Nat) (c : Nat) (env : Env), w.length = i + B.length → Lim w → c < LB → val w + LB ^ (i + B.length) * c = vx + LB ^ i * (x * val B) →
    look env 0 = natV A → look env 1 = natV B → look env 5 = .mu (lid H 0) 0 (A.length + B.length) (some (A.length + B.length)) → look env 6 = .int .i64 i → look env 7 = .int .u64 c → look env 20 = .int .i64 A.length → look env 21 = .int .i64 i →
    Safe ⟨Pr, fun _ _ => false, a8N, 71, [.tmp 4], H.length⟩ todo env (hap H [some ⟨1, u32s (w ++ List.replicate z 0)⟩]) fun r' H' => r' = natV (limbs (val a * val b)) ∧ ∃ L, H' = hap H L) →
   ∀ (k j c : Nat) (w : List Nat), j + k = B.length → w.length = i + B.length → Lim w → c < LB → val w + LB ^ (i + j) * c = vx + LB ^ i * (x * val (B.take j)) →
    Safe ⟨Pr, fun _ _ => false, a8N, 71, [.tmp 4], H.length⟩ (.inLoop c6s :: .inBlock 2 :: todo)
     [(0, natV A), (1, natV B), (5, .mu (lid H 0) 0 (A.length + B.length) (some (A.length + B.length))), (6, .int .i64 i), (7, .int .u64 c), (20, .int .i64 A.length), (21, .int .i64 i), (25, .int .i64 B.length), (26, .int .i64 j)]
     (hap H [some ⟨1, u32s (w ++ List.replicate z 0)⟩]) fun r' H' => r' = natV (limbs (val a * val b)) ∧ ∃ L, H' = hap H L := by
  intro todo i x z vx hi hx hk k
  induction k with
  | zero =>
   intro j c w hjk hw lw hc hv
   have hj : j = B.length := by omega
   subst hj
   refine Safe.inLoop (Safe.seq (Safe.region ?_))
   simp only [b8t, E1, Nat.reduceAdd, Nat.reduceEqDiff, reduceCtorEq, ↓reduceIte]
   refine Safe.seq (Safe.cond ?_)
   simp only [E1, Nat.reduceAdd, Nat.reduceEqDiff, reduceCtorEq, ↓reduceIte, Int.lt_irrefl]
   refine Safe.exit rfl ?_
   rw [List.take_length] at hv
   exact hk w c _ hw lw hc hv (by simp only [E1, Nat.reduceAdd, Nat.reduceEqDiff, reduceCtorEq, ↓reduceIte]) (by simp only [E1, Nat.reduceAdd, Nat.reduceEqDiff, reduceCtorEq, ↓reduceIte]) (by simp only [E1, Nat.reduceAdd, Nat.reduceEqDiff, reduceCtorEq, ↓reduceIte]) (by simp only [E1, Nat.reduceAdd, Nat.reduceEqDiff, reduceCtorEq, ↓reduceIte]) (by simp only [E1, Nat.reduceAdd, Nat.reduceEqDiff, reduceCtorEq, ↓reduceIte]) (by simp only [E1, Nat.reduceAdd, Nat.reduceEqDiff, reduceCtorEq, ↓reduceIte]) (by simp only [E1, Nat.reduceAdd, Nat.reduceEqDiff, reduceCtorEq, ↓reduceIte])
  | succ k ih =>
   intro j c w hjk hw lw hc hv
   refine Safe.inLoop (Safe.seq (Safe.region ?_))
   simp only [b8t, E1, Nat.reduceAdd, Nat.reduceEqDiff, reduceCtorEq, ↓reduceIte]
   refine Safe.seq (Safe.cond ?_)
   have hlt : (j : Int) < (B.length : Int) := by omega
   simp only [E1, Nat.reduceAdd, Nat.reduceEqDiff, reduceCtorEq, ↓reduceIte, hlt]
   refine Safe.skip (Safe.seq (Safe.block (Safe.seq (Safe.region ?_))))
   simp only [c6k, E1, Nat.reduceAdd, Nat.reduceEqDiff, reduceCtorEq, ↓reduceIte]
   refine Safe.seq (Safe.regionD ?_)
   have xa := a2p la i
   have xb := a2p lb j
   have xw := a2p lw (i + j)
   have hfit := e1N hc xa xb xw
   have hLL : LB * LB = 18446744073709551616 := by decide
   have h1w : IntKind.wrap .u64 ((A.getD i 0 : Nat) : Int) = ((A.getD i 0 : Nat) : Int) := a1B (by omega) (by omega)
   have h2w : IntKind.wrap .u64 ((B.getD j 0 : Nat) : Int) = ((B.getD j 0 : Nat) : Int) := a1B (by omega) (by omega)
   have h3w : IntKind.wrap .u64 ((w.getD (i + j) 0 : Nat) : Int) = ((w.getD (i + j) 0 : Nat) : Int) := a1B (by omega) (by omega)
   have h4w : IntKind.wrap .u64 (((A.getD i 0 : Nat) : Int) * ((B.getD j 0 : Nat) : Int)) = ((A.getD i 0 * B.getD j 0 : Nat) : Int) := by rw [← Int.natCast_mul, a1B] <;> omega
   have h5w : IntKind.wrap .u64 (((A.getD i 0 * B.getD j 0 : Nat) : Int) + ((w.getD (i + j) 0 : Nat) : Int)) = ((A.getD i 0 * B.getD j 0 + w.getD (i + j) 0 : Nat) : Int) := by rw [a1B] <;> omega
   have h6w : IntKind.wrap .u64 ((c : Int) + ((A.getD i 0 * B.getD j 0 + w.getD (i + j) 0 : Nat) : Int)) = ((c + A.getD i 0 * B.getD j 0 + w.getD (i + j) 0 : Nat) : Int) := by rw [a1B] <;> omega
   have h7w : IntKind.wrap .i64 ((i : Int) + (j : Int)) = ((i + j : Nat) : Int) := by rw [a0e] <;> omega
   simp only [c3C, E1, Nat.reduceAdd, Nat.reduceEqDiff, reduceCtorEq, ↓reduceIte, a0T _ A _ i hi, a0T _ B _ j (by omega), h1w, h2w, h3w, h4w, h7w, b8l _ _ _ _ _ _ (i + j) (show i + j < A.length + B.length by omega), e7k _ _ (i + j) (show i + j < (w ++ List.replicate z 0).length by simp [hw]; omega),
    d8Z w _ (i + j) (show i + j < w.length by omega), h5w, h6w]
   refine Safe.seq (Safe.region ?_)
   have hcw : IntKind.wrap .u32 ((c + A.getD i 0 * B.getD j 0 + w.getD (i + j) 0 : Nat) : Int) = (((c + A.getD i 0 * B.getD j 0 + w.getD (i + j) 0) % LB : Nat) : Int) := a2O _
   simp only [c3B, E1, Nat.reduceAdd, Nat.reduceEqDiff, reduceCtorEq, ↓reduceIte, h7w, hcw, b8l _ _ _ _ _ _ (i + j) (show i + j < A.length + B.length by omega), c5P _ _ _ (i + j) _ (show i + j < (w ++ List.replicate z 0).length by simp [hw]; omega), e0S w _ (i + j) _ (show i + j < w.length by omega)]
   refine Safe.region ?_
   simp only [c3A, E1, Nat.reduceAdd, Nat.reduceEqDiff, reduceCtorEq, ↓reduceIte, a6h _ _ _ (show (0 : Int) ≤ 32 by decide), e6R]
   refine Safe.inBlock (Safe.region ?_)
   have hiw : IntKind.wrap .i64 ((j : Int) + 1) = ((j + 1 : Nat) : Int) := by rw [a0e] <;> omega
   simp only [c3z, E1, Nat.reduceAdd, Nat.reduceEqDiff, reduceCtorEq, ↓reduceIte, hiw]
   refine Safe.keep [0, 1, 5, 6, 7, 20, 21, 25, 26] ?_
   simp only [E1, Nat.reduceAdd, Nat.reduceEqDiff, reduceCtorEq, ↓reduceIte]
   refine ih (j + 1) _ _ (by omega) (by simp [hw]) (e5b lw (Nat.mod_lt _ (by decide))) ?_ ?_
   ·exact Nat.div_lt_of_lt_mul hfit
   ·rw [a0w, show i + (j + 1) = (i + j) + 1 by omega, Nat.pow_succ]
    subst hx
    exact e1M (Nat.pow_add LB i j) hv (e3P (by omega)) rfl
 have outer : ∀ (k i : Nat) (x : List Nat), i + k = A.length → x.length = i + B.length → Lim x → val x = val (A.take i) * val B →
    Safe ⟨Pr, fun _ _ => false, a8N, 71, [.tmp 4], H.length⟩ [.inLoop c6t, .inBlock 0, .code ((ACode.region b5A false).seq .ret)]
     [(0, natV A), (1, natV B), (5, .mu (lid H 0) 0 (A.length + B.length) (some (A.length + B.length))), (20, .int .i64 A.length), (21, .int .i64 i)]
     (hap H [some ⟨1, u32s (x ++ List.replicate k 0)⟩]) fun r' H' => r' = natV (limbs (val a * val b)) ∧ ∃ L, H' = hap H L := by
  intro k
  induction k with
  | zero =>
   intro i x hik hx lx hv
   have hi : i = A.length := by omega
   subst hi
   refine Safe.inLoop (Safe.seq (Safe.region ?_))
   simp only [b8u, E1, Nat.reduceAdd, Nat.reduceEqDiff, reduceCtorEq, ↓reduceIte]
   refine Safe.seq (Safe.cond ?_)
   simp only [E1, Nat.reduceAdd, Nat.reduceEqDiff, reduceCtorEq, ↓reduceIte, Int.lt_irrefl]
   refine Safe.exit rfl ?_
   simp only [List.replicate_zero, List.append_nil]
   refine Safe.freeze 0 (b := ⟨1, u32s x⟩) hH rfl rfl (a1I _) ?_
   refine Safe.seq (Safe.region ?_)
   simp only [b5A, E1, Nat.reduceAdd, Nat.reduceEqDiff, reduceCtorEq, ↓reduceIte, ← hx]
   refine (a0o x lx (by omega)).acall ?_
   try simp only [E1, Nat.reduceAdd, Nat.reduceEqDiff, reduceCtorEq, ↓reduceIte]
   refine Safe.retn ?_
   simp only [E1, Nat.reduceAdd, Nat.reduceEqDiff, reduceCtorEq, ↓reduceIte]
   rw [List.take_length] at hv
   rw [hv, va, vb]
   first | exact ⟨rfl, _, rfl⟩ | exact ⟨_, rfl⟩ | exact ⟨trivial, _, rfl⟩
  | succ k ih =>
   intro i x hik hx lx hv
   refine Safe.inLoop (Safe.seq (Safe.region ?_))
   simp only [b8u, E1, Nat.reduceAdd, Nat.reduceEqDiff, reduceCtorEq, ↓reduceIte]
   refine Safe.seq (Safe.cond ?_)
   have hlt : (i : Int) < (A.length : Int) := by omega
   simp only [E1, Nat.reduceAdd, Nat.reduceEqDiff, reduceCtorEq, ↓reduceIte, hlt]
   refine Safe.skip (Safe.seq (Safe.block (Safe.seq (Safe.region ?_))))
   simp only [c6n, E1, Nat.reduceAdd, Nat.reduceEqDiff, reduceCtorEq, ↓reduceIte]
   refine Safe.seq (Safe.region ?_)
   simp only [c6m, E1, Nat.reduceAdd, Nat.reduceEqDiff, reduceCtorEq, ↓reduceIte]
   refine Safe.seq (Safe.seq (Safe.region ?_))
   simp only [c6l, E1, Nat.reduceAdd, Nat.reduceEqDiff, reduceCtorEq, ↓reduceIte]
   refine Safe.block (Safe.loop ?_)
   refine Safe.keep [0, 1, 5, 6, 7, 20, 21, 25, 26] ?_
   simp only [E1, Nat.reduceAdd, Nat.reduceEqDiff, reduceCtorEq, ↓reduceIte]
   refine inner _ i _ (k + 1) (val x) (by omega) rfl ?_ B.length 0 0 x (by omega) hx lx (by decide) (by simp [val])
   intro w c env hw lw hc hv2 e0 e1 e5 e6 e7 e20 e21
   refine Safe.region ?_
   have h7w : IntKind.wrap .i64 ((i : Int) + (B.length : Int)) = ((i + B.length : Nat) : Int) := by rw [a0e] <;> omega
   have hcw : IntKind.wrap .u32 (c : Int) = (c : Int) := a9d (by omega) (by omega)
   simp only [c3y, E1, Nat.reduceAdd, Nat.reduceEqDiff, reduceCtorEq, ↓reduceIte, e0, e1, e5, e6, e7, h7w, hcw, b8l _ _ _ _ _ _ (i + B.length) (show i + B.length < A.length + B.length by omega), c5P _ _ _ (i + B.length) _ (show i + B.length < (w ++ List.replicate (k + 1) 0).length by simp [hw])]
   refine Safe.inBlock (Safe.region ?_)
   have hiw : IntKind.wrap .i64 ((i : Int) + 1) = ((i + 1 : Nat) : Int) := by rw [a0e] <;> omega
   simp only [c3x, E1, Nat.reduceAdd, Nat.reduceEqDiff, reduceCtorEq, ↓reduceIte, e21, hiw]
   refine Safe.keep [0, 1, 5, 20, 21] ?_
   simp only [E1, Nat.reduceAdd, Nat.reduceEqDiff, reduceCtorEq, ↓reduceIte, e0, e1, e5, e20]
   have hset : (w ++ List.replicate (k + 1) 0).set (i + B.length) c = (w ++ [c]) ++ List.replicate k 0 := by rw [← hw]; exact c7L _ _ _
   rw [hset]
   refine ih (i + 1) _ (by omega) (by simp [hw]; omega) (a3Q lw hc) ?_
   rw [a7C, hw, hv2, a0w, hv, Nat.add_mul, Nat.mul_assoc]
 refine Safe.keep [0, 1, 5, 20, 21] ?_
 simp only [E1, Nat.reduceAdd, Nat.reduceEqDiff, reduceCtorEq, ↓reduceIte]
 have := outer A.length 0 (List.replicate B.length 0) (by omega) (by simp) (by intro d hd; simp at hd; omega) (by simp [c7C, val])
 rw [List.replicate_append_replicate, Nat.add_comm B.length] at this
 exact this
end Go.Abs
namespace Go.Abs
theorem c9B (l : List Nat) (hl : Nt l) : a0f Pr a3W [natV l] (natV (limbs (val l))) := by
 refine a0f.intro c7T c7S (by simp only [List.length_cons, List.length_nil]; omega) (a2R _) fun H hH => ?_
 have hll := hl.len
 refine Safe.seq (Safe.region ?_)
 simp only [b6K, E1, seval]
 refine Safe.seq (Safe.region ?_)
 simp only [b6J, E1, seval]
 refine Safe.seq (Safe.block (Safe.loop ?_))
 -- the copy
 have copy : ∀ (n : Nat), n ≤ l.length → limbs (val l) = l.take n → ∀ env : Env, look env 0 = natV l → look env 3 = .int .i64 n →
   Safe ⟨Pr, fun _ _ => false, a3W, 33, [.tmp 2], H.length⟩ [.code ((ACode.region a7G false).seq (((ACode.region a7F false).seq (.block 2 (.loop a7H))).seq ((ACode.region a4b false).seq .ret)))]
    env (hap H []) fun r' H' => r' = natV (limbs (val l)) ∧ ∃ L, H' = hap H L := by
  intro n hn hlim env e0 e3
  refine Safe.seq (Safe.region ?_)
  simp only [a7G, E1, seval]
  refine Safe.seq (Safe.seq (Safe.region ?_))
  simp only [a7F, E1, seval]
  refine Safe.nilrow 4 1 (by decide) (by simp only [E1, seval]) ?_
  refine Safe.block (Safe.loop ?_)
  have key : ∀ (k i : Nat), i + k = n → Safe ⟨Pr, fun _ _ => false, a3W, 33, [.tmp 2], H.length⟩ [.inLoop a7H, .inBlock 2, .code ((ACode.region a4b false).seq .ret)]
    [(0, natV l), (3, .int .i64 n), (4, .mu (lid H 0) 0 (l.take i).length none), (5, .int .i64 i)] (hap H [some ⟨1, u32s (l.take i)⟩]) fun r' H' => r' = natV (limbs (val l)) ∧ ∃ L, H' = hap H L := by
   intro k
   induction k with
   | zero =>
    intro i hi
    have hi : i = n := by omega
    subst hi
    refine Safe.inLoop (Safe.seq (Safe.seq (Safe.region ?_)))
    simp only [b1e, E1, seval, Int.lt_irrefl]
    refine Safe.cond ?_
    simp only [E1, seval]
    refine Safe.exit rfl ?_
    refine Safe.freeze 0 (b := ⟨1, u32s (l.take i)⟩) hH rfl rfl (a1I _) ?_
    refine Safe.seq (Safe.region ?_)
    simp only [a4b, E1, seval]
    refine Safe.retn ?_
    simp only [E1, seval, hlim]
    first | exact ⟨rfl, _, rfl⟩ | exact ⟨_, rfl⟩ | exact ⟨trivial, _, rfl⟩
   | succ k ih =>
    intro i hi
    refine Safe.inLoop (Safe.seq (Safe.seq (Safe.region ?_)))
    have hlt : (i : Int) < (n : Int) := by omega
    simp only [b1e, E1, seval, hlt]
    refine Safe.cond ?_
    simp only [E1, seval]
    refine Safe.skip (Safe.seq (Safe.block (Safe.region ?_)))
    simp only [b6H, E1, seval, a0T _ l _ i (by omega), e4P H hH _ (a5g H 0) _ (l.take i) (l.getD i 0) (by rw [List.length_take]; omega)]
    refine Safe.inBlock (Safe.region ?_)
    have hiw : IntKind.wrap .i64 ((i : Int) + 1) = ((i + 1 : Nat) : Int) := by rw [a0e] <;> omega
    simp only [b6G, E1, seval, hiw]
    refine Safe.keep [0, 3, 4, 5] ?_
    simp only [E1, seval, c9O]
    have := ih (i + 1) (by omega)
    rw [b6x (by omega)] at this
    simpa only [List.length_append, List.length_cons, List.length_nil] using this
  refine Safe.keep [0, 3, 4, 5] ?_
  simp only [E1, seval, e0, e3]
  exact key n 0 (by omega)
 have key : ∀ (n : Nat), n ≤ l.length → val (l.take n) = val l → ∀ env : Env, look env 0 = natV l → look env 3 = .int .i64 n →
   Safe ⟨Pr, fun _ _ => false, a3W, 33, [.tmp 2], H.length⟩ [.inLoop b6L, .inBlock 0, .code ((ACode.region a7G false).seq (((ACode.region a7F false).seq (.block 2 (.loop a7H))).seq ((ACode.region a4b false).seq .ret)))]
    env (hap H []) fun r' H' => r' = natV (limbs (val l)) ∧ ∃ L, H' = hap H L := by
  intro n
  induction n with
  | zero =>
   intro hn hv env e0 e3
   refine Safe.inLoop (Safe.seq (Safe.seq (Safe.region ?_)))
   simp only [b1f, E1, seval, e0, e3, Int.natCast_zero, Int.lt_irrefl]
   refine Safe.cond ?_
   simp only [E1, seval]
   refine Safe.exit rfl (copy 0 hn ?_ _ (by simp only [E1, seval, e0]) (by simp only [E1, seval, e3] <;> rfl))
   rw [← hv]; simp [val, a0R]
  | succ n ih =>
   intro hn hv env e0 e3
   refine Safe.inLoop (Safe.seq (Safe.seq (Safe.region ?_)))
   have h0 : (0 : Int) < ((n + 1 : Nat) : Int) := by omega
   have hw : IntKind.wrap .i64 (((n + 1 : Nat) : Int) - 1) = (n : Int) := by rw [a0e] <;> omega
   simp only [b1f, E1, seval, e0, e3, h0, hw, a0T _ l _ n (by omega)]
   refine Safe.cond ?_
   simp only [E1, seval]
   by_cases hd : l.getD n 0 = 0
   ·simp only [hd, Int.natCast_zero, E1, seval]
    refine Safe.skip (Safe.block (Safe.region ?_))
    simp only [b6I, E1, seval, e3, hw]
    refine Safe.inBlock (ih (by omega) ?_ _ (by simp only [E1, seval, e0]) (by simp only [E1, seval]))
    rw [← hv, a0w, hd]; simp
   ·have hd' : ¬ (((l.getD n 0 : Nat) : Int) = 0) := by omega
    simp only [hd', E1, seval]
    refine Safe.exit rfl (copy (n + 1) hn ?_ _ (by simp only [E1, seval, e0]) (by simp only [E1, seval, e3]))
    rw [← hv, b0l (hl.lim.take _)]
    rw [b6x (by omega)]; simpa using hd
 exact key l.length (Nat.le_refl _) (by rw [List.take_length]) _ (by simp only [E1, seval]) (by simp only [E1, seval])
end Go.Abs
namespace Go.Abs
theorem c9C (neg : Bool) (l : List Nat) (hl : Nt l) : a0f Pr b3Y [.bool neg, natV l] (Z (sgn neg (val l))) := by
 refine a0f.intro c7R c7Q (by simp only [List.length_cons, List.length_nil]; omega) (Z_cl _) fun H hH => ?_
 refine Safe.seq (Safe.region ?_)
 simp only [b6F, E2, seval]
 refine Safe.seq (Safe.region ?_)
 simp only [b6E, E2, seval]
 refine (c9B l hl).acall ?_
 try simp only [E2, seval]
 refine Safe.seq (Safe.region ?_)
 have e0 : decide ((0 : Int) < ((limbs (val l)).length : Int)) = decide (0 < val l) := by
  rcases Nat.eq_zero_or_pos (val l) with h | h
  ·rw [h, a0R]; rfl
  ·rw [a6l (by omega)]; simp [h] <;> omega
 cases neg
 ·simp only [b1d, E2, seval]
  refine Safe.retn ?_
  simp only [E2, seval]
  rw [← e6v]
  simp only [Bool.false_and]
  first | exact ⟨rfl, _, rfl⟩ | exact ⟨_, rfl⟩ | exact ⟨trivial, _, rfl⟩
 ·simp only [b1d, E2, seval, e0, c9I]
  refine Safe.retn ?_
  simp only [E2, seval]
  rw [← e6v]
  simp only [Bool.true_and]
  first | exact ⟨rfl, _, rfl⟩ | exact ⟨_, rfl⟩ | exact ⟨trivial, _, rfl⟩
theorem a3C (neg : Bool) (l : List Nat) (hl : Nt l) : a0f Pr a1o [.bool neg, natV l] (Z (sgn neg (val l))) := by
 refine a0f.introL c8U c8T (by simp only [List.length_cons, List.length_nil]; omega) (Z_cl _) fun H hH => ?_
 have hll := hl.len
 refine Safe.seq (Safe.region ?_)
 simp only [b9t, E2, seval]
 refine Safe.seq (Safe.region ?_)
 simp only [b9s, E2, seval]
 refine Safe.seq (Safe.block (Safe.loop ?_))
 have copy : ∀ (n : Nat), n ≤ l.length → limbs (val l) = l.take n → ∀ env : Env, look env 0 = .bool neg → look env 1 = natV l → look env 4 = .loc (lid H 0) 0 0 → look env 5 = .int .i64 n →
   Safe ⟨Pr, fun _ _ => false, a1o, 32, [.cell 4 (some 2)], H.length⟩ [.code (((ACode.region a9a false).seq (.cond (.t 22) ((ACode.region a8Z false).seq .ret) .skip)).seq ((ACode.region a8Y false).seq ((ACode.region a8X false).seq ((ACode.region a8W false).seq .ret))))]
    env (hap H [some ⟨2, [.agg [.bool false, .nil]]⟩]) fun r' H' => Le r' (Z (sgn neg (val l))) ∧ ∃ L, H' = hap H L := by
  intro n hn hlim env e0 e1 e4 e5
  refine Safe.seq (Safe.seq (Safe.region ?_))
  simp only [a9a, E2, seval, e5]
  refine Safe.cond ?_
  simp only [E2, seval]
  by_cases h0 : n = 0
  ·subst h0
   simp only [Int.natCast_zero, E2, seval]
   refine Safe.seq (Safe.region ?_)
   simp only [a8Z, E2, seval, e4]
   refine Safe.retn ?_
   simp only [E2, seval, e4]
   refine ⟨?_, _, rfl⟩
   have : val l = 0 := by
    have := a0q (val l)
    rw [hlim] at this
    simpa [val] using this.symm
   rw [this, c1E]
   exact le_zero
  ·have h0' : ¬ ((n : Int) = 0) := by omega
   simp only [h0', E2, seval]
   refine Safe.skip (Safe.seq (Safe.region ?_))
   simp only [a8Y, E2, seval, e5, b4d _ H [some ⟨2, [.agg [.bool false, .nil]]⟩] _ _ n (by omega)]
   refine Safe.seq (Safe.region ?_)
   have hc := d4l ((28, .int .i64 n) :: []) H [some ⟨2, [.agg [.bool false, .nil]]⟩, some ⟨1, u32s (List.replicate n 0)⟩] 1 1 n (some n) (natV l) (u32s (List.replicate n 0)) (u32s l) rfl (by simp [a0G]) (c1J _ l) (by rw [a0G]; exact hn)
   simp only [a8X, E2, seval, e1]
   rw [d4l _ H [some ⟨2, [.agg [.bool false, .nil]]⟩, some ⟨1, u32s (List.replicate n 0)⟩] 1 1 n (some n) (natV l) (u32s (List.replicate n 0)) (u32s l) rfl (by simp [a0G]) (c1J _ l) (by rw [a0G]; exact hn)]
   simp only [E2, seval, b6t]
   refine Safe.freeze 1 (b := ⟨1, u32s (l.take n)⟩) hH rfl rfl (a1I _) ?_
   have hlen : n = (l.take n).length := by rw [List.length_take]; omega
   have hfm : frz (lid H 1) ⟨1, u32s (l.take n)⟩ (.mu (lid H 1) 0 n (some n)) = natV (l.take n) := by
    have := b4h H 1 (l.take n) (some n)
    rwa [← hlen] at this
   refine Safe.keep [0, 4, 6] ?_
   simp only [E2, seval, d0c, e0, e4, hfm, a7T H 1 0 _ 0 0 (by decide)]
   refine Safe.seq (Safe.region ?_)
   simp only [a8W, E2, seval]
   refine Safe.retn ?_
   simp only [E2, seval]
   refine ⟨?_, _, rfl⟩
   rw [← e6v, hlim]
   have hp : 0 < val l := by
    rcases Nat.eq_zero_or_pos (val l) with h | h
    ·rw [h, a0R] at hlim
     have := congrArg List.length hlim
     simp at this; omega
    ·exact h
   simp only [hp, decide_true, Bool.and_true]
   exact Le.refl _
 have key : ∀ (n : Nat), n ≤ l.length → val (l.take n) = val l → ∀ env : Env, look env 0 = .bool neg → look env 1 = natV l → look env 4 = .loc (lid H 0) 0 0 → look env 5 = .int .i64 n →
   Safe ⟨Pr, fun _ _ => false, a1o, 32, [.cell 4 (some 2)], H.length⟩ [.inLoop b9u, .inBlock 0, .code (((ACode.region a9a false).seq (.cond (.t 22) ((ACode.region a8Z false).seq .ret) .skip)).seq ((ACode.region a8Y false).seq ((ACode.region a8X false).seq ((ACode.region a8W false).seq .ret))))]
    env (hap H [some ⟨2, [.agg [.bool false, .nil]]⟩]) fun r' H' => Le r' (Z (sgn neg (val l))) ∧ ∃ L, H' = hap H L := by
  intro n
  induction n with
  | zero =>
   intro hn hv env e0 e1 e4 e5
   refine Safe.inLoop (Safe.seq (Safe.seq (Safe.region ?_)))
   simp only [b2u, E2, seval, e1, e5, Int.natCast_zero, Int.lt_irrefl]
   refine Safe.cond ?_
   simp only [E2, seval]
   refine Safe.exit rfl (copy 0 hn ?_ _ (by simp only [E2, seval, e0]) (by simp only [E2, seval, e1]) (by simp only [E2, seval, e4]) (by simp only [E2, seval, e5] <;> rfl))
   rw [← hv]; simp [val, a0R]
  | succ n ih =>
   intro hn hv env e0 e1 e4 e5
   refine Safe.inLoop (Safe.seq (Safe.seq (Safe.region ?_)))
   have h0 : (0 : Int) < ((n + 1 : Nat) : Int) := by omega
   have hw : IntKind.wrap .i64 (((n + 1 : Nat) : Int) - 1) = (n : Int) := by rw [a0e] <;> omega
   simp only [b2u, E2, seval, e1, e5, h0, hw, a0T _ l _ n (by omega)]
   refine Safe.cond ?_
   simp only [E2, seval]
   by_cases hd : l.getD n 0 = 0
   ·simp only [hd, Int.natCast_zero, E2, seval]
    refine Safe.skip (Safe.block (Safe.region ?_))
    simp only [b9r, E2, seval, e5, hw]
    refine Safe.inBlock (ih (by omega) ?_ _ (by simp only [E2, seval, e0]) (by simp only [E2, seval, e1]) (by simp only [E2, seval, e4]) (by simp only [E2, seval]))
    rw [← hv, a0w, hd]; simp
   ·have hd' : ¬ (((l.getD n 0 : Nat) : Int) = 0) := by omega
    simp only [hd', E2, seval]
    refine Safe.exit rfl (copy (n + 1) hn ?_ _ (by simp only [E2, seval, e0]) (by simp only [E2, seval, e1]) (by simp only [E2, seval, e4]) (by simp only [E2, seval, e5]))
    rw [← hv, b0l (hl.lim.take _)]
    rw [b6x (by omega)]; simpa using hd
 exact key l.length (Nat.le_refl _) (by rw [List.take_length]) _ (by simp only [E2, seval]) (by simp only [E2, seval]) (by simp only [E2, seval]) (by simp only [E2, seval])
theorem e4n (n : Bool) (a b : Nat) : sgn n a + sgn n b = sgn n (a + b) := by cases n <;> simp [sgn] <;> omega
theorem e4l (m n : Bool) (a b : Nat) (h : m ≠ n) (hb : b ≤ a) : sgn m a + sgn n b = sgn m (a - b) := by
 cases m <;> cases n <;> simp [sgn] at h ⊢ <;> omega
theorem e0R (m n : Bool) (a b : Nat) (h : m ≠ n) (hb : a ≤ b) : sgn m a + sgn n b = sgn n (b - a) := by
 cases m <;> cases n <;> simp [sgn] at h ⊢ <;> omega
theorem d7y (m n : Bool) (a b : Nat) : sgn m a * sgn n b = sgn (!(m == n)) (a * b) := by
 cases m <;> cases n <;> simp [sgn, Int.neg_mul, Int.mul_neg]
theorem d7x (n : Bool) (a : Nat) : sgn (!n) a = - sgn n a := by cases n <;> simp [sgn]
theorem e5W (a b : Nat) : (0 ≤ cmpI a b) = (b ≤ a) := by unfold cmpI; split <;> (try split) <;> simp <;> omega
theorem d2T (a b : Nat) : (cmpI a b < 0) = (a < b) := by unfold cmpI; split <;> (try split) <;> simp <;> omega
theorem d5n (x : ZI) (hx : Zok 17592186044416 x) : a0f Pr b5V [x.av] (Z (-x.z)) := by
 obtain ⟨n, m⟩ := x
 have hm : Nt m := ⟨hx.lim, hx.len⟩
 simp only [ZI.av, ZI.z]
 refine a0f.intro c9F c9E (by simp only [List.length_cons, List.length_nil]; omega) (Z_cl _) fun H hH => ?_
 refine Safe.seq (Safe.region ?_)
 simp only [b9V, E2, seval]
 refine Safe.seq (Safe.region ?_)
 simp only [b9U, E2, seval]
 refine (c9C (!n) m hm).acall ?_
 rw [d7x]
 simp only [Z, E2, seval]
 refine Safe.retn ?_
 simp only [E2, seval]
 first | exact ⟨rfl, _, rfl⟩ | exact ⟨_, rfl⟩ | exact ⟨trivial, _, rfl⟩
theorem d4I (x : ZI) (hx : Zok 17592186044416 x) : a0f Pr a8J [x.av] (Z x.z) := by
 obtain ⟨n, m⟩ := x
 have hm : Nt m := ⟨hx.lim, hx.len⟩
 simp only [ZI.av, ZI.z]
 refine a0f.intro c8Z c8Y (by simp only [List.length_cons, List.length_nil]; omega) (Z_cl _) fun H hH => ?_
 refine Safe.seq (Safe.region ?_)
 simp only [b9L, E2, seval]
 refine Safe.seq (Safe.region ?_)
 simp only [b9K, E2, seval]
 refine (a3C n m hm).acall ?_
 simp only [Z, E2, seval]
 refine Safe.retn ?_
 simp only [E2, seval]
 first | exact ⟨rfl, _, rfl⟩ | exact ⟨_, rfl⟩ | exact ⟨trivial, _, rfl⟩
theorem d6I (x : ZI) (hx : Zok 17592186044416 x) : a0f Pr b9l [x.av] (Z (-x.z)) := by
 obtain ⟨n, m⟩ := x
 have hm : Nt m := ⟨hx.lim, hx.len⟩
 simp only [ZI.av, ZI.z]
 refine a0f.intro d1l d1k (by simp only [List.length_cons, List.length_nil]; omega) (Z_cl _) fun H hH => ?_
 refine Safe.seq (Safe.region ?_)
 simp only [c2m, E2, seval]
 refine Safe.seq (Safe.region ?_)
 simp only [c2l, E2, seval]
 refine (a3C (!n) m hm).acall ?_
 rw [d7x]
 simp only [Z, E2, seval]
 refine Safe.retn ?_
 simp only [E2, seval]
 first | exact ⟨rfl, _, rfl⟩ | exact ⟨_, rfl⟩ | exact ⟨trivial, _, rfl⟩
theorem b7U (x : ZI) (hx : Zok 17592186044416 x) : a0f Pr b5U [x.av] (.int .i64 (blen x.z.natAbs)) := by
 obtain ⟨n, m⟩ := x
 have hm : Nt m := ⟨hx.lim, hx.len⟩
 simp only [ZI.av, ZI.z, b5g]
 refine a0f.intro c9c c9b (by simp only [List.length_cons, List.length_nil]; omega) (.int _ _) fun H hH => ?_
 refine Safe.seq (Safe.region ?_)
 simp only [b9N, E2, seval]
 refine Safe.seq (Safe.region ?_)
 simp only [b9M, E2, seval]
 refine (b9X m hm).acall ?_
 try simp only [E2, seval]
 refine Safe.retn ?_
 simp only [E2, seval]
 first | exact ⟨rfl, _, rfl⟩ | exact ⟨_, rfl⟩ | exact ⟨trivial, _, rfl⟩
theorem c2g (x y : ZI) (k l : Nat) (hx : Zok k x) (hy : Zok l y) (hkl : k + l ≤ 17592186044416) : a0f Pr a3U [x.av, y.av] (Z (x.z * y.z)) := by
 obtain ⟨n, a⟩ := x
 obtain ⟨m, b⟩ := y
 have hal := hx.len
 have hbl := hy.len
 simp only at hal hbl
 have ha : Nt a := ⟨hx.lim, by omega⟩
 have hb : Nt b := ⟨hy.lim, by omega⟩
 simp only [ZI.av, ZI.z]
 refine a0f.intro d1n d1m (by simp only [List.length_cons, List.length_nil]; omega) (Z_cl _) fun H hH => ?_
 refine Safe.seq (Safe.region ?_)
 simp only [c2o, E2, seval]
 refine Safe.seq (Safe.regionD ?_)
 simp only [c2n, E2, seval]
 refine (c2V a b ha hb (by omega)).dcall ?_
 try simp only [E2, seval]
 have hn : Nt (limbs (val a * val b)) := ⟨a0H _, by
  have h1 := a1Z ha.lim
  have h2 := a1Z hb.lim
  have h3 : val a * val b < LB ^ (a.length + b.length) := by
   rw [Nat.pow_add]
   exact Nat.mul_lt_mul'' h1 h2
  exact Nat.le_trans (a0M h3) (by omega)⟩
 refine (a3C _ _ hn).dcall ?_
 rw [a0q, ← d7y]
 simp only [Z, E2, seval]
 refine Safe.retn ?_
 simp only [E2, seval]
 first | exact ⟨rfl, _, rfl⟩ | exact ⟨_, rfl⟩ | exact ⟨trivial, _, rfl⟩
theorem c2v (x y : ZI) (k : Nat) (hx : Zok k x) (hy : Zok k y) (hk : k < 17592186044416) : a0f Pr a3V [x.av, y.av] (Z (x.z + y.z)) := by
 obtain ⟨n, a⟩ := x
 obtain ⟨m, b⟩ := y
 have hal := hx.len
 have hbl := hy.len
 have hav := hx.lt
 have hbv := hy.lt
 simp only at hal hbl hav hbv
 have ha : Nt a := ⟨hx.lim, by omega⟩
 have hb : Nt b := ⟨hy.lim, by omega⟩
 have hle : ∀ v, v < LB ^ k → Nt (limbs v) := fun v hv => ⟨a0H _, Nat.le_trans (a0M hv) (by omega)⟩
 simp only [ZI.av, ZI.z]
 refine a0f.intro d1r d1q (by simp only [List.length_cons, List.length_nil]; omega) (Z_cl _) fun H hH => ?_
 refine Safe.seq (Safe.region ?_)
 simp only [c2t, E2, seval]
 refine Safe.seq (Safe.seq (Safe.region ?_))
 simp only [c2s, E2, seval]
 refine Safe.cond ?_
 simp only [E2, seval]
 by_cases hnm : n = m
 ·subst hnm
  simp only [beq_self_eq_true, E2, seval]
  refine Safe.seq (Safe.regionD ?_)
  simp only [c2r, E2, seval]
  refine (c2W a b ha.lim hb.lim (by omega) (by omega)).dcall ?_
  try simp only [E2, seval]
  have hn : Nt (limbs (val a + val b)) := ⟨a0H _, by
   have h3 : val a + val b < LB ^ (k + 1) := by
    rw [Nat.pow_succ]
    have : LB ^ k * 2 ≤ LB ^ k * LB := Nat.mul_le_mul_left _ (by decide)
    omega
   exact Nat.le_trans (a0M h3) (by omega)⟩
  refine (a3C _ _ hn).dcall ?_
  rw [a0q, e4n]
  simp only [Z, E2, seval]
  refine Safe.retn ?_
  simp only [E2, seval]
  first | exact ⟨rfl, _, rfl⟩ | exact ⟨_, rfl⟩ | exact ⟨trivial, _, rfl⟩
 ·have hnm' : (n == m) = false := by simpa using hnm
  simp only [hnm', E2, seval]
  refine Safe.skip (Safe.seq (Safe.seq (Safe.region ?_)))
  simp only [c2q, E2, seval]
  refine (b5m a b ha hb).acall ?_
  simp only [E2, seval, d2T, e5W]
  refine Safe.cond ?_
  simp only [E2, seval]
  by_cases hlt : val a < val b
  ·simp only [hlt, E2, seval]
   refine Safe.region ?_
   simp only [c2p, E2, seval]
   refine Safe.seq (Safe.region ?_)
   simp only [b4V, E2, seval]
   refine (c2U b a hb ha (by omega)).acall ?_
   simp only [E2, seval]
   refine Safe.seq (Safe.region ?_)
   simp only [b4U, E2, seval]
   refine (a3C _ _ (hle (val b - val a) (by omega))).acall ?_
   rw [a0q, e0R n m _ _ hnm (by omega)]
   simp only [Z, E2, seval]
   refine Safe.retn ?_
   simp only [E2, seval]
   first | exact ⟨rfl, _, rfl⟩ | exact ⟨_, rfl⟩ | exact ⟨trivial, _, rfl⟩
  ·simp only [hlt, E2, seval]
   refine Safe.skip (Safe.seq (Safe.region ?_))
   simp only [b4V, E2, seval]
   refine (c2U a b ha hb (by omega)).acall ?_
   simp only [E2, seval]
   refine Safe.seq (Safe.region ?_)
   simp only [b4U, E2, seval]
   refine (a3C _ _ (hle (val a - val b) (by omega))).acall ?_
   rw [a0q, e4l n m _ _ hnm (by omega)]
   simp only [Z, E2, seval]
   refine Safe.retn ?_
   simp only [E2, seval]
   first | exact ⟨rfl, _, rfl⟩ | exact ⟨_, rfl⟩ | exact ⟨trivial, _, rfl⟩
theorem d6G (x y : ZI) (k : Nat) (hx : Zok k x) (hy : Zok k y) (hk : k < 17592186044416) : a0f Pr b0L [x.av, y.av] (Z (x.z - y.z)) := by
 have hadd := c2v x (canZ (-y.z)) k hx (a3m (by rw [Int.natAbs_neg]; exact hy.abs)) hk
 rw [a5h, e6d] at hadd
 have hneg := d6I y (hy.mono (by omega))
 obtain ⟨n, a⟩ := x
 obtain ⟨m, b⟩ := y
 simp only [ZI.av] at hadd hneg ⊢
 refine a0f.intro d1i d1h (by simp only [List.length_cons, List.length_nil]; omega) (Z_cl _) fun H hH => ?_
 refine Safe.seq (Safe.region ?_)
 simp only [c2j, E2, seval]
 refine Safe.seq (Safe.regionD ?_)
 simp only [c2i, E2, seval]
 refine hneg.dcall ?_
 try simp only [E2, seval]
 refine hadd.dcall ?_
 rw [← Int.sub_eq_add_neg]
 simp only [Z, E2, seval]
 refine Safe.retn ?_
 simp only [E2, seval]
 first | exact ⟨rfl, _, rfl⟩ | exact ⟨_, rfl⟩ | exact ⟨trivial, _, rfl⟩
theorem c7t (n : Int) (h0 : -9223372036854775808 ≤ n) (h1 : n < 9223372036854775808) : a0f Pr b3W [.int .i64 n] (Z n) := by
 refine a0f.intro d4E d4D (by simp only [List.length_cons, List.length_nil]; omega) (Z_cl _) fun H hH => ?_
 have hLB : LB = 4294967296 := rfl
 refine Safe.seq (Safe.region ?_)
 simp only [c5F, E2, Nat.reduceLeDiff, Nat.reduceSub, Nat.reduceAdd, Nat.reduceEqDiff, reduceCtorEq, ↓reduceIte]
 refine Safe.seq (Safe.region ?_)
 simp only [c5E, E2, Nat.reduceLeDiff, Nat.reduceSub, Nat.reduceAdd, Nat.reduceEqDiff, reduceCtorEq, ↓reduceIte]
 refine Safe.seq (Safe.seq (Safe.region ?_))
 simp only [c5D, E2, Nat.reduceLeDiff, Nat.reduceSub, Nat.reduceAdd, Nat.reduceEqDiff, reduceCtorEq, ↓reduceIte]
 refine Safe.cond ?_
 simp only [E2, Nat.reduceLeDiff, Nat.reduceSub, Nat.reduceAdd, Nat.reduceEqDiff, reduceCtorEq, ↓reduceIte]
 have rest : ∀ (env : Env), look env 0 = .int .i64 n → look env 2 = .loc (lid H 0) 0 0 → look env 3 = .int .u64 (n.natAbs : Nat) →
   Safe ⟨Pr, fun _ _ => false, b3W, 19, [.cell 2 (some 2)], H.length⟩ [.code ((ACode.region b7T false).seq .ret)] env (hap H [some ⟨2, [.agg [.bool false, .nil]]⟩]) fun r' H' => r' = Z n ∧ ∃ L, H' = hap H L := by
  intro env e0 e2 e3
  refine Safe.seq (Safe.region ?_)
  have w1 : IntKind.wrap .u32 ((n.natAbs : Nat) : Int) = ((n.natAbs % LB : Nat) : Int) := a2O _
  have hLL : LB * LB = 18446744073709551616 := by decide
  have hdiv : n.natAbs / LB < LB := Nat.div_lt_of_lt_mul (by omega)
  have w2 : IntKind.wrap .u32 ((n.natAbs / LB : Nat) : Int) = ((n.natAbs / LB : Nat) : Int) := a9d (Int.natCast_nonneg _) (by omega)
  simp only [b7T, E2, Nat.reduceLeDiff, Nat.reduceSub, Nat.reduceAdd, Nat.reduceEqDiff, reduceCtorEq, ↓reduceIte, e0, e3, e2, w1, a6h _ _ _ (show (0 : Int) ≤ 32 by decide), e6R, w2]
  have hm := Nat.mod_lt n.natAbs (show 0 < LB by decide)
  have := a3C (decide (n < 0)) [n.natAbs % LB, n.natAbs / LB] ⟨by intro d hd; simp at hd; omega, by simp⟩
  have hv : val [n.natAbs % LB, n.natAbs / LB] = n.natAbs := by
   simp only [val]; rw [Nat.mul_zero, Nat.add_zero, Nat.mod_add_div]
  rw [hv, show sgn (decide (n < 0)) n.natAbs = n by unfold sgn; by_cases h : n < 0 <;> simp [h] <;> omega] at this
  refine a0f.acall this ?_
  simp only [Z, E2, Nat.reduceLeDiff, Nat.reduceSub, Nat.reduceAdd, Nat.reduceEqDiff, reduceCtorEq, ↓reduceIte, e2]
  refine Safe.retn ?_
  simp only [E2, Nat.reduceLeDiff, Nat.reduceSub, Nat.reduceAdd, Nat.reduceEqDiff, reduceCtorEq, ↓reduceIte, e2]
  first | exact ⟨rfl, _, rfl⟩ | exact ⟨_, rfl⟩ | exact ⟨trivial, _, rfl⟩
 by_cases hn : n < 0
 ·simp only [hn, E2, Nat.reduceLeDiff, Nat.reduceSub, Nat.reduceAdd, Nat.reduceEqDiff, reduceCtorEq, ↓reduceIte]
  refine Safe.region ?_
  have w : IntKind.wrap .u64 (0 - IntKind.wrap .u64 n) = ((n.natAbs : Nat) : Int) := by rw [a2l, a2l]; omega
  simp only [c5C, E2, Nat.reduceLeDiff, Nat.reduceSub, Nat.reduceAdd, Nat.reduceEqDiff, reduceCtorEq, ↓reduceIte, w]
  exact rest _ (by simp only [E2, Nat.reduceLeDiff, Nat.reduceSub, Nat.reduceAdd, Nat.reduceEqDiff, reduceCtorEq, ↓reduceIte]) (by simp only [E2, Nat.reduceLeDiff, Nat.reduceSub, Nat.reduceAdd, Nat.reduceEqDiff, reduceCtorEq, ↓reduceIte]) (by simp only [E2, Nat.reduceLeDiff, Nat.reduceSub, Nat.reduceAdd, Nat.reduceEqDiff, reduceCtorEq, ↓reduceIte])
 ·have w : IntKind.wrap .u64 n = ((n.natAbs : Nat) : Int) := by rw [a2l]; omega
  simp only [hn, E2, Nat.reduceLeDiff, Nat.reduceSub, Nat.reduceAdd, Nat.reduceEqDiff, reduceCtorEq, ↓reduceIte]
  exact Safe.skip (rest _ (by simp only [E2, Nat.reduceLeDiff, Nat.reduceSub, Nat.reduceAdd, Nat.reduceEqDiff, reduceCtorEq, ↓reduceIte]) (by simp only [E2, Nat.reduceLeDiff, Nat.reduceSub, Nat.reduceAdd, Nat.reduceEqDiff, reduceCtorEq, ↓reduceIte]) (by simp only [E2, Nat.reduceLeDiff, Nat.reduceSub, Nat.reduceAdd, Nat.reduceEqDiff, reduceCtorEq, ↓reduceIte, w]))
theorem e0O (n : Bool) (a : Nat) : (sgn n a).sign = if a = 0 then 0 else if n then -1 else 1 := by
 rcases Nat.eq_zero_or_pos a with h | h
 ·subst h; simp [c1E]
 ·rw [if_neg (by omega)]
  cases n
  ·simp only [sgn, Bool.false_eq_true, if_false]
   exact Int.sign_eq_one_of_pos (by omega)
  ·simp only [sgn, if_true]
   exact Int.sign_eq_neg_one_of_neg (by omega)
theorem d0T (n : Nat) : ((blen n : Nat) : Int) = 0 ↔ n = 0 := by
 unfold blen
 split
 ·rename_i h; simp [h]
 ·rename_i h; simp [h]; omega
theorem b7S (x : ZI) (hx : Zok 17592186044416 x) : a0f Pr a3K [x.av] (.int .i64 x.z.sign) := by
 obtain ⟨n, m⟩ := x
 have hm : Nt m := ⟨hx.lim, hx.len⟩
 simp only [ZI.av, ZI.z, e0O]
 refine a0f.intro c8W c8V (by simp only [List.length_cons, List.length_nil]; omega) (.int _ _) fun H hH => ?_
 refine Safe.seq (Safe.region ?_)
 simp only [b9E, E2, seval]
 refine Safe.seq (Safe.block (Safe.seq (Safe.region ?_)))
 simp only [b9D, E2, seval]
 refine (b9X m hm).acall ?_
 simp only [E2, seval, d0T]
 refine Safe.cond ?_
 simp only [E2, seval]
 by_cases h0 : val m = 0
 ·simp only [h0, E2, seval]
  refine Safe.seq (Safe.region ?_)
  simp only [b9C, E2, seval]
  refine Safe.retn ?_
  simp only [E2, seval]
  first | exact ⟨rfl, _, rfl⟩ | exact ⟨_, rfl⟩ | exact ⟨trivial, _, rfl⟩
 ·simp only [h0, E2, seval]
  refine Safe.seq (Safe.region ?_)
  simp only [b9B, E2, seval]
  refine Safe.cond ?_
  simp only [E2, seval]
  cases n
  ·simp only [E2, seval]
   refine Safe.skip (Safe.inBlock (Safe.seq (Safe.region ?_)))
   simp only [b9z, E2, seval]
   refine Safe.retn ?_
   simp only [E2, seval]
   first | exact ⟨rfl, _, rfl⟩ | exact ⟨_, rfl⟩ | exact ⟨trivial, _, rfl⟩
  ·simp only [E2, seval]
   refine Safe.seq (Safe.region ?_)
   simp only [b9A, E2, seval]
   refine Safe.retn ?_
   simp only [E2, seval]
   first | exact ⟨rfl, _, rfl⟩ | exact ⟨_, rfl⟩ | exact ⟨trivial, _, rfl⟩
end Go.Abs
namespace Go.Abs
def zg (v : List ZI) (i : Nat) : Int := (v.getD i ⟨false, []⟩).z
def mg (b : List (List ZI)) (i : Nat) : List ZI := b.getD i []
theorem c5n {v : List ZI} {i : Nat} (h : i < v.length) : zg v i = v[i].z := by simp [zg, h]
theorem a5N {b : List (List ZI)} {i : Nat} (h : i < b.length) : mg b i = b[i] := by simp [mg, h]
def vec (n : Nat) (f : Nat → Int) : List ZI := (List.range n).map fun i => canZ (f i)
def mat (n : Nat) (f : Nat → List ZI) : List (List ZI) := (List.range n).map f
theorem a0v (n : Nat) (f : Nat → Int) : (vec n f).length = n := by simp [vec]
theorem a1r (n : Nat) (f : Nat → List ZI) : (mat n f).length = n := by simp [mat]
theorem b6r (n : Nat) (f : Nat → Int) : vec (n + 1) f = vec n f ++ [canZ (f n)] := by simp [vec, List.range_succ]
theorem c1N (n : Nat) (f : Nat → List ZI) : mat (n + 1) f = mat n f ++ [f n] := by simp [mat, List.range_succ]
theorem d1s {n : Nat} {f : Nat → Int} {i : Nat} (h : i < (vec n f).length) : (vec n f)[i] = canZ (f i) := by simp [vec]
theorem d8m {n : Nat} {f : Nat → List ZI} {i : Nat} (h : i < (mat n f).length) : (mat n f)[i] = f i := by simp [mat]
theorem c2A {n : Nat} {f g : Nat → Int} (h : ∀ i, i < n → f i = g i) : vec n f = vec n g :=
 List.map_congr_left fun i hi => by rw [h i (List.mem_range.1 hi)]
theorem d3m {n : Nat} {f : Nat → Int} {i : Nat} (h : i < n) : zg (vec n f) i = f i := by
 rw [c5n (by rw [a0v]; exact h), d1s, a5h]
theorem e7s {n : Nat} {f : Nat → List ZI} {i : Nat} (h : i < n) : mg (mat n f) i = f i := by
 rw [a5N (by rw [a1r]; exact h), d8m]
theorem e0w {k m : Nat} {z : Int} (h : z.natAbs < LB ^ k) (hkm : k ≤ m) : Zok m (canZ z) := (a3m h).mono hkm
theorem c2f {k n : Nat} {f : Nat → Int} (hn : n ≤ 2097152) (h : ∀ i, i < n → (f i).natAbs < LB ^ k) : Vok k (vec n f) := by
 refine ⟨by rw [a0v]; exact hn, fun x hx => ?_⟩
 obtain ⟨i, hi, rfl⟩ := List.mem_map.1 hx
 exact a3m (h i (List.mem_range.1 hi))
theorem e4W {k n : Nat} {f : Nat → List ZI} (hn : n ≤ 2097152) (h : ∀ i, i < n → Vok k (f i)) : Mok k (mat n f) := by
 refine ⟨by rw [a1r]; exact hn, fun x hx => ?_⟩
 obtain ⟨i, hi, rfl⟩ := List.mem_map.1 hx
 exact h i (List.mem_range.1 hi)
theorem Vok.abs {k : Nat} {v : List ZI} (h : Vok k v) (i : Nat) : (zg v i).natAbs < LB ^ k := by
 rcases Nat.lt_or_ge i v.length with hi | hi
 ·rw [c5n hi]; exact (h.get hi).abs
 ·simp [zg, hi, ZI.z, sgn, val]
  exact Nat.pow_pos (by decide)
theorem Mok.row {k : Nat} {b : List (List ZI)} (h : Mok k b) (i : Nat) : Vok k (mg b i) := by
 rcases Nat.lt_or_ge i b.length with hi | hi
 ·rw [a5N hi]; exact h.get hi
 ·simp [mg, hi]
  exact ⟨by simp, by simp⟩
theorem d8y (a b : Nat) : LB ^ (a + b) = LB ^ a * LB ^ b := Nat.pow_add _ _ _
theorem e3u (a : Nat) : 0 < LB ^ a := Nat.pow_pos (by decide)
theorem b1u {a b : Nat} (h : a ≤ b) : LB ^ a ≤ LB ^ b := Nat.pow_le_pow_right (by decide) h
theorem b3h {x y : Int} {k l : Nat} (hx : x.natAbs < LB ^ k) (hy : y.natAbs < LB ^ l) : (x * y).natAbs < LB ^ (k + l) := by
 rw [Int.natAbs_mul, d8y]
 exact Nat.mul_lt_mul'' hx hy
theorem e0m {x y : Int} {k : Nat} (hx : x.natAbs < LB ^ k) (hy : y.natAbs < LB ^ k) : (x + y).natAbs < LB ^ (k + 1) := by
 have h := Int.natAbs_add_le x y
 rw [d8y]
 have : LB = 4294967296 := rfl
 have := e3u k
 rw [Nat.pow_one]
 generalize LB ^ k = c at *
 calc (x + y).natAbs ≤ x.natAbs + y.natAbs := h
  _ < c * 2 := by omega
  _ ≤ c * LB := Nat.mul_le_mul_left _ (by decide)
theorem e4c {x y : Int} {k : Nat} (hx : x.natAbs < LB ^ k) (hy : y.natAbs < LB ^ k) : (x - y).natAbs < LB ^ (k + 1) := by
 rw [Int.sub_eq_add_neg]
 exact e0m hx (by rwa [Int.natAbs_neg])
def b0X (f : Nat → Int) : Nat → Int
 | 0 => 0
 | n + 1 => b0X f n + f n
theorem c2D {f g : Nat → Int} : ∀ {n : Nat}, (∀ i, i < n → f i = g i) → b0X f n = b0X g n
 | 0, _ => rfl
 | n + 1, h => by rw [b0X, b0X, c2D fun i hi => h i (by omega), h n (by omega)]
theorem d3s {f : Nat → Int} {B : Nat} : ∀ (n : Nat), (∀ i, i < n → (f i).natAbs < B) → (b0X f n).natAbs ≤ n * B
 | 0, _ => by simp [b0X]
 | n + 1, h => by
  have h1 := d3s n fun i hi => h i (by omega)
  have h2 := h n (by omega)
  have h3 := Int.natAbs_add_le (b0X f n) (f n)
  rw [b0X, Nat.add_mul]
  omega
theorem d7e {f : Nat → Int} {k n : Nat} (hn : n ≤ 2097152) (h : ∀ i, i < n → (f i).natAbs < LB ^ k) : (b0X f n).natAbs < LB ^ (k + 2) := by
 have h1 := d3s n h
 rw [d8y]
 have hp := e3u k
 generalize LB ^ k = c at *
 have h2 : n * c ≤ 2097152 * c := Nat.mul_le_mul_right _ hn
 have h3 : c * LB ^ 2 = 18446744073709551616 * c := by rw [Nat.mul_comm]; rfl
 omega
section
variable {H : Heap}
def RC (L : Heap) : Prop := ∀ b, some b ∈ L → ∀ a ∈ b.flat, Cl a
theorem RC.nil : RC [] := fun b h => by cases h
theorem RC.none {L : Heap} (h : RC L) : RC (none :: L) := fun b hb a ha => by
 rcases List.mem_cons.1 hb with e | e
 ·cases e
 ·exact h b e a ha
theorem RC.cons {b : Blk} {L : Heap} (hb : ∀ a ∈ b.flat, Cl a) (h : RC L) : RC (some b :: L) := fun c hc a ha => by
 rcases List.mem_cons.1 hc with e | e
 ·cases e; exact hb a ha
 ·exact h c e a ha
theorem RC.row {α : Type} {wd : Nat} {f : α → AV} {l : List α} {L : Heap} (hf : ∀ x, Cl (f x)) (h : RC L) : RC (some ⟨wd, l.map f⟩ :: L) := .cons (a4E wd f l hf) h
theorem RC.one {wd : Nat} {x : AV} {L : Heap} (hx : Cl x) (h : RC L) : RC (some ⟨wd, [x]⟩ :: L) := .cons (fun a ha => by
 simp only [Blk.flat, List.flatMap_cons, List.flatMap_nil, List.append_nil] at ha
 exact a5T hx a ha) h
theorem RC.emp {wd : Nat} {L : Heap} (h : RC L) : RC (some ⟨wd, []⟩ :: L) := .cons (fun a ha => by cases ha) h
theorem RC.mo {l : List (Int × Int)} {L : Heap} (h : RC L) : RC (some ⟨0, [.mo l]⟩ :: L) := .cons (fun a ha => by cases ha) h
theorem RC.io {i n : Nat} {s : List Nat} {L : Heap} (h : RC L) : RC (some ⟨0, [.io i n s]⟩ :: L) := .cons (fun a ha => by cases ha) h
theorem RC.zero {L : Heap} (h : RC L) : RC (some ⟨2, [.agg [.bool false, .nil]]⟩ :: L) := .one (.agg _ (by
 intro c hc
 simp only [List.mem_cons, List.not_mem_nil, or_false] at hc
 rcases hc with rfl | rfl
 ·exact .bool _
 ·exact .nil)) h
theorem e0h {α : Type} (hH : a0z H) {L : Heap} (i : Nat) {n0 : Nat} (hn : n0 ≤ lid H i) {env : Env} {wd bytes : Nat} {f : α → AV} (hf : ∀ x, Cl (f x)) (l : List α) (x : α) (l' : List α) {y : AV} {len : Nat}
  (hlen : len = l.length) (hl : L[i]? = some (some ⟨wd, l.map f⟩)) (hL : RC L) (hy : y = f x) (hl' : l' = l ++ [x]) (hb : (len + 1) * bytes ≤ 140737488355328) (hbb : len + 1 ≤ 9223372036854775807) :
  appV n0 wd bytes false (.mu (lid H i) 0 len none) (.sl wd [y]) env (hap H L) = some (.mu (lid H i) 0 (len + 1) none, scrub (lid H i) env, hap H (L.set i (some ⟨wd, l'.map f⟩))) := by
 subst hy
 subst hl'
 have := b7P n0 env H L wd bytes false i len none (.sl wd [f x]) (l.map f) [f x] hH hl (by rw [List.length_map]; exact hlen) hn (a2b _ wd _) (b4k hL) (by
  intro a ha
  simp at ha
  exact (a5T (hf x) a ha).ref) (by simpa using hb) (by simpa using hbb) rfl
 simpa [a1f] using this
theorem c2d {α : Type} {L : Heap} (i : Nat) {n0 : Nat} (hn : n0 ≤ lid H i) {env : Env} {wd bytes : Nat} {f : α → AV} (l : List α) (x : α) (l' : List α) {y : AV} {len c : Nat}
  (hlen : len = l.length) (hl : L[i]? = some (some ⟨wd, l.map f⟩)) (hy : y = f x) (hl' : l' = l ++ [x]) (hc : len + 1 ≤ c) :
  appV n0 wd bytes false (.mu (lid H i) 0 len (some c)) (.sl wd [y]) env (hap H L) = some (.mu (lid H i) 0 (len + 1) (some c), env, hap H (L.set i (some ⟨wd, l'.map f⟩))) := by
 subst hy
 subst hl'
 have := e0i n0 env H L wd bytes false i len c (.sl wd [f x]) (l.map f) [f x] hl (by rw [List.length_map]; exact hlen) hn (a2b _ wd _) (by simp) (by simpa using hc)
 simpa using this
theorem c1M (env : Env) (L : Heap) (wd bytes : Nat) (z : AV) (k k' : IntKind) (c : Nat) (h0 : 0 < wd) (h2 : bytes * c ≤ 281474976710656) (h3 : c ≤ 9223372036854775807) :
  d2c wd bytes z (.int k 0) (.int k' c) env (hap H L) = some (.mu (lid H L.length) 0 0 (some c), env, hap H (L ++ [some ⟨wd, []⟩])) := by
 have := c3V env H L wd bytes z k k' 0 c h0 (Nat.zero_le _) h2 h3
 simpa using this
theorem a8F {α : Type} (i wd : Nat) (f : α → AV) (l : List α) (len : Nat) (oc : Option Nat) (h : len = l.length) : frz (lid H i) ⟨wd, l.map f⟩ (.mu (lid H i) 0 len oc) = .sl wd (l.map f) := by
 subst h; exact d6q H i wd f l oc
section
variable {x : Cx} {todo : List AItem} {env : Env} {R : AV → Heap → Prop} {a b c d e : Option Blk}
theorem Safe.drop1 (hH : a0z H) (hx : x.n0 = H.length) (he : env.all (fun p => nref (lid H 1) p.2) = true) (hL : RC [a]) (h : Safe x todo env (hap H [a]) R) : Safe x todo env (hap H [a, b]) R := Safe.dropC (L := [a]) hH hx he hL h
end
theorem Safe.told0 (i : Nat) {x : Cx} {todo : List AItem} {env : Env} {L : Heap} {R : AV → Heap → Prop} (hl : L[i]? = some (some ⟨2, [.agg [.bool false, .nil]]⟩)) (h : Safe x todo env (hap H (L.set i (some ⟨2, [Z 0]⟩))) R) : Safe x todo env (hap H L) R := by
 rw [e3J] at h
 refine Safe.toldRow (b' := ⟨2, [.agg [.bool false, natV []]]⟩) i hl rfl (by intro y hy; simp at hy; subst hy; rfl) rfl (by simp) ?_ h
 intro k a c ha hc
 match k with
 | 0 => cases ha; cases hc; exact Le.refl _
 | 1 => cases ha; cases hc; exact Le.nil 1 (by decide)
 | k + 2 => simp [Blk.flat, AV.cells] at ha
end
end Go.Abs
namespace Go.Abs
theorem d9s (g : FuncId) (caps : List AV) (v : List ZI) (f : Nat → Int) (hv : v.length ≤ 2097152) (hc : ∀ c ∈ caps, Cl c) (hf : ∀ (i : Nat) (h : i < v.length), a0f Pr g (v[i].av :: caps) (Z (f i))) : a0f Pr a3G [vecV v, .fn g caps] (vecV (vec v.length f)) := by
 have hcl : ∀ id, caps.all (nref id) = true := fun id => List.all_eq_true.2 fun c h => a0J (hc c h)
 refine a0f.intro c4c c4a (Nat.le_of_ble_eq_true rfl) (a0x _) fun H hH => ?_
 refine Safe.rg rfl ?_
 simp only [b3w, E3, seval]
 refine Safe.rg rfl ?_
 simp only [b3v, c1M _ _ 2 32 _ _ _ v.length (by decide) (by omega) (by omega), E3, seval]
 refine Safe.rg rfl ?_
 simp only [b3u, E3, seval]
 refine Safe.lp rfl ?_
 refine Safe.keep [1, 5, 11, 12, 13] ?_
 try simp only [E3, seval]
 refine Safe.loopN (v.length) (fun i => [(1, .fn g caps), (5, .mu (lid H 0) 0 i (some v.length)), (11, vecV v), (12, .int .i64 v.length), (13, .int .i64 i)]) (fun i => hap H [some ⟨2, (vec i f).map ZI.av⟩]) rfl rfl (fun i hi ih => ?_) ?_
 ·have hlt : (i : Int) < (v.length : Int) := by omega
  have hiw : IntKind.wrap .i64 ((i : Int) + 1) = ((i + 1 : Nat) : Int) := by rw [a0e] <;> omega
  refine Safe.inLoop ?_
  refine Safe.rg rfl ?_
  simp only [a8E, hlt, E3, seval]
  refine Safe.cd rfl ?_
  simp only [E3, seval]
  refine Safe.rg rfl ?_
  simp only [b3t, b2D _ v _ i (by omega), E3, seval]
  refine Safe.rg rfl ?_
  simp only [b3s, E3, seval]
  first | refine (hf i hi).acall ?_ | refine (hf i hi).dcall ?_ | refine (hf i hi).dgcall ?_
  try simp only [E3, seval]
  rw [c2d (H := H) 0 (a5g H 0) (f := ZI.av) (vec i f) (canZ (f i)) (vec (i + 1) f) ?hlen ?hl ?hy ?hl2 ?hc]
  case hlen => first | rfl | (simp only [a0v, a1r, List.length_map, List.length_take]; done) | (simp only [a0v, a1r, List.length_map, List.length_take]; omega)
  case hl => rfl
  case hy => rfl
  case hl2 => first | exact b6r _ _ | exact c1N _ _ | exact b2F _ (by omega) | exact b0W _ _ (by omega)
  case hc => omega
  simp only [hcl, E3, seval]
  refine Safe.rg rfl ?_
  simp only [b3r, hiw, E3, seval]
  refine Safe.keep [1, 5, 11, 12, 13] ?_
  simp only [E3, seval]
  refine Safe.drop1 hH rfl (by simp only [List.all_cons, List.all_nil, hcl, E3, seval]) (by repeat (first | exact RC.nil | refine RC.none ?_ | refine RC.mo ?_ | refine RC.io ?_ | refine RC.row ZI.cl ?_ | refine RC.cons (a1I _) ?_ | refine RC.row a0x ?_ | refine RC.emp ?_ | refine RC.zero ?_ | refine RC.one (Z_cl _) ?_ | refine RC.one (ZI.cl _) ?_ | refine RC.one (a0x _) ?_)) ?_
  exact ih
 ·refine Safe.inLoop ?_
  refine Safe.rg rfl ?_
  simp only [a8E, Int.lt_irrefl, E3, seval]
  refine Safe.cd rfl ?_
  simp only [E3, seval]
  refine Safe.freeze 0 hH rfl rfl (a4E 2 ZI.av _ ZI.cl) ?_
  refine Safe.keep [5] ?_
  simp only [a8F 0 2 ZI.av (vec v.length f) v.length (some v.length) (a0v _ _).symm, E3, seval]
  refine Safe.rg rfl ?_
  simp only [b3q, E3, seval]
  refine Safe.rt rfl ?_
  simp only [E3, seval]
  first | exact ⟨rfl, _, rfl⟩ | exact ⟨_, rfl⟩ | exact ⟨trivial, _, rfl⟩
theorem e5K (g : FuncId) (caps : List AV) (v : List (List ZI)) (f : Nat → List ZI) (hv : v.length ≤ 2097152) (hc : ∀ c ∈ caps, Cl c) (hf : ∀ (i : Nat) (h : i < v.length), a0f Pr g (vecV v[i] :: caps) (vecV (f i))) : a0f Pr a9Z [matV v, .fn g caps] (matV (mat v.length f)) := by
 have hcl : ∀ id, caps.all (nref id) = true := fun id => List.all_eq_true.2 fun c h => a0J (hc c h)
 refine a0f.intro c3Z c3X (Nat.le_of_ble_eq_true rfl) (a9V _) fun H hH => ?_
 refine Safe.rg rfl ?_
 simp only [b3p, E3, seval]
 refine Safe.rg rfl ?_
 simp only [b3o, c1M _ _ 1 24 _ _ _ v.length (by decide) (by omega) (by omega), E3, seval]
 refine Safe.rg rfl ?_
 simp only [b3n, E3, seval]
 refine Safe.lp rfl ?_
 refine Safe.keep [1, 5, 11, 12, 13] ?_
 try simp only [E3, seval]
 refine Safe.loopN (v.length) (fun i => [(1, .fn g caps), (5, .mu (lid H 0) 0 i (some v.length)), (11, matV v), (12, .int .i64 v.length), (13, .int .i64 i)]) (fun i => hap H [some ⟨1, (mat i f).map vecV⟩]) rfl rfl (fun i hi ih => ?_) ?_
 ·have hlt : (i : Int) < (v.length : Int) := by omega
  have hiw : IntKind.wrap .i64 ((i : Int) + 1) = ((i + 1 : Nat) : Int) := by rw [a0e] <;> omega
  refine Safe.inLoop ?_
  refine Safe.rg rfl ?_
  simp only [a8D, hlt, E3, seval]
  refine Safe.cd rfl ?_
  simp only [E3, seval]
  refine Safe.rg rfl ?_
  simp only [b3m, a9U _ v _ i (by omega), E3, seval]
  refine Safe.rg rfl ?_
  simp only [b3l, E3, seval]
  first | refine (hf i hi).acall ?_ | refine (hf i hi).dcall ?_ | refine (hf i hi).dgcall ?_
  try simp only [E3, seval]
  rw [c2d (H := H) 0 (a5g H 0) (f := vecV) (mat i f) (f i) (mat (i + 1) f) ?hlen ?hl ?hy ?hl2 ?hc]
  case hlen => first | rfl | (simp only [a0v, a1r, List.length_map, List.length_take]; done) | (simp only [a0v, a1r, List.length_map, List.length_take]; omega)
  case hl => rfl
  case hy => rfl
  case hl2 => first | exact b6r _ _ | exact c1N _ _ | exact b2F _ (by omega) | exact b0W _ _ (by omega)
  case hc => omega
  simp only [hcl, E3, seval]
  refine Safe.rg rfl ?_
  simp only [b3k, hiw, E3, seval]
  refine Safe.keep [1, 5, 11, 12, 13] ?_
  simp only [E3, seval]
  exact ih
 ·refine Safe.inLoop ?_
  refine Safe.rg rfl ?_
  simp only [a8D, Int.lt_irrefl, E3, seval]
  refine Safe.cd rfl ?_
  simp only [E3, seval]
  refine Safe.freeze 0 hH rfl rfl (a4E 1 vecV _ a0x) ?_
  refine Safe.keep [5] ?_
  simp only [a8F 0 1 vecV (mat v.length f) v.length (some v.length) (a1r _ _).symm, E3, seval]
  refine Safe.rg rfl ?_
  simp only [b3j, E3, seval]
  refine Safe.rt rfl ?_
  simp only [E3, seval]
  first | exact ⟨rfl, _, rfl⟩ | exact ⟨_, rfl⟩ | exact ⟨trivial, _, rfl⟩
section
variable {a b : Int} {k l : Nat} (ha : a.natAbs < LB ^ k)
include ha
theorem c7y (hb : b.natAbs < LB ^ k) (hk : k < 17592186044416) : a0f Pr a3V [Z a, Z b] (Z (a + b)) := by
 have := c2v (canZ a) (canZ b) k (a3m ha) (a3m hb) hk
 rwa [a5h, a5h] at this
theorem e0s (hb : b.natAbs < LB ^ k) (hk : k < 17592186044416) : a0f Pr b0L [Z a, Z b] (Z (a - b)) := by
 have := d6G (canZ a) (canZ b) k (a3m ha) (a3m hb) hk
 rwa [a5h, a5h] at this
theorem d3l (hb : b.natAbs < LB ^ l) (hk : k + l ≤ 17592186044416) : a0f Pr a3U [Z a, Z b] (Z (a * b)) := by
 have := c2g (canZ a) (canZ b) k l (a3m ha) (a3m hb) hk
 rwa [a5h, a5h] at this
end
section
variable (u v : List ZI) {p : Nat} {i : Nat} (hu : Vok p u) (hv : Vok p v) (hp : p + p ≤ 17592186044416) (hi : i < u.length) (hj : i < v.length)
include hu hv hp
theorem d1e : a0f Pr a3U [u[i].av, v[i].av] (Z (zg u i * zg v i)) := by
 have := c2g u[i] v[i] p p (hu.get hi) (hv.get hj) hp
 rwa [← c5n hi, ← c5n hj] at this
end
def dotZ (u v : List ZI) : Int := b0X (fun i => zg u i * zg v i) u.length
theorem b4c {u v : List ZI} {p : Nat} (hu : Vok p u) (hv : Vok p v) (i : Nat) : (zg u i * zg v i).natAbs < LB ^ (p + p) := b3h (hu.abs i) (hv.abs i)
theorem c8A {u v : List ZI} {p : Nat} (hu : Vok p u) (hv : Vok p v) {i : Nat} (hi : i ≤ u.length) : (b0X (fun i => zg u i * zg v i) i).natAbs < LB ^ (p + p + 2) :=
 d7e (Nat.le_trans hi hu.len) fun j _ => b4c hu hv j
theorem c8z (u v : List ZI) (p : Nat) (hu : Vok p u) (hv : Vok p v) (hp : p + p + 2 < 17592186044416) (hl : u.length = v.length) : a0f Pr c5l [vecV u, vecV v] (Z (dotZ u v)) := by
 have hul := hu.len
 refine a0f.intro d6b d5Z (Nat.le_of_ble_eq_true rfl) (Z_cl _) fun H hH => ?_
 refine Safe.rg rfl ?_
 simp only [c7a, E3, seval]
 refine Safe.rg rfl ?_
 simp only [c6Z, E3, seval]
 refine Safe.told0 1 rfl ?_
 refine Safe.rg rfl ?_
 simp only [c6Y, E3, seval]
 refine Safe.lp rfl ?_
 refine Safe.keep [0, 1, 4, 5, 8, 9, 7] ?_
 try simp only [E3, seval]
 refine Safe.loopN (u.length) (fun i => [(0, vecV u), (1, vecV v), (4, .loc (lid H 0) 0 0), (5, .loc (lid H 1) 0 0), (8, .int .i64 u.length), (9, .int .i64 i), (7, vecV u)]) (fun i => hap H [some ⟨2, [.agg [.bool false, .nil]]⟩, some ⟨2, [Z (b0X (fun i => zg u i * zg v i) i)]⟩]) rfl rfl (fun i hi ih => ?_) ?_
 ·have hlt : (i : Int) < (u.length : Int) := by omega
  have hiw : IntKind.wrap .i64 ((i : Int) + 1) = ((i + 1 : Nat) : Int) := by rw [a0e] <;> omega
  refine Safe.inLoop ?_
  refine Safe.rg rfl ?_
  simp only [b8G, hlt, E3, seval]
  refine Safe.cd rfl ?_
  simp only [E3, seval]
  refine Safe.rg rfl ?_
  simp only [c6X, E3, seval]
  refine Safe.rg rfl ?_
  simp only [c6W, b2D _ u _ i (by omega), b2D _ v _ i (by omega), E3, seval]
  first | refine (d1e u v hu hv (by omega) hi (by omega)).acall ?_ | refine (d1e u v hu hv (by omega) hi (by omega)).dcall ?_ | refine (d1e u v hu hv (by omega) hi (by omega)).dgcall ?_
  try simp only [E3, seval]
  first | refine (c7y (c8A hu hv (Nat.le_of_lt hi)) (Nat.lt_of_lt_of_le (b4c hu hv i) (b1u (by omega))) hp).acall ?_ | refine (c7y (c8A hu hv (Nat.le_of_lt hi)) (Nat.lt_of_lt_of_le (b4c hu hv i) (b1u (by omega))) hp).dcall ?_ | refine (c7y (c8A hu hv (Nat.le_of_lt hi)) (Nat.lt_of_lt_of_le (b4c hu hv i) (b1u (by omega))) hp).dgcall ?_
  try simp only [E3, seval]
  refine Safe.rg rfl ?_
  simp only [c6V, hiw, E3, seval]
  refine Safe.keep [0, 1, 4, 5, 8, 9, 7] ?_
  simp only [E3, seval]
  exact ih
 ·refine Safe.inLoop ?_
  refine Safe.rg rfl ?_
  simp only [b8G, Int.lt_irrefl, E3, seval]
  refine Safe.cd rfl ?_
  simp only [E3, seval]
  refine Safe.rg rfl ?_
  simp only [c6U, E3, seval]
  refine Safe.rt rfl ?_
  simp only [E3, seval]
  first | exact ⟨rfl, _, rfl⟩ | exact ⟨_, rfl⟩ | exact ⟨trivial, _, rfl⟩
theorem e7N (u v : List ZI) (p : Nat) (hu : Vok p u) (hv : Vok p v) (hp : p + p + 2 < 17592186044416) (hl : u.length = v.length) : a0f Pr c5m [vecV u, vecV v] (.tup [Z (dotZ u v), .int .i64 0]) := by
 have hl' : (u.length : Int) = (v.length : Int) := by omega
 refine a0f.intro d6g d6f (Nat.le_of_ble_eq_true rfl) (.tup _ (by simp only [List.mem_cons, List.not_mem_nil, or_false, forall_eq_or_imp, forall_eq]; exact ⟨Z_cl _, .int _ _⟩)) fun H hH => ?_
 refine Safe.rg rfl ?_
 simp only [c7d, E3, seval]
 refine Safe.rg rfl ?_
 simp only [c7c, hl', E3, seval]
 refine Safe.cd rfl ?_
 simp only [E3, seval]
 refine Safe.rg rfl ?_
 simp only [c7b, E3, seval]
 first | refine (c8z u v p hu hv hp hl).acall ?_ | refine (c8z u v p hu hv hp hl).dcall ?_ | refine (c8z u v p hu hv hp hl).dgcall ?_
 try simp only [E3, seval]
 refine Safe.rt rfl ?_
 simp only [E3, seval]
 first | exact ⟨rfl, _, rfl⟩ | exact ⟨_, rfl⟩ | exact ⟨trivial, _, rfl⟩
theorem d1v (k x : ZI) (p q : Nat) (hk : Zok p k) (hx : Zok q x) (hpq : p + q ≤ 17592186044416) : a0f Pr a8c [x.av, .ro k.av 0] (Z (k.z * x.z)) := by
 have hm := c2g k x p q hk hx hpq
 obtain ⟨n, m⟩ := k
 obtain ⟨n', m'⟩ := x
 simp only [ZI.av] at hm ⊢
 refine a0f.intro c5v c5u (Nat.le_of_ble_eq_true rfl) (Z_cl _) fun H hH => ?_
 refine Safe.rg rfl ?_
 simp only [b4J, E3, seval]
 refine Safe.rg rfl ?_
 simp only [b4I, E3, seval]
 first | refine (hm).acall ?_ | refine (hm).dcall ?_ | refine (hm).dgcall ?_
 try simp only [E3, seval]
 refine Safe.rt rfl ?_
 simp only [E3, seval]
 first | exact ⟨rfl, _, rfl⟩ | exact ⟨_, rfl⟩ | exact ⟨trivial, _, rfl⟩
theorem b5R {a b : AV} (ha : Cl a) (hb : Cl b) : Cl (.tup [a, b]) := .tup _ (by
 intro c hc
 simp only [List.mem_cons, List.not_mem_nil, or_false] at hc
 rcases hc with rfl | rfl
 ·exact ha
 ·exact hb)
theorem b5Q {a b d : AV} (ha : Cl a) (hb : Cl b) (hd : Cl d) : Cl (.tup [a, b, d]) := .tup _ (by
 intro c hc
 simp only [List.mem_cons, List.not_mem_nil, or_false] at hc
 rcases hc with rfl | rfl | rfl
 ·exact ha
 ·exact hb
 ·exact hd)
theorem e7P {a : AV} (ha : Cl a) : ∀ c ∈ [a], Cl c := by
 intro c hc
 simp only [List.mem_cons, List.not_mem_nil, or_false] at hc
 subst hc; exact ha
theorem d2b (k : ZI) (v : List ZI) (p q : Nat) (hk : Zok p k) (hv : Vok q v) (hpq : p + q ≤ 17592186044416) : a0f Pr b5X [k.av, vecV v] (vecV (vec v.length fun i => k.z * zg v i)) := by
 have hvl := hv.len
 have hcl := ZI.cl k
 have he := d9s a8c [.ro k.av 0] v (fun i => k.z * zg v i) hv.len (e7P (.ro _ _ (a5T hcl))) fun i h => by
  have := d1v k v[i] p q hk (hv.get h) hpq
  rwa [← c5n h] at this
 obtain ⟨n, m⟩ := k
 simp only [ZI.av] at he hcl ⊢
 refine a0f.intro c9U c9T (Nat.le_of_ble_eq_true rfl) (a0x _) fun H hH => ?_
 refine Safe.rg rfl ?_
 simp only [c0u, E3, seval]
 refine Safe.freeze 0 (b := ⟨2, [.agg [.bool n, natV m]]⟩) hH rfl rfl (by simpa only [Blk.flat, List.flatMap_cons, List.flatMap_nil, List.append_nil] using a5T hcl) ?_
 simp only [d0A, E3, seval]
 refine Safe.rg rfl ?_
 simp only [c0t, E3, seval]
 first | refine (he).acall ?_ | refine (he).dcall ?_ | refine (he).dgcall ?_
 try simp only [E3, seval]
 refine Safe.rt rfl ?_
 simp only [E3, seval]
 first | exact ⟨rfl, _, rfl⟩ | exact ⟨_, rfl⟩ | exact ⟨trivial, _, rfl⟩
theorem e1t (g : FuncId) (u v : List ZI) (f : Nat → Int) (hu : u.length ≤ 2097152) (hl : u.length = v.length) (hf : ∀ (i : Nat) (h : i < u.length) (h' : i < v.length), a0f Pr g [u[i].av, v[i].av] (Z (f i))) : a0f Pr b5W [vecV u, vecV v, .fn g []] (.tup [vecV (vec u.length f), .int .i64 0]) := by
 have hl' : (u.length : Int) = (v.length : Int) := by omega
 refine a0f.intro c9S c9Q (Nat.le_of_ble_eq_true rfl) (b5R (a0x _) (.int _ _)) fun H hH => ?_
 refine Safe.rg rfl ?_
 simp only [c0s, E3, seval]
 refine Safe.rg rfl ?_
 simp only [c0r, hl', E3, seval]
 refine Safe.cd rfl ?_
 simp only [E3, seval]
 refine Safe.rg rfl ?_
 simp only [c0q, E3, seval]
 refine Safe.rg rfl ?_
 simp only [c0p, E3, seval]
 refine Safe.nilrow 8 2 (by decide) (by simp only [E3, seval]) ?_
 refine Safe.lp rfl ?_
 refine Safe.keep [0, 1, 2, 8, 16, 17] ?_
 try simp only [E3, seval]
 refine Safe.loopN (u.length) (fun i => [(0, vecV u), (1, vecV v), (2, .fn g []), (8, .mu (lid H 0) 0 i none), (16, .int .i64 u.length), (17, .int .i64 i)]) (fun i => hap H [some ⟨2, (vec i f).map ZI.av⟩]) rfl rfl (fun i hi ih => ?_) ?_
 ·have hlt : (i : Int) < (u.length : Int) := by omega
  have hiw : IntKind.wrap .i64 ((i : Int) + 1) = ((i + 1 : Nat) : Int) := by rw [a0e] <;> omega
  refine Safe.inLoop ?_
  refine Safe.rg rfl ?_
  simp only [b3i, hlt, E3, seval]
  refine Safe.cd rfl ?_
  simp only [E3, seval]
  refine Safe.rg rfl ?_
  simp only [c0o, E3, seval]
  refine Safe.rg rfl ?_
  simp only [c0n, b2D _ u _ i (by omega), b2D _ v _ i (by omega), E3, seval]
  first | refine (hf i hi (by omega)).acall ?_ | refine (hf i hi (by omega)).dcall ?_ | refine (hf i hi (by omega)).dgcall ?_
  try simp only [E3, seval]
  rw [e0h hH 0 (a5g H 0) ZI.cl (vec i f) (canZ (f i)) (vec (i + 1) f) ?hlen ?hl ?hL ?hy ?hl2 ?hb ?hbb]
  case hlen => first | rfl | (simp only [a0v, a1r, List.length_map, List.length_take]; done) | (simp only [a0v, a1r, List.length_map, List.length_take]; omega)
  case hl => rfl
  case hL => repeat (first | exact RC.nil | refine RC.none ?_ | refine RC.mo ?_ | refine RC.io ?_ | refine RC.row ZI.cl ?_ | refine RC.cons (a1I _) ?_ | refine RC.row a0x ?_ | refine RC.emp ?_ | refine RC.zero ?_ | refine RC.one (Z_cl _) ?_ | refine RC.one (ZI.cl _) ?_ | refine RC.one (a0x _) ?_)
  case hy => rfl
  case hl2 => first | exact b6r _ _ | exact c1N _ _ | exact b2F _ (by omega) | exact b0W _ _ (by omega)
  case hb => omega
  case hbb => omega
  simp only [E3, seval]
  refine Safe.rg rfl ?_
  simp only [c0m, hiw, E3, seval]
  refine Safe.keep [0, 1, 2, 8, 16, 17] ?_
  simp only [E3, seval]
  exact ih
 ·refine Safe.inLoop ?_
  refine Safe.rg rfl ?_
  simp only [b3i, Int.lt_irrefl, E3, seval]
  refine Safe.cd rfl ?_
  simp only [E3, seval]
  refine Safe.freeze 0 hH rfl rfl (a4E 2 ZI.av _ ZI.cl) ?_
  refine Safe.keep [8] ?_
  simp only [a8F 0 2 ZI.av (vec u.length f) u.length none (a0v _ _).symm, E3, seval]
  refine Safe.rg rfl ?_
  simp only [c0l, E3, seval]
  refine Safe.rt rfl ?_
  simp only [E3, seval]
  first | exact ⟨rfl, _, rfl⟩ | exact ⟨_, rfl⟩ | exact ⟨trivial, _, rfl⟩
section
variable (u v : List ZI) (p : Nat) (hu : Vok p u) (hv : Vok p v) (hp : p < 17592186044416)
include hu hv hp
theorem e4K (hl : u.length = v.length) : a0f Pr b9n [vecV u, vecV v] (.tup [vecV (vec u.length fun i => zg u i + zg v i), .int .i64 0]) := by
 have hc := e1t a3V u v (fun i => zg u i + zg v i) hu.len hl fun i h h' => by
  have := c2v u[i] v[i] p (hu.get h) (hv.get h') hp
  rwa [← c5n h, ← c5n h'] at this
 refine a0f.intro d2i d2h (Nat.le_of_ble_eq_true rfl) (b5R (a0x _) (.int _ _)) fun H hH => ?_
 refine Safe.rg rfl ?_
 simp only [c4e, E3, seval]
 refine Safe.rg rfl ?_
 simp only [c4d, E3, seval]
 first | refine (hc).acall ?_ | refine (hc).dcall ?_ | refine (hc).dgcall ?_
 try simp only [E3, seval]
 refine Safe.rt rfl ?_
 simp only [E3, seval]
 first | exact ⟨rfl, _, rfl⟩ | exact ⟨_, rfl⟩ | exact ⟨trivial, _, rfl⟩
end
end Go.Abs
namespace Go.Abs
section
variable {x : Cx} {todo : List AItem} {env : Env} {R : AV → Heap → Prop} {H : Heap} {b : Option Blk}
theorem Safe.drop0 (hH : a0z H) (hx : x.n0 = H.length) (he : env.all (fun p => nref (lid H 0) p.2) = true) (hL : RC []) (h : Safe x todo env (hap H []) R) : Safe x todo env (hap H [b]) R := Safe.dropC (L := []) hH hx he hL h
end
theorem d0D (p : Nat → Prop) [DecidablePred p] : ∀ (n : Nat), (∀ i, i < n → p i) ∨ ∃ i, i < n ∧ ¬ p i ∧ ∀ j, j < i → p j
 | 0 => .inl fun i hi => absurd hi (by omega)
 | n + 1 => by
  rcases d0D p n with h | ⟨i, hi, h1, h2⟩
  ·by_cases hp : p n
   ·exact .inl fun i hi => by
     rcases Nat.lt_or_ge i n with h' | h'
     ·exact h i h'
     ·rw [show i = n by omega]; exact hp
   ·exact .inr ⟨n, by omega, hp, h⟩
  ·exact .inr ⟨i, by omega, h1, h2⟩
def Rect (b : List (List ZI)) : Prop := ∀ i, i < b.length → (mg b i).length = (mg b 0).length
def wid (b : List (List ZI)) : Nat := (mg b 0).length
theorem d5m (b : List (List ZI)) : Rect b ∨ ∃ i, i < b.length ∧ (mg b i).length ≠ (mg b 0).length ∧ ∀ j, j < i → (mg b j).length = (mg b 0).length :=
 d0D (fun i => (mg b i).length = (mg b 0).length) b.length
theorem c1O (H : Heap) (v : List (List ZI)) (k : IntKind) (h : 0 < v.length) : idxV H 1 (matV v) (.int k 0) = some (.ro (vecV v[0]) 0) := a9U H v k 0 h
def b8D (a : Nat) (f : Nat → Nat) : Nat → Nat
 | 0 => a
 | n + 1 => max (b8D a f n) (f n)
def b4z (b : List (List ZI)) : Nat → Nat
 | 0 => 0
 | i + 1 => b8D (b4z b i) (fun k => blen (zg (mg b i) k).natAbs) (mg b i).length
theorem e5g (a c : Nat) : (if (a : Int) < (c : Int) then (c : Int) else (a : Int)) = ((max a c : Nat) : Int) := by
 rcases Nat.lt_or_ge a c with h | h
 ·rw [if_pos (by omega), Nat.max_eq_right (by omega)]
 ·rw [if_neg (by omega), Nat.max_eq_left h]
def a1q (b : List (List ZI)) : List (List ZI) := mat b.length fun i => vec (mg b i).length fun k => zg (mg b i) k
theorem e5q (H : Heap) (i : Nat) (v : List ZI) (len : Nat) (oc : Option Nat) (h : len = v.length) : frz (lid H i) ⟨2, v.map ZI.av⟩ (.mu (lid H i) 0 len oc) = vecV v := a8F i 2 ZI.av v len oc h
theorem d9e (H : Heap) (i : Nat) (v : List (List ZI)) (len : Nat) (oc : Option Nat) (h : len = v.length) : frz (lid H i) ⟨1, v.map vecV⟩ (.mu (lid H i) 0 len oc) = matV v := a8F i 1 vecV v len oc h
theorem d2p (id : Nat) (b : Blk) (v : List (List ZI)) : (v.map vecV).map (frz id b) = v.map vecV := d9f id b vecV v a0x
end Go.Abs
namespace Go.Abs
theorem sign_zero {z : Int} (h : z = 0) : z.sign = 0 := by rw [h]; rfl
theorem d7s (z : Int) : (z.sign < 0) = (z < 0) := by
 rw [eq_iff_iff]
 rcases Int.lt_trichotomy z 0 with h | h | h
 ·rw [Int.sign_eq_neg_one_of_neg h]; simp [h]
 ·rw [h]; simp
 ·rw [Int.sign_eq_one_of_pos h]; constructor <;> intro <;> omega
theorem b1H (v : List ZI) (hv : Vok 17592186044416 v) : a0f Pr a3G [vecV v, .fn a8J []] (vecV (vec v.length fun i => zg v i)) :=
 d9s a8J [] v (fun i => zg v i) hv.len (by simp) fun i h => by
  have := d4I v[i] (hv.get h)
  rwa [← c5n h] at this
theorem one3 (a b c : AV) : b4u [a, b, c] = .tup [a, b, c] := rfl
theorem cl3i (a b c : Int) : Cl (.tup [.int .i64 a, .int .i64 b, .int .i64 c]) := b5Q (.int _ _) (.int _ _) (.int _ _)
theorem e4w {b : List (List ZI)} (hr : Rect b) {i : Nat} (hi : i < b.length) : (b[i].length : Int) = (b[0].length : Int) := by
 have := hr i hi
 rw [a5N hi, a5N (by omega)] at this
 omega
theorem e6G {b : List (List ZI)} (h : 0 < b.length) : wid b = b[0].length := by rw [wid, a5N h]
theorem c3U (b : List (List ZI)) (k : Nat) (hb : Mok k b) (hr : Rect b) : a0f Pr b1P [matV b] (.tup [.int .i64 b.length, .int .i64 (wid b), .int .i64 0]) := by
 have hbl := hb.len
 refine a0f.intro c0z c0y (Nat.le_of_ble_eq_true rfl) (cl3i _ _ _) fun H hH => ?_
 refine Safe.rg rfl ?_
 simp only [b3A, E3, seval]
 refine Safe.rg rfl ?_
 simp only [b3z, E3, seval]
 refine Safe.cd rfl ?_
 simp only [E3, seval]
 by_cases h0 : b.length = 0
 ·have h0' : (b.length : Int) = 0 := by omega
  have hw : wid b = 0 := by simp [wid, mg, List.length_eq_zero_iff.1 h0]
  simp only [h0', E3, seval]
  refine Safe.rg rfl ?_
  simp only [c0x, E3, seval]
  refine Safe.rt rfl ?_
  simp only [one3, h0', hw, Int.natCast_zero, E3, seval]
  first | exact ⟨rfl, _, rfl⟩ | exact ⟨_, rfl⟩ | exact ⟨trivial, _, rfl⟩
 ·have h0' : ¬ (b.length : Int) = 0 := by omega
  simp only [h0', E3, seval]
  refine Safe.rg rfl ?_
  simp only [b3y, E3, seval]
  refine Safe.lp rfl ?_
  refine Safe.keep [0, 10, 11, 12] ?_
  try simp only [E3, seval]
  refine Safe.loopN (b.length) (fun i => [(0, matV b), (10, matV b), (11, .int .i64 b.length), (12, .int .i64 i)]) (fun i => hap H []) rfl rfl (fun i hi ih => ?_) ?_
  ·have hlt : (i : Int) < (b.length : Int) := by omega
   have hiw : IntKind.wrap .i64 ((i : Int) + 1) = ((i + 1 : Nat) : Int) := by rw [a0e] <;> omega
   refine Safe.inLoop ?_
   refine Safe.rg rfl ?_
   simp only [a6k, hlt, E3, seval]
   refine Safe.cd rfl ?_
   simp only [E3, seval]
   refine Safe.rg rfl ?_
   simp only [a9v, a9U _ b _ i hi, E3, seval]
   refine Safe.rg rfl ?_
   simp only [a9u, c1O _ b _ (show 0 < b.length by omega), e4w hr hi, E3, seval]
   refine Safe.cd rfl ?_
   simp only [E3, seval]
   refine Safe.rg rfl ?_
   simp only [b3x, hiw, E3, seval]
   refine Safe.keep [0, 10, 11, 12] ?_
   simp only [E3, seval]
   exact ih
  ·refine Safe.inLoop ?_
   refine Safe.rg rfl ?_
   simp only [a6k, Int.lt_irrefl, E3, seval]
   refine Safe.cd rfl ?_
   simp only [E3, seval]
   refine Safe.rg rfl ?_
   simp only [c0v, c1O _ b _ (show 0 < b.length by omega), E3, seval]
   refine Safe.rt rfl ?_
   simp only [one3, e6G (show 0 < b.length by omega), E3, seval]
   first | exact ⟨rfl, _, rfl⟩ | exact ⟨_, rfl⟩ | exact ⟨trivial, _, rfl⟩
theorem b8B (b : List (List ZI)) (k : Nat) (hb : Mok k b) (hr : ¬ Rect b) : a0f Pr b1P [matV b] (.tup [.int .i64 0, .int .i64 0, .int .i64 8]) := by
 have hbl := hb.len
 rcases d5m b with h | ⟨m, hm, h1, h2⟩
 ·exact absurd h hr
 have h0' : ¬ (b.length : Int) = 0 := by omega
 refine a0f.intro c0z c0y (Nat.le_of_ble_eq_true rfl) (cl3i _ _ _) fun H hH => ?_
 refine Safe.rg rfl ?_
 simp only [b3A, E3, seval]
 refine Safe.rg rfl ?_
 simp only [b3z, h0', E3, seval]
 refine Safe.cd rfl ?_
 simp only [E3, seval]
 refine Safe.rg rfl ?_
 simp only [b3y, E3, seval]
 refine Safe.lp rfl ?_
 refine Safe.keep [0, 10, 11, 12] ?_
 try simp only [E3, seval]
 refine Safe.loopN (m) (fun i => [(0, matV b), (10, matV b), (11, .int .i64 b.length), (12, .int .i64 i)]) (fun i => hap H []) rfl rfl (fun i hi ih => ?_) ?_
 ·have hlt : (i : Int) < (b.length : Int) := by omega
  have he : (b[i].length : Int) = (b[0].length : Int) := by
   have := h2 i hi
   rw [a5N (by omega), a5N (by omega)] at this
   omega
  have hiw : IntKind.wrap .i64 ((i : Int) + 1) = ((i + 1 : Nat) : Int) := by rw [a0e] <;> omega
  refine Safe.inLoop ?_
  refine Safe.rg rfl ?_
  simp only [a6k, hlt, E3, seval]
  refine Safe.cd rfl ?_
  simp only [E3, seval]
  refine Safe.rg rfl ?_
  simp only [a9v, a9U _ b _ i (by omega), E3, seval]
  refine Safe.rg rfl ?_
  simp only [a9u, c1O _ b _ (show 0 < b.length by omega), he, E3, seval]
  refine Safe.cd rfl ?_
  simp only [E3, seval]
  refine Safe.rg rfl ?_
  simp only [b3x, hiw, E3, seval]
  refine Safe.keep [0, 10, 11, 12] ?_
  simp only [E3, seval]
  exact ih
 ·have hlt : (m : Int) < (b.length : Int) := by omega
  have he : ¬ (b[m].length : Int) = (b[0].length : Int) := by
   rw [a5N hm, a5N (by omega)] at h1
   omega
  refine Safe.inLoop ?_
  refine Safe.rg rfl ?_
  simp only [a6k, hlt, E3, seval]
  refine Safe.cd rfl ?_
  simp only [E3, seval]
  refine Safe.rg rfl ?_
  simp only [a9v, a9U _ b _ m hm, E3, seval]
  refine Safe.rg rfl ?_
  simp only [a9u, c1O _ b _ (show 0 < b.length by omega), he, E3, seval]
  refine Safe.cd rfl ?_
  simp only [E3, seval]
  refine Safe.rg rfl ?_
  simp only [c0w, E3, seval]
  refine Safe.rt rfl ?_
  simp only [one3, E3, seval]
  first | exact ⟨rfl, _, rfl⟩ | exact ⟨_, rfl⟩ | exact ⟨trivial, _, rfl⟩
theorem d5Y (b : List (List ZI)) (hb : Mok 17592186044416 b) : a0f Pr b9p [matV b] (.int .i64 (b4z b b.length)) := by
 have hbl := hb.len
 refine a0f.intro d2o d2l (Nat.le_of_ble_eq_true rfl) (.int _ _) fun H hH => ?_
 refine Safe.rg rfl ?_
 simp only [c4o, E3, seval]
 refine Safe.rg rfl ?_
 simp only [c4n, E3, seval]
 refine Safe.rg rfl ?_
 simp only [c4m, E3, seval]
 refine Safe.lp rfl ?_
 refine Safe.keep [3, 8, 9, 10] ?_
 try simp only [E3, seval]
 refine Safe.loopN (b.length) (fun i => [(3, .int .i64 (b4z b i)), (8, matV b), (9, .int .i64 b.length), (10, .int .i64 i)]) (fun i => hap H []) rfl rfl (fun i hi ih => ?_) ?_
 ·have hlt : (i : Int) < (b.length : Int) := by omega
  have hvl := (hb.get hi).len
  have hml : (mg b i).length = b[i].length := by rw [a5N hi]
  have hiw : IntKind.wrap .i64 ((i : Int) + 1) = ((i + 1 : Nat) : Int) := by rw [a0e] <;> omega
  refine Safe.inLoop ?_
  refine Safe.rg rfl ?_
  simp only [b5J, hlt, E3, seval]
  refine Safe.cd rfl ?_
  simp only [E3, seval]
  refine Safe.rg rfl ?_
  simp only [c4l, a9U _ b _ i hi, E3, seval]
  refine Safe.rg rfl ?_
  simp only [c4k, E3, seval]
  refine Safe.lp rfl ?_
  refine Safe.keep [3, 8, 9, 10, 14, 15, 16] ?_
  simp only [E3, seval]
  refine Safe.loopN (b[i].length) (fun j => [(3, .int .i64 (b8D (b4z b i) (fun k => blen (zg (mg b i) k).natAbs) j)), (8, matV b), (9, .int .i64 b.length), (10, .int .i64 i), (14, vecV b[i]), (15, .int .i64 b[i].length), (16, .int .i64 j)]) (fun j => hap H []) rfl rfl (fun j hj ih2 => ?_) ?_
  ·have hlt2 : (j : Int) < (b[i].length : Int) := by omega
   have hz : b[i][j].z = zg (mg b i) j := by rw [a5N hi, c5n hj]
   have hjw : IntKind.wrap .i64 ((j : Int) + 1) = ((j + 1 : Nat) : Int) := by rw [a0e] <;> omega
   refine Safe.inLoop ?_
   refine Safe.rg rfl ?_
   simp only [b5I, hlt2, E3, seval]
   refine Safe.cd rfl ?_
   simp only [E3, seval]
   refine Safe.rg rfl ?_
   simp only [c4j, b2D _ b[i] _ j hj, E3, seval]
   refine Safe.rg rfl ?_
   simp only [c4i, E3, seval]
   first | refine (b7U b[i][j] ((hb.get hi).get hj)).acall ?_ | refine (b7U b[i][j] ((hb.get hi).get hj)).dcall ?_ | refine (b7U b[i][j] ((hb.get hi).get hj)).dgcall ?_
   try simp only [E3, seval]
   simp only [gt_iff_lt, e5g, E3, seval]
   rw [hz]
   refine Safe.rg rfl ?_
   simp only [c4h, hjw, E3, seval]
   refine Safe.keep [3, 8, 9, 10, 14, 15, 16] ?_
   simp only [E3, seval]
   refine Safe.drop0 hH rfl (by simp only [List.all_cons, List.all_nil, E3, seval]) (by repeat (first | exact RC.nil | refine RC.none ?_ | refine RC.mo ?_ | refine RC.io ?_ | refine RC.row ZI.cl ?_ | refine RC.cons (a1I _) ?_ | refine RC.row a0x ?_ | refine RC.emp ?_ | refine RC.zero ?_ | refine RC.one (Z_cl _) ?_ | refine RC.one (ZI.cl _) ?_ | refine RC.one (a0x _) ?_)) ?_
   exact ih2
  ·refine Safe.inLoop ?_
   refine Safe.rg rfl ?_
   simp only [b5I, Int.lt_irrefl, E3, seval]
   refine Safe.cd rfl ?_
   simp only [E3, seval]
   refine Safe.rg rfl ?_
   simp only [c0B, hiw, E3, seval]
   refine Safe.keep [3, 8, 9, 10] ?_
   simp only [E3, seval]
   rw [b4z, hml] at ih
   exact ih
 ·refine Safe.inLoop ?_
  refine Safe.rg rfl ?_
  simp only [b5J, Int.lt_irrefl, E3, seval]
  refine Safe.cd rfl ?_
  simp only [E3, seval]
  refine Safe.rg rfl ?_
  simp only [c0A, E3, seval]
  refine Safe.rt rfl ?_
  simp only [E3, seval]
  first | exact ⟨rfl, _, rfl⟩ | exact ⟨_, rfl⟩ | exact ⟨trivial, _, rfl⟩
theorem d2d (v : List ZI) (hv : Vok 17592186044416 v) : a0f Pr a9R [vecV v] (vecV (vec v.length fun i => zg v i)) := by
 refine a0f.intro c8c c8b (Nat.le_of_ble_eq_true rfl) (a0x _) fun H hH => ?_
 refine Safe.rg rfl ?_
 simp only [b7j, E3, seval]
 refine Safe.rg rfl ?_
 simp only [b7i, E3, seval]
 first | refine (b1H v hv).acall ?_ | refine (b1H v hv).dcall ?_ | refine (b1H v hv).dgcall ?_
 try simp only [E3, seval]
 refine Safe.rt rfl ?_
 simp only [E3, seval]
 first | exact ⟨rfl, _, rfl⟩ | exact ⟨_, rfl⟩ | exact ⟨trivial, _, rfl⟩
theorem d5X (b : List (List ZI)) (hb : Mok 17592186044416 b) : a0f Pr b9o [matV b] (matV (a1q b)) := by
 have he := e5K a9R [] b (fun i => vec (mg b i).length fun k => zg (mg b i) k) hb.len (by simp) fun i h => by
  have := d2d b[i] (hb.get h)
  rw [a5N h]; exact this
 refine a0f.intro d2k d2j (Nat.le_of_ble_eq_true rfl) (a9V _) fun H hH => ?_
 refine Safe.rg rfl ?_
 simp only [c4g, E3, seval]
 refine Safe.rg rfl ?_
 simp only [c4f, E3, seval]
 first | refine (he).acall ?_ | refine (he).dcall ?_ | refine (he).dgcall ?_
 try simp only [E3, seval]
 refine Safe.rt rfl ?_
 simp only [E3, seval]
 first | exact ⟨rfl, _, rfl⟩ | exact ⟨_, rfl⟩ | exact ⟨trivial, _, rfl⟩
theorem d3M {b : List (List ZI)} {k : Nat} (hb : Mok k b) : Mok k (a1q b) := e4W hb.len fun i hi => c2f (hb.row i).len fun j _ => (hb.row i).abs j
end Go.Abs
namespace Go.Abs
section
variable {H L : Heap} {a b : Option Blk} {wd len j n : Nat} {X : List AV} {oc : Option Nat} {k : IntKind} {f : Nat → Int} {z : Int} {env : Env}
theorem d0i (h : j < len) : idxV (hap H (some ⟨wd, X⟩ :: L)) wd (.mu (lid H 0) 0 len oc) (.int k j) = some (.loc (lid H 0) j 0) := by
 rw [c3T H _ wd 0 0 len oc k j rfl rfl h, Nat.zero_add]
theorem d3q (h : j < n) : ((vec n f).map ZI.av).getD j .top = Z (f j) := by
 rw [List.getD_eq_getElem?_getD, List.getElem?_map, List.getElem?_eq_getElem (by rw [a0v]; exact h), d1s]
 rfl
theorem e7U (h : j < n) : atV (hap H (some ⟨2, (vec n f).map ZI.av⟩ :: L)) (.loc (lid H 0) j 0) = some (Z (f j)).cells := by
 rw [b1t H _ 0 j rfl (by rw [List.length_map, a0v]; exact h), d3q h]
end
end Go.Abs
namespace Go.Abs
theorem c8K {wd : Nat} {a : AV} (h : Cl a) : ∀ c ∈ (Blk.mk wd [a]).flat, Cl c := fun c hc => by
 simp only [Blk.flat, List.flatMap_cons, List.flatMap_nil, List.append_nil] at hc
 exact a5T h c hc
end Go.Abs
namespace Go.Abs
def a2j (H : Heap) (n k : Nat) : List AV := (List.range k).map fun j => .mu (lid H 0) (j * n) n (some n)
end Go.Abs
namespace Go.Abs
theorem e1Z {u v : List Nat} {n : Nat} (hu : Lim u) (hv : Lim v) (hun : u.length = n + 1) (hvn : v.length = n) (hn : 0 < n) (hv0 : 0 < val v) (hlt : val u < LB * val v) (ht : 0 < v.getD (n - 1) 0) :
  val u / val v ≤ min ((u.getD n 0 * LB + u.getD (n - 1) 0) / v.getD (n - 1) 0) (LB - 1) := by
 have hq1 : val u / val v ≤ LB - 1 := by
  have : val u / val v < LB := by rw [Nat.div_lt_iff_lt_mul hv0]; exact hlt
  omega
 refine Nat.le_min.2 ⟨?_, hq1⟩
 rw [Nat.le_div_iff_mul_le ht]
 have hs := b0b u (n - 1)
 have hsv := b0b v (n - 1)
 have hdu : val (u.drop (n - 1)) = u.getD (n - 1) 0 + LB * u.getD n 0 := by
  have e : u.drop (n - 1) = [u.getD (n - 1) 0, u.getD n 0] := by
   apply List.ext_getElem
   ·simp; omega
   ·intro i h1 h2
    match i with
    | 0 => simp [List.getD_eq_getElem?_getD, List.getElem?_eq_getElem (show n - 1 < u.length by omega)]
    | 1 =>
     simp only [List.getElem_drop, List.getElem_cons_succ, List.getElem_cons_zero]
     rw [List.getD_eq_getElem?_getD, List.getElem?_eq_getElem (show n < u.length by omega)]
     simp only [show n - 1 + 1 = n by omega]; rfl
    | i + 2 => simp at h2; omega
  rw [e]; simp [val]
 have hdv : val (v.drop (n - 1)) = v.getD (n - 1) 0 := by
  have e : v.drop (n - 1) = [v.getD (n - 1) 0] := by
   apply List.ext_getElem
   ·simp; omega
   ·intro i h1 h2
    match i with
    | 0 => simp [List.getD_eq_getElem?_getD, List.getElem?_eq_getElem (show n - 1 < v.length by omega)]
    | i + 1 => simp at h2
  rw [e]; simp [val]
 have htu := a5w hu (n - 1)
 have hle : val u / val v * val v ≤ val u := Nat.div_mul_le_self _ _
 generalize val u / val v = q at *
 generalize hP : LB ^ (n - 1) = P at *
 have hPp : 0 < P := by rw [← hP]; exact Nat.pow_pos (by decide)
 rw [hdu] at hs
 rw [hdv] at hsv
 generalize v.getD (n - 1) 0 = vt at *
 have e2 : LB * u.getD n 0 = u.getD n 0 * LB := Nat.mul_comm _ _
 generalize u.getD (n - 1) 0 = ua at *
 have hbig : q * vt * P < (u.getD n 0 * LB + ua + 1) * P := by
  have h1 : q * (P * vt) ≤ q * val v := Nat.mul_le_mul_left _ (by omega)
  have h2 : q * (P * vt) = q * vt * P := by rw [Nat.mul_comm P vt, Nat.mul_assoc]
  have h3 : (u.getD n 0 * LB + ua + 1) * P = P * (ua + LB * u.getD n 0) + P := by
   rw [Nat.add_mul, Nat.one_mul, Nat.mul_comm _ P, e2, Nat.add_comm ua]
  omega
 have := Nat.lt_of_mul_lt_mul_right hbig
 omega
end Go.Abs
namespace Go.Abs
def fl (n : Nat) (f : Nat → Nat) : List Nat := (List.range n).map f
def dig (M i : Nat) : Nat := M / LB ^ i % LB
theorem d4f (M i : Nat) : dig M i < LB := Nat.mod_lt _ (by decide)
theorem a1H (n : Nat) (f : Nat → Nat) : (fl n f).length = n := by simp [fl]
theorem c4L {n : Nat} {f : Nat → Nat} {i : Nat} (h : i < n) : (fl n f).getD i 0 = f i := by
 simp [fl, List.getD_eq_getElem?_getD, h]
theorem a4m {n : Nat} {f g : Nat → Nat} (h : ∀ i, i < n → f i = g i) : fl n f = fl n g := List.map_congr_left fun i hi => h i (List.mem_range.1 hi)
theorem d9m (n : Nat) (f : Nat → Nat) (i v : Nat) : (fl n f).set i v = fl n fun j => if j = i then v else f j := by
 apply List.ext_getElem
 ·simp [fl]
 ·intro j h1 h2
  rw [List.getElem_set]
  simp only [fl, List.getElem_map, List.getElem_range]
  by_cases h : i = j
  ·subst h; simp
  ·rw [if_neg h, if_neg (fun e => h e.symm)]
theorem e3B {n : Nat} {f : Nat → Nat} (h : ∀ i, i < n → f i < LB) : Lim (fl n f) := by
 intro d hd
 obtain ⟨i, hi, rfl⟩ := List.mem_map.1 hd
 exact h i (List.mem_range.1 hi)
theorem e5z (n : Nat) : List.replicate n 0 = fl n fun _ => 0 := by
 apply List.ext_getElem <;> simp [fl]
theorem d2F (n : Nat) (f : Nat → Nat) : fl (n + 1) f = fl n f ++ [f n] := by simp [fl, List.range_succ]
theorem e5A {l : List Nat} {n : Nat} (h : l.length = n) : l = fl n fun i => l.getD i 0 := by
 subst h
 apply List.ext_getElem
 ·simp [fl]
 ·intro i h1 h2; simp [fl, List.getD_eq_getElem?_getD, h1]
theorem d2E {n k : Nat} (f : Nat → Nat) (h : k ≤ n) : (fl n f).take k = fl k f := by
 apply List.ext_getElem
 ·simp [fl]; omega
 ·intro i h1 h2; simp [fl]
theorem e3j (M : Nat) : ∀ n, val (fl n (dig M)) = M % LB ^ n
 | 0 => by simp [fl, val, Nat.mod_one]
 | n + 1 => by
  rw [d2F, a7C, e3j M n, a1H, Nat.pow_succ, Nat.mod_mul]; rfl
theorem a8e {M n : Nat} (h : M < LB ^ n) : val (fl n (dig M)) = M := by rw [e3j, Nat.mod_eq_of_lt h]
theorem a5P (M n : Nat) : Lim (fl n (dig M)) := e3B fun i _ => d4f M i
theorem d9y {l : List Nat} (hl : Lim l) (i : Nat) : dig (val l) i = l.getD i 0 := by
 unfold dig
 rw [b0b l i]
 rcases Nat.lt_or_ge l.length i with h | h
 ·have : l.drop i = [] := List.drop_eq_nil_of_le (by omega)
  rw [this, List.take_of_length_le (by omega), b7x (by omega)]
  simp only [val, Nat.mul_zero, Nat.add_zero]
  have h2 : val l < LB ^ i := Nat.lt_of_lt_of_le (a1Z hl) (Nat.pow_le_pow_right (by decide) (by omega))
  rw [Nat.div_eq_of_lt h2]; rfl
 ·have h1 := a5w hl i
  rw [Nat.add_mul_div_left _ _ (a7I i), Nat.div_eq_of_lt h1, Nat.zero_add]
  have : l.getD i 0 = (l.drop i).getD 0 0 := by rw [d9a, Nat.add_zero]
  rw [this]
  cases hd : l.drop i with
  | nil => rfl
  | cons d r =>
   have hlt : d < LB := (hl.drop i) d (by rw [hd]; simp)
   simp only [val, List.getD_cons_zero]
   rw [Nat.add_mul_mod_self_left, Nat.mod_eq_of_lt hlt]
theorem b8K {l : List Nat} (hl : Lim l) {n : Nat} (h : l.length = n) : l = fl n (dig (val l)) := by
 rw [e5A h]
 refine a4m fun i _ => ?_
 rw [← e5A h, d9y hl]
theorem b4i {M i : Nat} (h : M < LB ^ i) : dig M i = 0 := by unfold dig; rw [Nat.div_eq_of_lt h]; rfl
theorem d9z (M a i : Nat) : dig (M / LB ^ a) i = dig M (a + i) := by
 unfold dig; rw [Nat.div_div_eq_div_mul, ← Nat.pow_add]
theorem c4O {M a i : Nat} (K : Nat) (h : i < a) : dig (M + LB ^ a * K) i = dig M i := by
 unfold dig
 have : LB ^ a * K = LB ^ i * (LB * (LB ^ (a - i - 1) * K)) := by
  rw [← Nat.mul_assoc LB, ← Nat.pow_succ', Nat.succ_eq_add_one, show a - i - 1 + 1 = a - i by omega, ← Nat.mul_assoc, ← Nat.pow_add, show i + (a - i) = a by omega]
 rw [this, Nat.add_mul_div_left _ _ (a7I i), Nat.add_mul_mod_self_left]
theorem e7i {x y : Nat} (k : Nat) (hx : x < 2 ^ (64 - k)) (hk : k ≤ 64) (hy : y < 2 ^ k) : (BitVec.ofInt 64 ((x * 2 ^ k : Nat) : Int) ||| BitVec.ofInt 64 ((y : Nat) : Int)).toNat = x * 2 ^ k + y := by
 have e : 2 ^ 64 = 2 ^ (64 - k) * 2 ^ k := by rw [← Nat.pow_add]; congr 1; omega
 have hx2 : x * 2 ^ k < 2 ^ 64 := by rw [e]; exact Nat.mul_lt_mul_of_pos_right hx (Nat.pow_pos (by decide))
 have hy2 : y < 2 ^ 64 := Nat.lt_of_lt_of_le hy (Nat.pow_le_pow_right (by decide) hk)
 rw [BitVec.toNat_or]
 simp only [BitVec.ofInt_natCast, BitVec.toNat_ofNat]
 rw [Nat.mod_eq_of_lt hx2, Nat.mod_eq_of_lt hy2]
 have := Nat.shiftLeft_add_eq_or_of_lt hy x
 rw [Nat.shiftLeft_eq] at this
 exact this.symm
theorem e1u {x y : Nat} (k : Nat) (hx : x < 2 ^ (32 - k)) (hk : k ≤ 32) (hy : y < 2 ^ k) : (BitVec.ofInt 32 ((y : Nat) : Int) ||| BitVec.ofInt 32 ((x * 2 ^ k : Nat) : Int)).toNat = x * 2 ^ k + y := by
 have e : 2 ^ 32 = 2 ^ (32 - k) * 2 ^ k := by rw [← Nat.pow_add]; congr 1; omega
 have hx2 : x * 2 ^ k < 2 ^ 32 := by rw [e]; exact Nat.mul_lt_mul_of_pos_right hx (Nat.pow_pos (by decide))
 have hy2 : y < 2 ^ 32 := Nat.lt_of_lt_of_le hy (Nat.pow_le_pow_right (by decide) hk)
 rw [BitVec.toNat_or]
 simp only [BitVec.ofInt_natCast, BitVec.toNat_ofNat]
 rw [Nat.mod_eq_of_lt hx2, Nat.mod_eq_of_lt hy2, Nat.or_comm]
 have := Nat.shiftLeft_add_eq_or_of_lt hy x
 rw [Nat.shiftLeft_eq] at this
 exact this.symm
theorem d1C (B d L : Nat) : (B / L % d) * L + B % L = B - d * ((B / L / d) * L) ∧ d * ((B / L / d) * L) ≤ B := by
 have h1 := Nat.mod_add_div B L
 have h2 := Nat.mod_add_div (B / L) d
 have h3 : (B / L % d) * L + (d * (B / L / d)) * L = B / L * L := by rw [← Nat.add_mul, h2]
 have h4 : B / L * L = L * (B / L) := Nat.mul_comm _ _
 have h5 : d * (B / L / d * L) = (d * (B / L / d)) * L := (Nat.mul_assoc _ _ _).symm
 omega
theorem e6T (B d L : Nat) : ((B / L % d) * L + B % L) % d = B % d := by
 rw [(d1C B d L).1, Nat.sub_mul_mod (d1C B d L).2]
theorem e6U (B d L : Nat) : ((B / L % d) * L + B % L) / d = B / d % L := by
 rw [(d1C B d L).1, Nat.sub_mul_div]
 have h2 : B / L / d = B / d / L := by rw [Nat.div_div_eq_div_mul, Nat.mul_comm, ← Nat.div_div_eq_div_mul]
 rw [h2]
 have h4 := Nat.mod_add_div (B / d) L
 have h5 : L * (B / d / L) = B / d / L * L := Nat.mul_comm _ _
 omega
theorem b3L (A i : Nat) : A / LB ^ (i + 1) = A / LB ^ i / LB := by rw [Nat.pow_succ, Nat.div_div_eq_div_mul]
theorem d7u (A d i : Nat) : ((A / LB ^ (i + 1) % d) * LB + dig A i) % d = A / LB ^ i % d := by
 rw [b3L]; exact e6T _ _ _
theorem d7v (A d i : Nat) : ((A / LB ^ (i + 1) % d) * LB + dig A i) / d = dig (A / d) i := by
 rw [b3L]
 have e : dig (A / d) i = A / LB ^ i / d % LB := by unfold dig; rw [Nat.div_div_eq_div_mul, Nat.mul_comm d, ← Nat.div_div_eq_div_mul]
 rw [e]
 exact e6U _ _ _
end Go.Abs
namespace Go.Abs
theorem a3P {x : Nat} (h : x < 18446744073709551616) : IntKind.wrap .u64 (x : Int) = (x : Int) := a1B (by omega) (by omega)
theorem c9h {x : Nat} (h : x < 9223372036854775808) : IntKind.wrap .i64 (x : Int) = (x : Int) := a0e (by omega) (by omega)
theorem d7M {x y : Nat} (h : 0 < y) (hx : x < 18446744073709551616) : binV .quo (.int .u64 (x : Int)) (.int .u64 (y : Int)) = some (.int .u64 ((x / y : Nat) : Int)) := by
 rw [c2a _ _ _ (by omega), Int.tdiv_eq_ediv_of_nonneg (by omega)]
 have h2 : x / y ≤ x := Nat.div_le_self _ _
 have : (x : Int) / (y : Int) = ((x / y : Nat) : Int) := rfl
 rw [this, a3P (by omega)]
theorem e4v {x y : Nat} (h : 0 < y) : binV .rem (.int .u64 (x : Int)) (.int .u64 (y : Int)) = some (.int .u64 ((x % y : Nat) : Int)) := by
 rw [c1Z _ _ _ (by omega), Int.tmod_eq_emod_of_nonneg (by omega)]; rfl
theorem e6X {x y : Nat} (h : 0 < y) (hx : x < 9223372036854775808) : binV .quo (.int .i64 (x : Int)) (.int .i64 (y : Int)) = some (.int .i64 ((x / y : Nat) : Int)) := by
 rw [c2a _ _ _ (by omega), Int.tdiv_eq_ediv_of_nonneg (by omega)]
 have h2 : x / y ≤ x := Nat.div_le_self _ _
 have : (x : Int) / (y : Int) = ((x / y : Nat) : Int) := rfl
 rw [this, c9h (by omega)]
theorem e6W {x y : Nat} (h : 0 < y) : binV .rem (.int .i64 (x : Int)) (.int .i64 (y : Int)) = some (.int .i64 ((x % y : Nat) : Int)) := by
 rw [c1Z _ _ _ (by omega), Int.tmod_eq_emod_of_nonneg (by omega)]; rfl
theorem c5G {x : Nat} (h : x < LB) : IntKind.wrap .u32 (x : Int) = (x : Int) := a9d (by omega) (by have : LB = 4294967296 := rfl; omega)
theorem b7V {x y : Nat} (h : x + y < 18446744073709551616) : IntKind.wrap .u64 ((x : Int) + (y : Int)) = ((x + y : Nat) : Int) := by rw [a1B (by omega) (by omega)]; omega
theorem d4M {x y : Nat} (h : x * y < 18446744073709551616) : IntKind.wrap .u64 ((x : Int) * (y : Int)) = ((x * y : Nat) : Int) := by
 rw [← Int.natCast_mul]; exact a3P h
theorem e6S {x n : Nat} (hx : x < LB) (hn : n < 33) : b2n .shl .u64 (x : Int) (n : Int) = some (.int .u64 ((x * 2 ^ n : Nat) : Int)) := by
 rw [d7w _ _ _ (by omega)]
 have hm : min (Int.toNat (n : Int)) IntKind.u64.bits = n := by
  show min n 64 = n
  omega
 rw [hm]
 have h2 : x * 2 ^ n < 18446744073709551616 := by
  have h3 : 2 ^ n ≤ 2 ^ 32 := Nat.pow_le_pow_right (by decide) (by omega)
  have h4 : x * 2 ^ n ≤ x * 2 ^ 32 := Nat.mul_le_mul_left _ h3
  have : LB = 4294967296 := rfl
  have : (2 : Nat) ^ 32 = 4294967296 := by decide
  omega
 have : (x : Int) * 2 ^ n = ((x * 2 ^ n : Nat) : Int) := by simp
 rw [this, a3P h2]
theorem e4j {x : Nat} (hx : x < LB) : b2n .shl .u64 (x : Int) 32 = some (.int .u64 ((x * LB : Nat) : Int)) := e6S (n := 32) hx (by decide)
theorem e6Q {x n : Nat} (hn : n ≤ 64) : b2n .shr .u64 (x : Int) (n : Int) = some (.int .u64 ((x / 2 ^ n : Nat) : Int)) := by
 rw [a6h _ _ _ (by omega)]
 have hm : min (Int.toNat (n : Int)) IntKind.u64.bits = n := by
  show min n 64 = n
  omega
 rw [hm, Int.fdiv_eq_ediv_of_nonneg _ (by exact Int.pow_nonneg (by decide))]
 have : (2 : Int) ^ n = ((2 ^ n : Nat) : Int) := by simp
 rw [this]; rfl
theorem d7t (x : Nat) : b2n .shr .u64 (x : Int) 32 = some (.int .u64 ((x / LB : Nat) : Int)) := e6Q (n := 32) (by decide)
theorem c2z {x y : Nat} (hx : x < LB) (hy : y < LB) : IntKind.wrap .u64 (((BitVec.ofInt (IntKind.bits .u64) ((x * LB : Nat) : Int) ||| BitVec.ofInt (IntKind.bits .u64) (y : Int)).toNat : Nat) : Int) = ((x * LB + y : Nat) : Int) := by
 have h := e7i (x := x) (y := y) 32 hx (by decide) hy
 have e : (2 : Nat) ^ 32 = LB := by decide
 rw [e] at h
 have h' : (BitVec.ofInt (IntKind.bits .u64) ((x * LB : Nat) : Int) ||| BitVec.ofInt (IntKind.bits .u64) (y : Int)).toNat = x * LB + y := h
 rw [h', a3P (by
  have : LB = 4294967296 := rfl
  have : x * LB ≤ 4294967295 * LB := Nat.mul_le_mul_right _ (by omega)
  omega)]
theorem d4L {x y : Nat} (hx : x < LB) (hy : y < LB) : IntKind.wrap .u64 (((BitVec.ofInt (IntKind.bits .u64) (y : Int) ||| BitVec.ofInt (IntKind.bits .u64) ((x * LB : Nat) : Int)).toNat : Nat) : Int) = ((x * LB + y : Nat) : Int) := by
 rw [BitVec.or_comm]; exact c2z hx hy
theorem d6M {x y : Nat} (k : Nat) (hx : x < 2 ^ (32 - k)) (hk : k ≤ 32) (hy : y < 2 ^ k) : IntKind.wrap .u32 (((BitVec.ofInt (IntKind.bits .u32) (y : Int) ||| BitVec.ofInt (IntKind.bits .u32) ((x * 2 ^ k : Nat) : Int)).toNat : Nat) : Int) = ((x * 2 ^ k + y : Nat) : Int) := by
 have h : (BitVec.ofInt (IntKind.bits .u32) (y : Int) ||| BitVec.ofInt (IntKind.bits .u32) ((x * 2 ^ k : Nat) : Int)).toNat = x * 2 ^ k + y := e1u k hx hk hy
 rw [h, c5G]
 have e : 2 ^ 32 = 2 ^ (32 - k) * 2 ^ k := by rw [← Nat.pow_add]; congr 1; omega
 have h1 : (x + 1) * 2 ^ k ≤ 2 ^ (32 - k) * 2 ^ k := Nat.mul_le_mul_right _ hx
 rw [← e, Nat.add_mul] at h1
 have : LB = 2 ^ 32 := by decide
 omega
section
variable {H L : Heap} {n j len : Nat} {f : Nat → Nat} {oc : Option Nat} {k : IntKind} {env : Env}
theorem e2o (h : j < len) {X : List AV} : idxV (hap H (some ⟨1, X⟩ :: L)) 1 (.mu (lid H 0) 0 len oc) (.int k j) = some (.loc (lid H 0) j 0) := by
 rw [c3T H _ 1 0 0 len oc k j rfl rfl h, Nat.zero_add]
theorem e8s {a : Option Blk} (h : j < len) {X : List AV} : idxV (hap H (a :: some ⟨1, X⟩ :: L)) 1 (.mu (lid H 1) 0 len oc) (.int k j) = some (.loc (lid H 1) j 0) := by
 rw [c3T H _ 1 1 0 len oc k j rfl rfl h, Nat.zero_add]
theorem fat0 (h : j < n) : atV (hap H (some ⟨1, u32s (fl n f)⟩ :: L)) (.loc (lid H 0) j 0) = some [.int .u32 (f j : Nat)] := by
 rw [b1t H _ 0 j rfl (by rw [a0G, a1H]; exact h)]
 simp only [b2E (l := fl n f) (i := j) (by rw [a1H]; exact h), c4L h, AV.cells]
theorem fst0 (h : j < n) (d : Nat) : a5f 1 (.loc (lid H 0) j 0) (.int .u32 (d : Int)) env (hap H (some ⟨1, u32s (fl n f)⟩ :: L)) = some (.top, env, hap H (some ⟨1, u32s (fl n fun i => if i = j then d else f i)⟩ :: L)) := by
 rw [a5x env H _ 1 0 j 0 _ rfl (by rw [a0G, a1H]; exact h) rfl rfl (Nat.le_refl 1)]
 simp only [a4a, c1A, List.set_cons_zero, d9m]
theorem fst1 {a : Option Blk} (h : j < n) (d : Nat) : a5f 1 (.loc (lid H 1) j 0) (.int .u32 (d : Int)) env (hap H (a :: some ⟨1, u32s (fl n f)⟩ :: L)) = some (.top, env, hap H (a :: some ⟨1, u32s (fl n fun i => if i = j then d else f i)⟩ :: L)) := by
 rw [a5x env H _ 1 1 j 0 _ rfl (by rw [a0G, a1H]; exact h) rfl rfl (Nat.le_refl 1)]
 simp only [a4a, c1A, List.set_cons_succ, List.set_cons_zero, d9m]
theorem c7Y {k' : IntKind} (h : n ≤ 35184372088832) : d2c 1 4 (.int .u32 0) (.int k n) (.int k' n) env (hap H L) = some (.mu (lid H L.length) 0 n (some n), env, hap H (L ++ [some ⟨1, u32s (fl n fun _ => 0)⟩])) := by
 rw [b4d env H L k k' n h, e5z]
theorem d9g (i : Nat) : frz (lid H i) ⟨1, u32s (fl n f)⟩ (.mu (lid H i) 0 n oc) = natV (fl n f) := by
 have := b4h H i (fl n f) oc
 rwa [a1H] at this
end
end Go.Abs
namespace Go.Abs
theorem d0I {n : Nat} (M : Nat) : (fl n fun j => if n ≤ j then dig M j else 0) = fl n fun _ => 0 := a4m fun i hi => if_neg (by omega)
theorem d0J {n i : Nat} (M : Nat) : (fl n fun j => if j = i then dig M i else if i + 1 ≤ j then dig M j else 0) = fl n fun j => if i ≤ j then dig M j else 0 := a4m fun j _ => by
 by_cases h : j = i
 ·subst h; rw [if_pos rfl, if_pos (Nat.le_refl _)]
 ·rw [if_neg h]
  by_cases h2 : i + 1 ≤ j
  ·rw [if_pos h2, if_pos (by omega)]
  ·rw [if_neg h2, if_neg (by omega)]
theorem d4e {n : Nat} (M : Nat) : (fl n fun j => if 0 ≤ j then dig M j else 0) = fl n (dig M) := a4m fun j _ => if_pos (Nat.zero_le _)
theorem c7n {A n d : Nat} (h : A < LB ^ n) : A / d < LB ^ n := Nat.lt_of_le_of_lt (Nat.div_le_self _ _) h
theorem b5f (a : List Nat) (d : Nat) (ha : Nt a) (hd : 0 < d) (hd2 : d < LB) : a0f Pr a8M [natV a, .int .u32 d] (.tup [natV (limbs (val a / d)), .int .u32 (val a % d : Nat)]) := by
 have hLB : LB = 4294967296 := rfl
 have hlen := ha.len
 have hv := a1Z ha.lim
 refine a0f.intro b9Z b9Y (Nat.le_of_ble_eq_true rfl) (b5R (a2R _) (.int _ _)) fun H hH => ?_
 refine Safe.rg rfl ?_
 simp only [b2Z, E3, seval]
 refine Safe.rg rfl ?_
 simp only [b2Y, c7Y (H := H) (L := []) (n := a.length) (by omega), E3, seval]
 refine Safe.rg rfl ?_
 simp only [b2X, E3, seval]
 refine Safe.rg rfl ?_
 simp only [b2W, a0e (n := (a.length : Int) - 1) (by omega) (by omega), E3, seval]
 refine Safe.lp rfl ?_
 refine Safe.keep [0, 1, 6, 7, 8] ?_
 simp only [E3, seval]
 refine Safe.loopD a.length (fun i => [(0, natV a), (1, .int .u32 d), (6, .mu (lid H 0) 0 a.length (some a.length)), (7, .int .u64 (val a / LB ^ i % d : Nat)), (8, .int .i64 ((i : Int) - 1))])
  (fun i => hap H [some ⟨1, u32s (fl a.length fun j => if i ≤ j then dig (val a / d) j else 0)⟩]) ?_ ?_ (fun i hi ih => ?_) ?_
 ·rw [Nat.div_eq_of_lt hv]; rfl
 ·rw [d0I]
 ·have e1 : ((i + 1 : Nat) : Int) - 1 = (i : Int) := by omega
  rw [e1]
  refine Safe.inLoop ?_
  refine Safe.rg rfl ?_
  simp only [a6j, Int.natCast_nonneg i, E3, seval]
  refine Safe.cd rfl ?_
  simp only [E3, seval]
  have hr : val a / LB ^ (i + 1) % d < LB := Nat.lt_trans (Nat.mod_lt _ hd) hd2
  have hai : a.getD i 0 < LB := a2p ha.lim i
  refine Safe.rg rfl ?_
  simp only [b2V, a0T _ a _ i hi, e4j hr, a3P (x := a.getD i 0) (by omega), c2z hr hai, E3, seval]
  rw [← d9y ha.lim i]
  have hs := d7u (val a) d i
  have hq := d7v (val a) d i
  have hb : val a / LB ^ (i + 1) % d * LB + dig (val a) i < 18446744073709551616 := by
   have := d4f (val a) i
   have : val a / LB ^ (i + 1) % d * LB ≤ 4294967295 * LB := Nat.mul_le_mul_right _ (by omega)
   omega
  refine Safe.rg rfl ?_
  simp only [b2U, a3P (x := d) (by omega), d7M hd hb, hq, c5G (d4f _ _), e2o hi, fst0 hi, E3, seval]
  refine Safe.rg rfl ?_
  simp only [b2T, a3P (x := d) (by omega), e4v hd, hs, E3, seval]
  refine Safe.rg rfl ?_
  simp only [b2S, a0e (n := (i : Int) - 1) (by omega) (by omega), E3, seval]
  refine Safe.keep [0, 1, 6, 7, 8] ?_
  simp only [E3, seval]
  rw [d0J]
  exact ih
 ·refine Safe.inLoop ?_
  refine Safe.rg rfl ?_
  simp only [a6j, show (0 ≤ ((0 : Nat) : Int) - 1) = False by simp, E3, seval]
  refine Safe.cd rfl ?_
  simp only [E3, seval]
  refine Safe.freeze 0 hH rfl rfl (a1I _) ?_
  refine Safe.keep [6, 7] ?_
  simp only [d9g, E3, seval]
  rw [d4e]
  have hr : val a % d < LB := Nat.lt_trans (Nat.mod_lt _ hd) hd2
  refine Safe.rg rfl ?_
  simp only [b2R, E3, seval]
  first | refine (a0o _ (a5P _ _) (by rw [a1H]; exact hlen)).acall ?_ | refine (a0o _ (a5P _ _) (by rw [a1H]; exact hlen)).dcall ?_ | refine (a0o _ (a5P _ _) (by rw [a1H]; exact hlen)).dgcall ?_
  try simp only [E3, seval]
  simp only [a8e (c7n hv (d := d)), Nat.pow_zero, Nat.div_one, c5G hr, E3, seval]
  refine Safe.rt rfl ?_
  simp only [E3, seval]
  first | exact ⟨rfl, _, rfl⟩ | exact ⟨_, rfl⟩ | exact ⟨trivial, _, rfl⟩
theorem c8D (n : Nat) (h : n < LB) : a0f Pr a1N [.int .u32 n] (.int .i64 ((32 - blen n : Nat) : Int)) := by
 have hLB : LB = 4294967296 := rfl
 have hb : blen n ≤ 32 := by
  rcases Nat.lt_or_ge 32 (blen n) with hc | hc
  ·exfalso
   have h0 : n ≠ 0 := by rintro rfl; simp [d0S] at hc
   have := c5c h0
   have h2 : 2 ^ 32 ≤ 2 ^ (blen n - 1) := Nat.pow_le_pow_right (by decide) (by omega)
   have : (2 : Nat) ^ 32 = LB := by decide
   omega
  ·exact hc
 refine a0f.intro a8C a8B (Nat.le_of_ble_eq_true rfl) (.int _ _) fun H hH => ?_
 refine Safe.rg rfl ?_
 simp only [a2T, E3, seval]
 refine Safe.rg rfl ?_
 simp only [a2S, E3, seval]
 first | refine (b4g n (by omega)).acall ?_ | refine (b4g n (by omega)).dcall ?_ | refine (b4g n (by omega)).dgcall ?_
 try simp only [E3, seval]
 have hw : IntKind.wrap .i64 ((32 : Int) - ((blen n : Nat) : Int)) = ((32 - blen n : Nat) : Int) := by rw [a0e] <;> omega
 simp only [hw, E3, seval]
 refine Safe.rt rfl ?_
 simp only [E3, seval]
 first | exact ⟨rfl, _, rfl⟩ | exact ⟨_, rfl⟩ | exact ⟨trivial, _, rfl⟩
section
variable {H L : Heap} {id : Nat} {b : Blk}
theorem lrow (h : H[id]? = some (some b)) : hrow (hap H L) id = some b := by
 have hlt := a0k h
 rw [c8s _ _ _ hlt]
 unfold hrow; rw [h]; rfl
theorem llen (h : H[id]? = some (some b)) (off len : Nat) (oc : Option Nat) : lenV (hap H L) (.mu id off len oc) = some (.int .i64 len) := by rw [c8h, lrow h]; rfl
theorem lidx (h : H[id]? = some (some b)) {wd off len j : Nat} (hw : b.wd = wd) (oc : Option Nat) (k : IntKind) (hj : j < len) : idxV (hap H L) wd (.mu id off len oc) (.int k j) = some (.loc id (off + j) 0) := by
 rw [c8r _ _ _ _ _ _ _ _ (by omega) (by omega), lrow h]; simp [hw]
theorem lat (h : H[id]? = some (some b)) {j : Nat} (hj : j < b.xs.length) : atV (hap H L) (.loc id j 0) = some (b.xs.getD j .top).cells := by rw [b3U, lrow h]; simp [hj]
theorem lslc (h : H[id]? = some (some b)) {wd off len n : Nat} (hw : b.wd = wd) (oc : Option Nat) (k : IntKind) (hn : n ≤ len) : slcV (hap H L) wd (.mu id off len oc) none (some (.int k n)) none = some (.mu id off n oc) := by
 simp only [slcV, lrow h, Option.bind_some, a3T]
 rw [if_pos ⟨hw, by omega, by omega, by omega⟩]
 cases oc <;> simp
theorem d8S {i : Nat} (h : L[i]? = some (some b)) : (hap H L)[lid H i]? = some (some b) := by
 unfold hap lid
 rw [List.getElem?_append_right (by omega), Nat.add_sub_cancel_left]; exact h
end
theorem e3Z (X : List Nat) (hX : Lim X) (hb : X.length ≤ 17592186044416) {H : Heap} {id : Nat} (h : H[id]? = some (some ⟨1, u32s X⟩)) (n : Nat) (hn : n = X.length) (oc : Option Nat) :
  a0h Pr a0t [.mu id 0 n oc] H fun r' H' => r' = .mu id 0 (limbs (val X)).length oc ∧ H' = H := by
 subst hn
 have hid := a0k h
 refine a0h.eff c2Z c2X (Nat.le_of_ble_eq_true rfl) fun hH => ?_
 have kk : ∀ k : Nat, k ≤ X.length → val (X.take k) = val X → Safe ⟨Pr, fun _ _ => false, a0t, 21, [.tmp 2], H.length⟩ [.inLoop c2Y, .inBlock 0, .code ((ACode.region a5M false).seq ACode.ret)] [(0, .mu id 0 k oc)] (hap H [])
   fun r' H' => ∃ H1 L, H' = hap H1 L ∧ H1.length = H.length ∧ a0z H1 ∧ Ref (· < H.length) r' ∧ r' = .mu id 0 (limbs (val X)).length oc ∧ H1 = H := by
  have stop : ∀ (k : Nat) (env : Env), k ≤ X.length → val (X.take k) = val X → ((X.take k).getLast?).getD 1 ≠ 0 → look env 0 = .mu id 0 k oc → Safe ⟨Pr, fun _ _ => false, a0t, 21, [.tmp 2], H.length⟩ [.code ((ACode.region a5M false).seq ACode.ret)] env (hap H [])
    fun r' H' => ∃ H1 L, H' = hap H1 L ∧ H1.length = H.length ∧ a0z H1 ∧ Ref (· < H.length) r' ∧ r' = .mu id 0 (limbs (val X)).length oc ∧ H1 = H := by
   intro k env hk hv hl h0
   refine Safe.rg rfl ?_
   simp only [a5M, h0, E3, seval]
   refine Safe.rt rfl ?_
   simp only [E3, seval]
   refine ⟨H, [], rfl, rfl, hH, .mu _ _ _ _ hid, ?_, rfl⟩
   rw [← hv, b0l (hX.take k) hl, List.length_take, Nat.min_eq_left hk]
  intro k
  induction k with
  | zero =>
   intro hk hv
   refine Safe.inLoop ?_
   refine Safe.rg rfl ?_
   simp only [a8v, llen h, show ((0 : Int) < ((0 : Nat) : Int)) = False by simp, E3, seval]
   refine Safe.cd rfl ?_
   simp only [E3, seval]
   refine Safe.exit rfl ?_
   exact stop 0 _ hk hv (by simp) (by simp only [E3, seval])
  | succ k ih =>
   intro hk hv
   refine Safe.inLoop ?_
   have hw : IntKind.i64.wrap (((k + 1 : Nat) : Int) - 1) = (k : Int) := by rw [a0e] <;> omega
   have hp : (0 < ((k + 1 : Nat) : Int)) = True := eq_true (by omega)
   have hat := lat (L := []) h (j := k) (by rw [a0G]; omega)
   rw [b2E (by omega)] at hat
   refine Safe.rg rfl ?_
   simp only [a8v, llen h, hw, hp, lidx h rfl oc .i64 (Nat.lt_succ_self k), hat, E3, seval]
   have hlast : ((X.take (k + 1)).getLast?).getD 1 = X.getD k 0 := by rw [b6x (by omega)]; simp
   by_cases hd : X.getD k 0 = 0
   ·have e : (((X.getD k 0 : Nat) : Int) = 0) = True := eq_true (by omega)
    refine Safe.cd rfl ?_
    simp only [e, E3, seval]
    refine Safe.rg rfl ?_
    simp only [b5n, llen h, hw, lslc h rfl oc .i64 (Nat.le_succ k), E3, seval]
    refine Safe.inBlock ?_
    refine Safe.keep [0] ?_
    simp only [E3, seval]
    refine ih (by omega) ?_
    rw [← hv, a0w, hd]; simp
   ·have e : (((X.getD k 0 : Nat) : Int) = 0) = False := eq_false (by omega)
    refine Safe.cd rfl ?_
    simp only [e, E3, seval]
    refine Safe.exit rfl ?_
    exact stop (k + 1) _ hk hv (by rw [hlast]; exact hd) (by simp only [E3, seval])
 refine Safe.rg rfl ?_
 simp only [b5o, E3, seval]
 refine Safe.lp rfl ?_
 refine Safe.keep [0] ?_
 simp only [E3, seval]
 exact kk X.length (Nat.le_refl _) (by rw [List.take_length])
theorem e0Q {l : List Nat} (hl : Lim l) {i n : Nat} (hi : i < l.length) (hn : n < 32) (j : Nat) :
  (if j = i + 1 then l.getD i 0 * 2 ^ n / LB else if j = i then l.getD i 0 % 2 ^ (32 - n) * 2 ^ n + dig (val (l.take i) * 2 ^ n) i else dig (val (l.take i) * 2 ^ n) j) = dig (val (l.take (i + 1)) * 2 ^ n) j := by
 have hLB : LB = 2 ^ (32 - n) * 2 ^ n := by rw [← Nat.pow_add, show 32 - n + n = 32 by omega]
 have hp : 0 < 2 ^ n := Nat.pow_pos (by decide)
 have hai := a2p hl i
 have hM := a5w hl i
 rw [a0w, Nat.add_mul]
 have e : LB ^ i * l.getD i 0 * 2 ^ n = LB ^ i * (l.getD i 0 * 2 ^ n) := Nat.mul_assoc _ _ _
 rw [e]
 generalize l.getD i 0 = a at *
 generalize hV : val (l.take i) = V at *
 have hy : V * 2 ^ n / LB ^ i < 2 ^ n := by
  rw [Nat.div_lt_iff_lt_mul (a7I i), Nat.mul_comm]
  exact Nat.mul_lt_mul_of_pos_left hM hp
 have h2n : 2 ^ n ≤ LB := by rw [hLB]; exact Nat.le_mul_of_pos_left _ (Nat.pow_pos (by decide))
 have hmod : a * 2 ^ n % LB = a % 2 ^ (32 - n) * 2 ^ n := by rw [hLB, Nat.mul_mod_mul_right]
 have hx : a % 2 ^ (32 - n) * 2 ^ n + V * 2 ^ n / LB ^ i < LB := by
  have h1 : (a % 2 ^ (32 - n) + 1) * 2 ^ n ≤ 2 ^ (32 - n) * 2 ^ n := Nat.mul_le_mul_right _ (Nat.mod_lt _ (Nat.pow_pos (by decide)))
  rw [← hLB, Nat.add_mul] at h1
  omega
 have hs : (V * 2 ^ n + LB ^ i * (a * 2 ^ n)) / LB ^ i = V * 2 ^ n / LB ^ i + a * 2 ^ n := Nat.add_mul_div_left _ _ (a7I i)
 have hdm := Nat.mod_add_div (a * 2 ^ n) LB
 rw [hmod] at hdm
 by_cases h1 : j = i + 1
 ·rw [if_pos h1, h1]
  unfold dig
  rw [b3L, hs]
  have h3 : (V * 2 ^ n / LB ^ i + a * 2 ^ n) / LB = a * 2 ^ n / LB := by
   conv => lhs; rw [← hdm, ← Nat.add_assoc, Nat.add_mul_div_left _ _ (show 0 < LB by decide)]
   rw [Nat.div_eq_of_lt (by omega), Nat.zero_add]
  rw [h3, Nat.mod_eq_of_lt]
  rw [Nat.div_lt_iff_lt_mul (by decide)]
  exact Nat.lt_of_lt_of_le (Nat.mul_lt_mul_of_pos_right hai hp) (Nat.mul_le_mul_left _ h2n)
 ·rw [if_neg h1]
  by_cases h2 : j = i
  ·rw [if_pos h2, h2]
   have h5 : (V * 2 ^ n / LB ^ i + a * 2 ^ n) % LB = V * 2 ^ n / LB ^ i + a % 2 ^ (32 - n) * 2 ^ n := by
    have : V * 2 ^ n / LB ^ i + a * 2 ^ n = (V * 2 ^ n / LB ^ i + a % 2 ^ (32 - n) * 2 ^ n) + LB * (a * 2 ^ n / LB) := by omega
    rw [this, Nat.add_mul_mod_self_left, Nat.mod_eq_of_lt (by omega)]
   unfold dig
   rw [hs, h5, Nat.mod_eq_of_lt (show V * 2 ^ n / LB ^ i < LB by omega), Nat.add_comm]
  ·rw [if_neg h2]
   rcases Nat.lt_or_ge j i with h3 | h3
   ·exact (c4O _ h3).symm
   ·have hbig : LB ^ (i + 1) * LB ≤ LB ^ j := by
     rw [← Nat.pow_succ]; exact Nat.pow_le_pow_right (by decide) (by omega)
    have hlow : V * 2 ^ n < LB ^ (i + 1) := by
     rw [Nat.pow_succ]
     exact Nat.lt_of_lt_of_le (Nat.mul_lt_mul_of_pos_right hM hp) (Nat.mul_le_mul_left _ h2n)
    have hall : V * 2 ^ n + LB ^ i * (a * 2 ^ n) < LB ^ (i + 1) * LB := by
     have q1 : V * 2 ^ n + LB ^ i * (a * 2 ^ n) = (V + LB ^ i * a) * 2 ^ n := by rw [Nat.add_mul, Nat.mul_assoc]
     have q2 : LB ^ i * (a + 1) ≤ LB ^ (i + 1) := by rw [Nat.pow_succ]; exact Nat.mul_le_mul_left _ hai
     rw [Nat.mul_add, Nat.mul_one] at q2
     rw [q1]
     exact Nat.lt_of_lt_of_le (Nat.mul_lt_mul_of_pos_right (show V + LB ^ i * a < LB ^ (i + 1) by omega) hp) (Nat.mul_le_mul_left _ h2n)
    have hL1 : LB ^ (i + 1) ≤ LB ^ (i + 1) * LB := Nat.le_mul_of_pos_right _ (by decide)
    rw [b4i (by omega), b4i (by omega)]
theorem a0h.introH {P : Program} {mu : Nat → Nat → Bool} {f : FuncId} {fn : Func} (hf : P.funcs[f]? = some fn) {ac : ACode} {rs : List ResV} {nt : Nat} (hc : fchk P mu fn = some (ac, rs, nt))
  {args : List AV} {H : Heap} {R : AV → Heap → Prop} (ha : args.length ≤ nt) (h : a0z H → Safe ⟨P, mu, f, nt, rs, H.length⟩ [.code ac] (b2o 0 args) (hap H []) R) : a0h P f args H R := a0h.intro hf hc ha fun hH => by
 have := h hH
 rw [a1Y] at this
 exact this
theorem c9r (a : List Nat) (n : Nat) (ha : Nt a) (hal : a.length < 17592186044416) (hv : val a ≠ 0) (hn : n < 32) (H : Heap) : a0h Pr b7R [natV a, .int .i64 n] H fun r' H' =>
  r' = .mu (lid H 0) 0 (limbs (val a * 2 ^ n)).length (some ((limbs (val a)).length + 1)) ∧ H' = hap H [some ⟨1, u32s (fl ((limbs (val a)).length + 1) (dig (val a * 2 ^ n)))⟩] := by
 have hlb : (limbs (val a)).length < 17592186044416 := Nat.lt_of_le_of_lt (a3g ha.lim) hal
 have hlim := a0H (val a)
 have hval := a0q (val a)
 have hne : (limbs (val a)).length ≠ 0 := by
  intro h0
  have := List.length_eq_zero_iff.1 h0
  rw [this] at hval
  exact hv hval.symm
 have hLB : LB = 4294967296 := rfl
 refine a0h.introH d5C d5A (Nat.le_of_ble_eq_true rfl) fun hH => ?_
 refine Safe.rg rfl ?_
 simp only [c6g, E3, seval]
 refine Safe.rg rfl ?_
 simp only [c6f, E3, seval]
 first | refine (a0o a ha.lim ha.len).acall ?_ | refine (a0o a ha.lim ha.len).dcall ?_ | refine (a0o a ha.lim ha.len).dgcall ?_
 try simp only [E3, seval]
 generalize limbs (val a) = l at *
 generalize val a = A at *
 subst hval
 have h0 : ((l.length : Int) = 0) = False := eq_false (by omega)
 refine Safe.rg rfl ?_
 simp only [c6e, h0, E3, seval]
 refine Safe.cd rfl ?_
 simp only [E3, seval]
 have hq : binV .quo (.int .i64 (n : Int)) (.int .i64 32) = some (.int .i64 0) := by
  have := e6X (x := n) (y := 32) (by decide) (by omega)
  rw [Nat.div_eq_of_lt hn] at this; exact this
 have hr : binV .rem (.int .i64 (n : Int)) (.int .i64 32) = some (.int .i64 (n : Int)) := by
  have := e6W (x := n) (y := 32) (by decide)
  rw [Nat.mod_eq_of_lt hn] at this; exact this
 refine Safe.rg rfl ?_
 simp only [c6d, hq, hr, a3P (x := n) (by omega), E3, seval]
 have w1 : IntKind.wrap .i64 ((l.length : Int) + 0) = (l.length : Int) := by rw [Int.add_zero]; exact c9h (by omega)
 have w2 : IntKind.wrap .i64 ((l.length : Int) + 1) = ((l.length + 1 : Nat) : Int) := by rw [a0e] <;> omega
 refine Safe.rg rfl ?_
 simp only [c6c, w1, w2, c7Y (H := H) (L := []) (n := l.length + 1) (by omega), E3, seval]
 refine Safe.rg rfl ?_
 simp only [c6b, E3, seval]
 refine Safe.lp rfl ?_
 refine Safe.keep [0, 5, 6, 7, 27, 28] ?_
 simp only [E3, seval]
 refine Safe.loopN l.length (fun i => [(0, natV l), (5, .int .i64 0), (6, .int .u64 (n : Int)), (7, .mu (lid H 0) 0 (l.length + 1) (some (l.length + 1))), (27, .int .i64 l.length), (28, .int .i64 i)])
  (fun i => hap H [some ⟨1, u32s (fl (l.length + 1) (dig (val (l.take i) * 2 ^ n)))⟩]) rfl ?_ (fun i hi ih => ?_) ?_
 ·congr 5
  refine a4m fun j _ => ?_
  simp [dig, val]
 ·have hlt : ((i : Int) < (l.length : Int)) = True := eq_true (by omega)
  refine Safe.inLoop ?_
  refine Safe.rg rfl ?_
  simp only [b8s, hlt, E3, seval]
  refine Safe.cd rfl ?_
  simp only [E3, seval]
  have hai := a2p hlim i
  refine Safe.rg rfl ?_
  simp only [c6a, E3, seval]
  refine Safe.rg rfl ?_
  simp only [c5Z, a0T _ l _ i hi, a3P (x := l.getD i 0) (by omega), e6S hai (show n < 33 by omega), E3, seval]
  have w3 : IntKind.wrap .i64 ((i : Int) + 0) = (i : Int) := by rw [Int.add_zero]; exact c9h (by omega)
  have w4 : IntKind.wrap .i64 ((i : Int) + 1) = ((i + 1 : Nat) : Int) := by rw [a0e] <;> omega
  have hLB2 : LB = 2 ^ (32 - n) * 2 ^ n := by rw [← Nat.pow_add, show 32 - n + n = 32 by omega]
  have w5 : IntKind.wrap .u32 ((l.getD i 0 * 2 ^ n : Nat) : Int) = ((l.getD i 0 % 2 ^ (32 - n) * 2 ^ n : Nat) : Int) := by
   rw [a2O]; congr 1
   rw [hLB2, Nat.mul_mod_mul_right]
  have hy : dig (val (l.take i) * 2 ^ n) i < 2 ^ n := by
   unfold dig
   refine Nat.lt_of_le_of_lt (Nat.mod_le _ _) ?_
   rw [Nat.div_lt_iff_lt_mul (a7I i), Nat.mul_comm]
   exact Nat.mul_lt_mul_of_pos_left (a5w hlim i) (Nat.pow_pos (by decide))
  have w6 := d6M (x := l.getD i 0 % 2 ^ (32 - n)) n (Nat.mod_lt _ (Nat.pow_pos (by decide))) (by omega) hy
  refine Safe.rg rfl ?_
  simp only [c3e, w3, e2o (show i < l.length + 1 by omega), fat0 (show i < l.length + 1 by omega), w5, w6, fst0 (show i < l.length + 1 by omega), E3, seval]
  have hq2 : l.getD i 0 * 2 ^ n / LB < LB := by
   rw [Nat.div_lt_iff_lt_mul (by decide)]
   have h2n : 2 ^ n ≤ LB := by rw [hLB2]; exact Nat.le_mul_of_pos_left _ (Nat.pow_pos (by decide))
   exact Nat.lt_of_lt_of_le (Nat.mul_lt_mul_of_pos_right hai (Nat.pow_pos (by decide))) (Nat.mul_le_mul_left _ h2n)
  refine Safe.rg rfl ?_
  simp only [c3d, w3, w4, d7t, c5G hq2, e2o (show i + 1 < l.length + 1 by omega), fst0 (show i + 1 < l.length + 1 by omega), E3, seval]
  refine Safe.rg rfl ?_
  simp only [c3c, w4, E3, seval]
  refine Safe.keep [0, 5, 6, 7, 27, 28] ?_
  simp only [E3, seval]
  rw [a4m fun j _ => e0Q hlim hi hn j]
  exact ih
 ·refine Safe.inLoop ?_
  refine Safe.rg rfl ?_
  simp only [b8s, Int.lt_irrefl, E3, seval]
  refine Safe.cd rfl ?_
  simp only [E3, seval]
  rw [List.take_length]
  refine Safe.rg rfl ?_
  simp only [c3b, E3, seval]
  have hb : val l * 2 ^ n < LB ^ (l.length + 1) := by
   rw [Nat.pow_succ]
   have h2n : 2 ^ n ≤ LB := by
    have : LB = 2 ^ (32 - n) * 2 ^ n := by rw [← Nat.pow_add, show 32 - n + n = 32 by omega]
    rw [this]; exact Nat.le_mul_of_pos_left _ (Nat.pow_pos (by decide))
   exact Nat.lt_of_lt_of_le (Nat.mul_lt_mul_of_pos_right (a1Z hlim) (Nat.pow_pos (by decide))) (Nat.mul_le_mul_left _ h2n)
  refine a0h.mono (e3Z _ (a5P _ _) (by rw [a1H]; omega) (d8S rfl) (l.length + 1) (a1H _ _).symm (some (l.length + 1))) ?_
  rintro r' H' ⟨rfl, rfl⟩
  rw [a8e hb]
  simp only [E3, seval]
  refine Safe.rt rfl ?_
  simp only [E3, seval]
theorem a3Z (l : List Nat) (i : Nat) : val (l.drop i) = l.getD i 0 + LB * val (l.drop (i + 1)) := by
 rcases Nat.lt_or_ge i l.length with h | h
 ·rw [List.drop_eq_getElem_cons h, List.getD_eq_getElem?_getD, List.getElem?_eq_getElem h]; rfl
 ·rw [List.drop_eq_nil_of_le h, List.drop_eq_nil_of_le (by omega), b7x h]; rfl
theorem d1t {l : List Nat} (hl : Lim l) (i : Nat) : val l / LB ^ i = val (l.drop i) := by
 rw [b0b l i, Nat.add_mul_div_left _ _ (a7I i), Nat.div_eq_of_lt (a5w hl i), Nat.zero_add]
theorem e0P {l : List Nat} (hl : Lim l) (i : Nat) {n : Nat} (hn : n < 32) : (l.getD (i + 1) 0 * LB + l.getD i 0) / 2 ^ n % LB = dig (val l / 2 ^ n) i := by
 have hLB : LB = 2 ^ (32 - n) * 2 ^ n := by rw [← Nat.pow_add, show 32 - n + n = 32 by omega]
 unfold dig
 rw [Nat.div_div_eq_div_mul, Nat.mul_comm (2 ^ n), ← Nat.div_div_eq_div_mul, d1t hl, a3Z, a3Z l (i + 1)]
 have e : l.getD i 0 + LB * (l.getD (i + 1) 0 + LB * val (l.drop (i + 1 + 1))) = (l.getD (i + 1) 0 * LB + l.getD i 0) + 2 ^ n * (LB * (2 ^ (32 - n) * val (l.drop (i + 1 + 1)))) := by
  have h1 : LB * (LB * val (l.drop (i + 1 + 1))) = 2 ^ n * (LB * (2 ^ (32 - n) * val (l.drop (i + 1 + 1)))) := by
   conv => lhs; rw [Nat.mul_left_comm]; lhs; rw [hLB]
   rw [Nat.mul_comm (2 ^ (32 - n)), Nat.mul_assoc]
   congr 1
   rw [Nat.mul_left_comm]
  rw [Nat.mul_add, h1, Nat.mul_comm LB (l.getD (i + 1) 0)]
  omega
 rw [e, Nat.add_mul_div_left _ _ (Nat.pow_pos (by decide)), Nat.add_mul_mod_self_left]
theorem c7K (a : List Nat) (n : Nat) (ha : Nt a) (hn : n < 32) : a0f Pr b7Q [natV a, .int .i64 n] (natV (limbs (val a / 2 ^ n))) := by
 have hlb := ha.limbs.len
 have hlim := a0H (val a)
 have hval := a0q (val a)
 have hLB : LB = 4294967296 := rfl
 refine a0f.introL d5y d5x (Nat.le_of_ble_eq_true rfl) (a2R _) fun H hH => ?_
 refine Safe.rg rfl ?_
 simp only [c5X, E3, seval]
 refine Safe.rg rfl ?_
 simp only [c5W, E3, seval]
 first | refine (a0o a ha.lim ha.len).acall ?_ | refine (a0o a ha.lim ha.len).dcall ?_ | refine (a0o a ha.lim ha.len).dgcall ?_
 try simp only [E3, seval]
 generalize limbs (val a) = l at *
 generalize val a = A at *
 subst hval
 have hq : binV .quo (.int .i64 (n : Int)) (.int .i64 32) = some (.int .i64 0) := by
  have := e6X (x := n) (y := 32) (by decide) (by omega)
  rw [Nat.div_eq_of_lt hn] at this; exact this
 have hr : binV .rem (.int .i64 (n : Int)) (.int .i64 32) = some (.int .i64 (n : Int)) := by
  have := e6W (x := n) (y := 32) (by decide)
  rw [Nat.mod_eq_of_lt hn] at this; exact this
 refine Safe.rg rfl ?_
 simp only [c5V, hq, hr, a3P (x := n) (by omega), E3, seval]
 by_cases h0 : l.length = 0
 ·have hc : ((l.length : Int) ≤ 0) = True := eq_true (by omega)
  refine Safe.rg rfl ?_
  simp only [b8r, hc, E3, seval]
  refine Safe.cd rfl ?_
  simp only [E3, seval]
  refine Safe.rg rfl ?_
  simp only [c5U, E3, seval]
  have : l = [] := List.length_eq_zero_iff.1 h0
  subst this
  refine Safe.rt rfl ?_
  simp only [E3, seval]
  refine ⟨?_, [], rfl⟩
  have : limbs (val [] / 2 ^ n) = [] := by simp [val, a0R]
  rw [this]
  exact Le.nil 1 (by decide)
 ·have hc : ((l.length : Int) ≤ 0) = False := eq_false (by omega)
  refine Safe.rg rfl ?_
  simp only [b8r, hc, E3, seval]
  refine Safe.cd rfl ?_
  simp only [E3, seval]
  have w1 : IntKind.wrap .i64 ((l.length : Int) - 0) = (l.length : Int) := by rw [Int.sub_zero]; exact c9h (by omega)
  refine Safe.rg rfl ?_
  simp only [c5T, w1, c7Y (H := H) (L := []) (n := l.length) (by omega), E3, seval]
  refine Safe.rg rfl ?_
  simp only [c5S, e4O, E3, seval]
  refine Safe.lp rfl ?_
  refine Safe.keep [0, 5, 6, 7, 27, 28] ?_
  simp only [E3, seval]
  refine Safe.loopN l.length (fun i => [(0, natV l), (5, .int .i64 0), (6, .int .u64 (n : Int)), (7, .mu (lid H 0) 0 l.length (some l.length)), (27, .int .i64 l.length), (28, .int .i64 i)])
   (fun i => hap H [some ⟨1, u32s (fl l.length fun j => if j < i then dig (val l / 2 ^ n) j else 0)⟩]) rfl ?_ (fun i hi ih => ?_) ?_
  ·congr 5
  ·have hlt : ((i : Int) < (l.length : Int)) = True := eq_true (by omega)
   refine Safe.inLoop ?_
   refine Safe.rg rfl ?_
   simp only [b8q, hlt, E3, seval]
   refine Safe.cd rfl ?_
   simp only [E3, seval]
   have hai := a2p hlim i
   have hai1 := a2p hlim (i + 1)
   have w3 : IntKind.wrap .i64 ((i : Int) + 0) = (i : Int) := by rw [Int.add_zero]; exact c9h (by omega)
   have w4 : IntKind.wrap .i64 ((i : Int) + 1) = ((i + 1 : Nat) : Int) := by rw [a0e] <;> omega
   refine Safe.rg rfl ?_
   simp only [c5R, E3, seval]
   refine Safe.rg rfl ?_
   simp only [c5Q, a0T _ l _ i hi, a3P (x := l.getD i 0) (by omega), w3, E3, seval]
   have rest : ∀ env : Env, look env 0 = natV l → look env 5 = .int .i64 0 → look env 6 = .int .u64 (n : Int) → look env 7 = .mu (lid H 0) 0 l.length (some l.length) → look env 27 = .int .i64 l.length → look env 28 = .int .i64 i → look env 8 = .int .i64 i →
     look env 9 = .int .u64 (l.getD (i + 1) 0 * LB + l.getD i 0 : Nat) → Safe ⟨Pr, fun _ _ => false, b7Q, 66, [.tmp 4], H.length⟩ [.code (.region b5r false), .inBlock 1, .code (.region b5q false), .inLoop c5Y, .inBlock 0, .code ((ACode.region b5p false).seq .ret)]
      env (hap H [some ⟨1, u32s (fl l.length fun j => if j < i then dig (val l / 2 ^ n) j else 0)⟩]) fun r' H' => Le r' (natV (limbs (val l / 2 ^ n))) ∧ ∃ L, H' = hap H L := by
    intro env e0 e5 e6 e7 e27 e28 e8 e9
    have w5 := a2O ((l.getD (i + 1) 0 * LB + l.getD i 0) / 2 ^ n)
    rw [e0P hlim i hn] at w5
    refine Safe.rg rfl ?_
    simp only [b5r, e7, e8, e9, e6, e6Q (show n ≤ 64 by omega), w5, e2o hi, fst0 hi, E3, seval]
    refine Safe.inBlock ?_
    refine Safe.rg rfl ?_
    simp only [b5q, e28, w4, E3, seval]
    refine Safe.keep [0, 5, 6, 7, 27, 28] ?_
    simp only [E3, seval]
    simp only [e0, e5, e6, e7, e27]
    rw [show (fl l.length fun j => if j = i then dig (val l / 2 ^ n) i else if j < i then dig (val l / 2 ^ n) j else 0) = fl l.length fun j => if j < i + 1 then dig (val l / 2 ^ n) j else 0 from a4m fun j _ => by
     by_cases h : j = i
     ·subst h; rw [if_pos rfl, if_pos (by omega)]
     ·rw [if_neg h]
      by_cases h2 : j < i
      ·rw [if_pos h2, if_pos (by omega)]
      ·rw [if_neg h2, if_neg (by omega)]]
    exact ih
   by_cases h1 : i + 1 < l.length
   ·have hlt1 : (((i + 1 : Nat) : Int) < (l.length : Int)) = True := eq_true (by omega)
    refine Safe.rg rfl ?_
    simp only [b5s, w3, w4, hlt1, E3, seval]
    refine Safe.cd rfl ?_
    simp only [E3, seval]
    refine Safe.rg rfl ?_
    simp only [c3a, w3, w4, a0T _ l _ (i + 1) h1, a3P (x := l.getD (i + 1) 0) (by omega), e4j hai1, d4L hai1 hai, E3, seval]
    exact rest _ (by simp only [E3, seval]) (by simp only [E3, seval]) (by simp only [E3, seval]) (by simp only [E3, seval]) (by simp only [E3, seval]) (by simp only [E3, seval]) (by simp only [E3, seval]) (by simp only [E3, seval])
   ·have hlt1 : (((i + 1 : Nat) : Int) < (l.length : Int)) = False := eq_false (by omega)
    refine Safe.rg rfl ?_
    simp only [b5s, w3, w4, hlt1, E3, seval]
    refine Safe.cd rfl ?_
    simp only [E3, seval]
    have hz : l.getD (i + 1) 0 * LB + l.getD i 0 = l.getD i 0 := by rw [b7x (a := l) (i := i + 1) (by omega)]; omega
    refine Safe.skip (rest _ (by simp only [E3, seval]) (by simp only [E3, seval]) (by simp only [E3, seval]) (by simp only [E3, seval]) (by simp only [E3, seval]) (by simp only [E3, seval]) (by simp only [E3, seval]) (by rw [hz]; simp only [E3, seval]))
  ·refine Safe.inLoop ?_
   refine Safe.rg rfl ?_
   simp only [b8q, Int.lt_irrefl, E3, seval]
   refine Safe.cd rfl ?_
   simp only [E3, seval]
   refine Safe.freeze 0 hH rfl rfl (a1I _) ?_
   refine Safe.keep [7] ?_
   simp only [d9g, E3, seval]
   rw [show (fl l.length fun j => if j < l.length then dig (val l / 2 ^ n) j else 0) = fl l.length (dig (val l / 2 ^ n)) from a4m fun j hj => if_pos hj]
   refine Safe.rg rfl ?_
   simp only [b5p, E3, seval]
   first | refine (a0o _ (a5P _ _) (by rw [a1H]; omega)).acall ?_ | refine (a0o _ (a5P _ _) (by rw [a1H]; omega)).dcall ?_ | refine (a0o _ (a5P _ _) (by rw [a1H]; omega)).dgcall ?_
   try simp only [E3, seval]
   simp only [a8e (c7n (a1Z hlim) (d := 2 ^ n)), E3, seval]
   refine Safe.rt rfl ?_
   simp only [E3, seval]
   exact ⟨Le.refl _, _, rfl⟩
def xr (g : Nat → Nat) (off : Nat) (x : List Nat) : Nat → Nat := fun j => if off ≤ j ∧ j < off + x.length then x.getD (j - off) 0 else g j
section
variable {g : Nat → Nat} {off N : Nat} {x y : List Nat}
theorem e3h : xr g off [] = g := by funext j; unfold xr; rw [if_neg (by simp)]
theorem d6L (d : Nat) : (fun j => if j = off + x.length then d else xr g off x j) = xr g off (x ++ [d]) := by
 funext j; unfold xr
 rw [List.length_append, List.length_singleton]
 by_cases h : j = off + x.length
 ·subst h; rw [if_pos rfl, if_pos (by omega), Nat.add_sub_cancel_left]; simp
 ·rw [if_neg h]
  by_cases h2 : off ≤ j ∧ j < off + x.length
  ·rw [if_pos h2, if_pos (by omega)]
   simp only [List.getD_eq_getElem?_getD]
   rw [List.getElem?_append_left (by omega)]
  ·rw [if_neg h2, if_neg (by omega)]
theorem e6D : xr g off x (off + x.length) = g (off + x.length) := by unfold xr; rw [if_neg (by omega)]
theorem e8g (hg : ∀ i, i < N → g i < LB) (hx : Lim x) : ∀ i, i < N → xr g off x i < LB := by
 intro i hi; unfold xr; split
 ·exact a2p hx _
 ·exact hg i hi
theorem e6C : fl x.length (fun i => xr g off x (off + i)) = x := by
 refine Eq.trans ?_ (e5A (l := x) rfl).symm
 refine a4m fun i hi => ?_
 unfold xr; rw [if_pos (by omega), Nat.add_sub_cancel_left]
theorem e8f (h : x.length = y.length) : xr (xr g off x) off y = xr g off y := by
 funext j; unfold xr; rw [h]
 split
 ·rfl
 ·rfl
end
section
variable {H L : Heap} {id N : Nat} {f : Nat → Nat} (hid : id < H.length)
include hid
theorem ofat {j : Nat} (h : j < N) : atV (hap (H.set id (some ⟨1, u32s (fl N f)⟩)) L) (.loc id j 0) = some [.int .u32 (f j : Nat)] := by
 rw [e7m hid _ j (by rw [a0G, a1H]; exact h)]
 simp only [b2E (l := fl N f) (i := j) (by rw [a1H]; exact h), c4L h, AV.cells]
theorem ofst {env : Env} {j : Nat} (h : j < N) (d : Nat) : a5f 1 (.loc id j 0) (.int .u32 (d : Int)) env (hap (H.set id (some ⟨1, u32s (fl N f)⟩)) L) = some (.top, env, hap (H.set id (some ⟨1, u32s (fl N fun i => if i = j then d else f i)⟩)) L) := by
 rw [e7l hid env _ 1 j _ (by rw [a0G, a1H]; exact h) rfl rfl (Nat.le_refl 1)]
 simp only [a4a, c1A, d9m]
end
noncomputable abbrev digX (n0 : Nat) : Cx := ⟨Pr, fun _ _ => false, b1O, 117, [.tmp 4], n0⟩
theorem d9x {H : Heap} {id off N n : Nat} {oc : Option Nat} {v : List Nat} {g : Nat → Nat} {todo : List AItem} {R : AV → Heap → Prop} {q b : Nat} (hid : id < H.length) (hv : Lim v) (hn : v.length = n) (hoff : off + n + 1 ≤ N) (hN : N ≤ 17592186044416) (hg : ∀ i, i < N → g i < LB)
  (k : ∀ y c, y.length = n + 1 → Lim y → c ≤ 1 → val y + LB ^ (n + 1) * c = val (fl (n + 1) fun i => g (off + i)) + val v →
   Safe (digX H.length) todo [(0, .mu id off (n + 1) oc), (1, natV v), (5, .int .i64 n), (7, .int .u64 q), (9, .int .u64 b), (13, .int .u64 c)] (hap (H.set id (some ⟨1, u32s (fl N (xr g off y))⟩)) []) R) :
  Safe (digX H.length) (.inLoop a9g :: .inBlock 4 :: todo) [(0, .mu id off (n + 1) oc), (1, natV v), (5, .int .i64 n), (7, .int .u64 q), (9, .int .u64 b), (13, .int .u64 0), (83, .int .i64 ((n + 1 : Nat) : Int)), (84, .int .i64 0)] (hap (H.set id (some ⟨1, u32s (fl N g)⟩)) []) R := by
 have hLB : LB = 4294967296 := rfl
 have key : ∀ (m i c : Nat) (y : List Nat), i + m = n + 1 → y.length = i → Lim y → c ≤ 1 → val y + LB ^ i * c = val ((fl (n + 1) fun i => g (off + i)).take i) + val (v.take i) →
   Safe (digX H.length) (.inLoop a9g :: .inBlock 4 :: todo) [(0, .mu id off (n + 1) oc), (1, natV v), (5, .int .i64 n), (7, .int .u64 q), (9, .int .u64 b), (13, .int .u64 c), (83, .int .i64 ((n + 1 : Nat) : Int)), (84, .int .i64 i)] (hap (H.set id (some ⟨1, u32s (fl N (xr g off y))⟩)) []) R := by
  intro m
  induction m with
  | zero =>
   intro i c y him hy ly hc hval
   have hi : i = n + 1 := by omega
   subst hi
   refine Safe.inLoop ?_
   refine Safe.rg rfl ?_
   simp only [b1m, Int.lt_irrefl, E3, seval]
   refine Safe.cd rfl ?_
   simp only [E3, seval]
   refine Safe.exit rfl ?_
   refine Safe.keep [0, 1, 5, 7, 9, 13] ?_
   simp only [E3, seval]
   refine k y c hy ly hc ?_
   rw [hval, List.take_of_length_le (l := fl _ _) (by rw [a1H]; omega), List.take_of_length_le (l := v) (by omega)]
  | succ m ih =>
   intro i c y him hy ly hc hval
   have hlt : ((i : Int) < ((n + 1 : Nat) : Int)) = True := eq_true (by omega)
   refine Safe.inLoop ?_
   refine Safe.rg rfl ?_
   simp only [b1m, hlt, E3, seval]
   refine Safe.cd rfl ?_
   simp only [E3, seval]
   have hgi : g (off + i) < LB := hg _ (by omega)
   have hxi : xr g off y (off + i) = g (off + i) := by subst hy; exact e6D
   have hvi := a2p hv i
   refine Safe.rg rfl ?_
   simp only [b6S, E3, seval]
   refine Safe.rg rfl ?_
   simp only [b6R, b8m hid 1 _ off (n + 1) i oc .i64 (show i < n + 1 by omega), ofat hid (show off + i < N by omega), hxi, a3P (x := g (off + i)) (by omega), b7V (x := c) (y := g (off + i)) (by omega), E3, seval]
   have rest : ∀ env : Env, look env 0 = .mu id off (n + 1) oc → look env 1 = natV v → look env 5 = .int .i64 n → look env 7 = .int .u64 q → look env 9 = .int .u64 b → look env 83 = .int .i64 ((n + 1 : Nat) : Int) → look env 84 = .int .i64 i → look env 14 = .int .i64 i → look env 13 = .int .u64 (c + g (off + i) + v.getD i 0 : Nat) →
     Safe (digX H.length) (.code (.seq (.region b1k false) (.region b1j false)) :: .inBlock 5 :: .code (.region b1i false) :: .inLoop a9g :: .inBlock 4 :: todo) env (hap (H.set id (some ⟨1, u32s (fl N (xr g off y))⟩)) []) R := by
    intro env e0 e1 e5 e7 e9 e83 e84 e14 e13
    have w5 := a2O (c + g (off + i) + v.getD i 0)
    refine Safe.rg rfl ?_
    simp only [b1k, e0, e14, e13, w5, b8m hid 1 _ off (n + 1) i oc .i64 (show i < n + 1 by omega), ofst hid (show off + i < N by omega), E3, seval]
    refine Safe.rg rfl ?_
    simp only [b1j, e13, d7t, E3, seval]
    refine Safe.inBlock ?_
    have w4 : IntKind.wrap .i64 ((i : Int) + 1) = ((i + 1 : Nat) : Int) := by rw [a0e] <;> omega
    refine Safe.rg rfl ?_
    simp only [b1i, e84, w4, E3, seval]
    refine Safe.keep [0, 1, 5, 7, 9, 13, 83, 84] ?_
    simp only [E3, seval]
    simp only [e0, e1, e5, e7, e9, e83]
    rw [← hy, d6L, hy]
    refine ih (i + 1) _ _ (by omega) (by simp [hy]) (a3Q ly (Nat.mod_lt _ (by decide))) ?_ ?_
    ·have : c + g (off + i) + v.getD i 0 < LB * 2 := by omega
     have := Nat.div_lt_of_lt_mul this
     omega
    ·rw [a7C, hy, a0w, a0w, Nat.pow_succ, c4L (by omega)]
     exact d3r (i := 0) hval
   by_cases hin : i < n
   ·have hl2 : ((i : Int) < (n : Int)) = True := eq_true (by omega)
    refine Safe.rg rfl ?_
    simp only [b1l, hl2, E3, seval]
    refine Safe.cd rfl ?_
    simp only [E3, seval]
    refine Safe.rg rfl ?_
    simp only [b6Q, a0T _ v _ i (by omega), a3P (x := v.getD i 0) (by omega), b7V (x := c + g (off + i)) (y := v.getD i 0) (by omega), E3, seval]
    exact rest _ (by simp only [E3, seval]) (by simp only [E3, seval]) (by simp only [E3, seval]) (by simp only [E3, seval]) (by simp only [E3, seval]) (by simp only [E3, seval]) (by simp only [E3, seval]) (by simp only [E3, seval]) (by simp only [E3, seval])
   ·have hl2 : ((i : Int) < (n : Int)) = False := eq_false (by omega)
    refine Safe.rg rfl ?_
    simp only [b1l, hl2, E3, seval]
    refine Safe.cd rfl ?_
    simp only [E3, seval]
    have hz : c + g (off + i) + v.getD i 0 = c + g (off + i) := by rw [b7x (a := v) (by omega), Nat.add_zero]
    exact Safe.skip (rest _ (by simp only [E3, seval]) (by simp only [E3, seval]) (by simp only [E3, seval]) (by simp only [E3, seval]) (by simp only [E3, seval]) (by simp only [E3, seval]) (by simp only [E3, seval]) (by simp only [E3, seval]) (by rw [hz]; simp only [E3, seval]))
 have := key (n + 1) 0 0 [] (by omega) rfl c4v (by omega) (by simp [val])
 rw [e3h] at this
 exact this
theorem e0I {vx qv vu B b c q vi lo d bo c' u : Nat} (h : vx + qv = vu + B * (b + c)) (hd : u + LB * bo = d + lo + b) (hl : lo + LB * c' = c + q * vi) : (vx + B * d) + (qv + B * (q * vi)) = (vu + B * u) + (B * LB) * (bo + c') := by
 have e1 : B * (u + LB * bo) = B * (d + lo + b) := by rw [hd]
 have e2 : B * (lo + LB * c') = B * (c + q * vi) := by rw [hl]
 simp only [Nat.mul_add, ← Nat.mul_assoc] at *
 omega
theorem d9w {H : Heap} {id off N n : Nat} {oc : Option Nat} {v : List Nat} {g : Nat → Nat} {todo : List AItem} {R : AV → Heap → Prop} {q : Nat} (hid : id < H.length) (hv : Lim v) (hn : v.length = n) (hoff : off + n + 1 ≤ N) (hN : N ≤ 17592186044416) (hg : ∀ i, i < N → g i < LB) (hq : q < LB)
  (k : ∀ y b, y.length = n + 1 → Lim y → b ≤ 1 → val y + q * val v = val (fl (n + 1) fun i => g (off + i)) + LB ^ (n + 1) * b →
   Safe (digX H.length) todo [(0, .mu id off (n + 1) oc), (1, natV v), (5, .int .i64 n), (7, .int .u64 q), (9, .int .u64 b)] (hap (H.set id (some ⟨1, u32s (fl N (xr g off y))⟩)) []) R) :
  Safe (digX H.length) (.inLoop a9h :: .inBlock 0 :: todo) [(0, .mu id off (n + 1) oc), (1, natV v), (5, .int .i64 n), (7, .int .u64 q), (8, .int .u64 0), (9, .int .u64 0), (40, .int .i64 ((n + 1 : Nat) : Int)), (41, .int .i64 0)] (hap (H.set id (some ⟨1, u32s (fl N g)⟩)) []) R := by
 have hLB : LB = 4294967296 := rfl
 have key : ∀ (m i b c : Nat) (y : List Nat), i + m = n + 1 → y.length = i → Lim y → b ≤ 1 → c < LB → val y + q * val (v.take i) = val ((fl (n + 1) fun i => g (off + i)).take i) + LB ^ i * (b + c) → LB ^ i * c ≤ q * val (v.take i) →
   Safe (digX H.length) (.inLoop a9h :: .inBlock 0 :: todo) [(0, .mu id off (n + 1) oc), (1, natV v), (5, .int .i64 n), (7, .int .u64 q), (8, .int .u64 c), (9, .int .u64 b), (40, .int .i64 ((n + 1 : Nat) : Int)), (41, .int .i64 i)] (hap (H.set id (some ⟨1, u32s (fl N (xr g off y))⟩)) []) R := by
  intro m
  induction m with
  | zero =>
   intro i b c y him hy ly hb hc hval hcl
   have hi : i = n + 1 := by omega
   subst hi
   refine Safe.inLoop ?_
   refine Safe.rg rfl ?_
   simp only [b3d, Int.lt_irrefl, E3, Nat.reduceLeDiff, Nat.reduceSub, Nat.reduceAdd, Nat.reduceEqDiff, reduceCtorEq, ↓reduceIte]
   refine Safe.cd rfl ?_
   simp only [E3, Nat.reduceLeDiff, Nat.reduceSub, Nat.reduceAdd, Nat.reduceEqDiff, reduceCtorEq, ↓reduceIte]
   refine Safe.exit rfl ?_
   refine Safe.keep [0, 1, 5, 7, 9] ?_
   simp only [E3, Nat.reduceLeDiff, Nat.reduceSub, Nat.reduceAdd, Nat.reduceEqDiff, reduceCtorEq, ↓reduceIte]
   refine k y b hy ly hb ?_
   rw [List.take_of_length_le (l := v) (by omega)] at hval hcl
   rw [List.take_of_length_le (l := fl _ _) (by rw [a1H]; omega)] at hval
   have hc0 : c = 0 := by
    have h1 := a1Z hv
    rw [hn] at h1
    have h2 : q * val v < LB * LB ^ n := Nat.mul_lt_mul'' hq h1
    rw [← Nat.pow_succ'] at h2
    have h3 : LB ^ (n + 1) * c < LB ^ (n + 1) * 1 := by rw [Nat.mul_one]; exact Nat.lt_of_le_of_lt hcl h2
    have := Nat.lt_of_mul_lt_mul_left h3
    omega
   rw [hval, hc0, show b + 0 = b from rfl]
  | succ m ih =>
   intro i b c y him hy ly hb hc hval hcl
   have hlt : ((i : Int) < ((n + 1 : Nat) : Int)) = True := eq_true (by omega)
   refine Safe.inLoop ?_
   refine Safe.rg rfl ?_
   simp only [b3d, hlt, E3, Nat.reduceLeDiff, Nat.reduceSub, Nat.reduceAdd, Nat.reduceEqDiff, reduceCtorEq, ↓reduceIte]
   refine Safe.cd rfl ?_
   simp only [E3, Nat.reduceLeDiff, Nat.reduceSub, Nat.reduceAdd, Nat.reduceEqDiff, reduceCtorEq, ↓reduceIte]
   have hgi : g (off + i) < LB := hg _ (by omega)
   have hxi : xr g off y (off + i) = g (off + i) := by subst hy; exact e6D
   have hvi := a2p hv i
   have hqv : c + q * v.getD i 0 < LB * LB := by
    have h1 : q * v.getD i 0 ≤ (LB - 1) * (LB - 1) := Nat.mul_le_mul (by omega) (by omega)
    have h2 : (LB - 1) * (LB - 1) + (LB - 1) < LB * LB := by decide
    omega
   have hqv2 : LB * LB = 18446744073709551616 := by decide
   refine Safe.rg rfl ?_
   simp only [c0b, E3, Nat.reduceLeDiff, Nat.reduceSub, Nat.reduceAdd, Nat.reduceEqDiff, reduceCtorEq, ↓reduceIte]
   refine Safe.rg rfl ?_
   simp only [c0a, E3, Nat.reduceLeDiff, Nat.reduceSub, Nat.reduceAdd, Nat.reduceEqDiff, reduceCtorEq, ↓reduceIte]
   have rest : ∀ env : Env, look env 0 = .mu id off (n + 1) oc → look env 1 = natV v → look env 5 = .int .i64 n → look env 7 = .int .u64 q → look env 9 = .int .u64 b → look env 40 = .int .i64 ((n + 1 : Nat) : Int) → look env 41 = .int .i64 i → look env 10 = .int .i64 i → look env 11 = .int .u64 (c + q * v.getD i 0 : Nat) →
     Safe (digX H.length) (.code (.seq (.region b1r false) (.seq (.region b1q false) (.seq (.region b1p false) (.region b1o false)))) :: .inBlock 1 :: .code (.region b1n false) :: .inLoop a9h :: .inBlock 0 :: todo) env (hap (H.set id (some ⟨1, u32s (fl N (xr g off y))⟩)) []) R := by
    intro env e0 e1 e5 e7 e9 e40 e41 e10 e11
    have w5 := a2O (c + q * v.getD i 0)
    have htl : (c + q * v.getD i 0) % LB < LB := Nat.mod_lt _ (by decide)
    have htm := Nat.mod_add_div (c + q * v.getD i 0) LB
    have htd : (c + q * v.getD i 0) / LB < LB := by rw [Nat.div_lt_iff_lt_mul (by decide)]; exact hqv
    have h4w : IntKind.wrap .u64 (IntKind.wrap .u64 (((g (off + i) : Nat) : Int) - (((c + q * v.getD i 0) % LB : Nat) : Int)) - (b : Int)) = (((g (off + i) : Nat) : Int) - (((c + q * v.getD i 0) % LB : Nat) : Int) - (b : Int)) % 18446744073709551616 := by
     rw [a2l, a2l]; omega
    refine Safe.rg rfl ?_
    simp only [b1r, e11, d7t, E3, Nat.reduceLeDiff, Nat.reduceSub, Nat.reduceAdd, Nat.reduceEqDiff, reduceCtorEq, ↓reduceIte]
    refine Safe.rg rfl ?_
    simp only [b1q, e0, e10, e11, e9, b8m hid 1 _ off (n + 1) i oc .i64 (show i < n + 1 by omega), ofat hid (show off + i < N by omega), hxi, a3P (x := g (off + i)) (by omega), w5, a3P (x := (c + q * v.getD i 0) % LB) (by omega), h4w, E3, Nat.reduceLeDiff, Nat.reduceSub, Nat.reduceAdd, Nat.reduceEqDiff, reduceCtorEq, ↓reduceIte]
    obtain ⟨d, bo, hd, hbo, hdl, hD, hB⟩ : ∃ d bo : Nat, g (off + i) + LB * bo = d + (c + q * v.getD i 0) % LB + b ∧ bo ≤ 1 ∧ d < LB ∧ ((((g (off + i) : Nat) : Int) - (((c + q * v.getD i 0) % LB : Nat) : Int) - (b : Int)) % 18446744073709551616) % 4294967296 = (d : Int) ∧ ((((g (off + i) : Nat) : Int) - (((c + q * v.getD i 0) % LB : Nat) : Int) - (b : Int)) % 18446744073709551616) / 9223372036854775808 = (bo : Int) := by
     generalize (c + q * v.getD i 0) % LB = lo at *
     by_cases hlt : g (off + i) < lo + b
     ·exact ⟨g (off + i) + LB - lo - b, 1, by omega, by omega, by omega, by omega, by omega⟩
     ·exact ⟨g (off + i) - lo - b, 0, by omega, by omega, by omega, by omega, by omega⟩
    refine Safe.rg rfl ?_
    simp only [b1p, e0, e10, b6p, hD, b8m hid 1 _ off (n + 1) i oc .i64 (show i < n + 1 by omega), ofst hid (show off + i < N by omega), E3, Nat.reduceLeDiff, Nat.reduceSub, Nat.reduceAdd, Nat.reduceEqDiff, reduceCtorEq, ↓reduceIte]
    have hs63 : ∀ n : Int, Int.fdiv n (2 ^ min (Int.toNat 63) IntKind.u64.bits) = n / 9223372036854775808 := by
     intro n
     rw [show (2 : Int) ^ min (Int.toNat 63) IntKind.u64.bits = 9223372036854775808 by decide, Int.fdiv_eq_ediv_of_nonneg _ (by decide)]
    refine Safe.rg rfl ?_
    simp only [b1o, a6h _ _ _ (show (0 : Int) ≤ 63 by decide), hs63, hB, E3, Nat.reduceLeDiff, Nat.reduceSub, Nat.reduceAdd, Nat.reduceEqDiff, reduceCtorEq, ↓reduceIte]
    refine Safe.inBlock ?_
    have w4 : IntKind.wrap .i64 ((i : Int) + 1) = ((i + 1 : Nat) : Int) := by rw [a0e] <;> omega
    refine Safe.rg rfl ?_
    simp only [b1n, e41, w4, E3, Nat.reduceLeDiff, Nat.reduceSub, Nat.reduceAdd, Nat.reduceEqDiff, reduceCtorEq, ↓reduceIte]
    refine Safe.keep [0, 1, 5, 7, 8, 9, 40, 41] ?_
    simp only [E3, Nat.reduceLeDiff, Nat.reduceSub, Nat.reduceAdd, Nat.reduceEqDiff, reduceCtorEq, ↓reduceIte]
    simp only [e0, e1, e5, e7, e40]
    rw [← hy, d6L, hy]
    refine ih (i + 1) bo _ _ (by omega) (by simp [hy]) (a3Q ly hdl) hbo htd ?_ ?_
    ·rw [a7C, hy, a0w, a0w, Nat.pow_succ, c4L (by omega), Nat.mul_add, Nat.mul_left_comm]
     exact e0I hval hd htm
    ·rw [a0w, Nat.mul_add, Nat.mul_left_comm q, Nat.pow_succ, Nat.mul_assoc]
     have h1 : LB ^ i * (LB * ((c + q * v.getD i 0) / LB)) ≤ LB ^ i * (c + q * v.getD i 0) := Nat.mul_le_mul_left _ (Nat.mul_div_le _ _)
     rw [Nat.mul_add] at h1
     omega
   by_cases hin : i < n
   ·have hl2 : ((i : Int) < (n : Int)) = True := eq_true (by omega)
    refine Safe.rg rfl ?_
    simp only [b3c, hl2, E3, Nat.reduceLeDiff, Nat.reduceSub, Nat.reduceAdd, Nat.reduceEqDiff, reduceCtorEq, ↓reduceIte]
    refine Safe.cd rfl ?_
    simp only [E3, Nat.reduceLeDiff, Nat.reduceSub, Nat.reduceAdd, Nat.reduceEqDiff, reduceCtorEq, ↓reduceIte]
    refine Safe.rg rfl ?_
    simp only [b6W, a0T _ v _ i (by omega), a3P (x := v.getD i 0) (by omega), d4M (x := q) (y := v.getD i 0) (by omega), b7V (x := c) (y := q * v.getD i 0) (by omega), E3, Nat.reduceLeDiff, Nat.reduceSub, Nat.reduceAdd, Nat.reduceEqDiff, reduceCtorEq, ↓reduceIte]
    exact rest _ (by simp only [E3, Nat.reduceLeDiff, Nat.reduceSub, Nat.reduceAdd, Nat.reduceEqDiff, reduceCtorEq, ↓reduceIte]) (by simp only [E3, Nat.reduceLeDiff, Nat.reduceSub, Nat.reduceAdd, Nat.reduceEqDiff, reduceCtorEq, ↓reduceIte]) (by simp only [E3, Nat.reduceLeDiff, Nat.reduceSub, Nat.reduceAdd, Nat.reduceEqDiff, reduceCtorEq, ↓reduceIte]) (by simp only [E3, Nat.reduceLeDiff, Nat.reduceSub, Nat.reduceAdd, Nat.reduceEqDiff, reduceCtorEq, ↓reduceIte]) (by simp only [E3, Nat.reduceLeDiff, Nat.reduceSub, Nat.reduceAdd, Nat.reduceEqDiff, reduceCtorEq, ↓reduceIte]) (by simp only [E3, Nat.reduceLeDiff, Nat.reduceSub, Nat.reduceAdd, Nat.reduceEqDiff, reduceCtorEq, ↓reduceIte]) (by simp only [E3, Nat.reduceLeDiff, Nat.reduceSub, Nat.reduceAdd, Nat.reduceEqDiff, reduceCtorEq, ↓reduceIte]) (by simp only [E3, Nat.reduceLeDiff, Nat.reduceSub, Nat.reduceAdd, Nat.reduceEqDiff, reduceCtorEq, ↓reduceIte]) (by simp only [E3, Nat.reduceLeDiff, Nat.reduceSub, Nat.reduceAdd, Nat.reduceEqDiff, reduceCtorEq, ↓reduceIte])
   ·have hl2 : ((i : Int) < (n : Int)) = False := eq_false (by omega)
    refine Safe.rg rfl ?_
    simp only [b3c, hl2, E3, Nat.reduceLeDiff, Nat.reduceSub, Nat.reduceAdd, Nat.reduceEqDiff, reduceCtorEq, ↓reduceIte]
    refine Safe.cd rfl ?_
    simp only [E3, Nat.reduceLeDiff, Nat.reduceSub, Nat.reduceAdd, Nat.reduceEqDiff, reduceCtorEq, ↓reduceIte]
    have hz : c + q * v.getD i 0 = c := by rw [b7x (a := v) (by omega)]; omega
    exact Safe.skip (rest _ (by simp only [E3, Nat.reduceLeDiff, Nat.reduceSub, Nat.reduceAdd, Nat.reduceEqDiff, reduceCtorEq, ↓reduceIte]) (by simp only [E3, Nat.reduceLeDiff, Nat.reduceSub, Nat.reduceAdd, Nat.reduceEqDiff, reduceCtorEq, ↓reduceIte]) (by simp only [E3, Nat.reduceLeDiff, Nat.reduceSub, Nat.reduceAdd, Nat.reduceEqDiff, reduceCtorEq, ↓reduceIte]) (by simp only [E3, Nat.reduceLeDiff, Nat.reduceSub, Nat.reduceAdd, Nat.reduceEqDiff, reduceCtorEq, ↓reduceIte]) (by simp only [E3, Nat.reduceLeDiff, Nat.reduceSub, Nat.reduceAdd, Nat.reduceEqDiff, reduceCtorEq, ↓reduceIte]) (by simp only [E3, Nat.reduceLeDiff, Nat.reduceSub, Nat.reduceAdd, Nat.reduceEqDiff, reduceCtorEq, ↓reduceIte]) (by simp only [E3, Nat.reduceLeDiff, Nat.reduceSub, Nat.reduceAdd, Nat.reduceEqDiff, reduceCtorEq, ↓reduceIte]) (by simp only [E3, Nat.reduceLeDiff, Nat.reduceSub, Nat.reduceAdd, Nat.reduceEqDiff, reduceCtorEq, ↓reduceIte]) (by rw [hz]; simp only [E3, Nat.reduceLeDiff, Nat.reduceSub, Nat.reduceAdd, Nat.reduceEqDiff, reduceCtorEq, ↓reduceIte]))
 have := key (n + 1) 0 0 0 [] (by omega) rfl c4v (by omega) (by decide) (by simp [val]) (by simp)
 rw [e3h] at this
 exact this
theorem d2L {H : Heap} {id off N n : Nat} {oc : Option Nat} {v : List Nat} {f : Nat → Nat} (hl : H[id]? = some (some ⟨1, u32s (fl N f)⟩)) (hv : Lim v) (hn : v.length = n) (hn0 : 0 < n) (ht : 0 < v.getD (n - 1) 0) (hoff : off + n + 1 ≤ N) (hN : N ≤ 17592186044416) (hf : ∀ i, i < N → f i < LB)
  {S : Nat} (hS : val (fl (n + 1) fun i => f (off + i)) = S) (hlt : S < LB * val v) : a0h Pr b1O [.mu id off (n + 1) oc, natV v] H fun r' H' => r' = .int .u32 (S / val v : Nat) ∧ H' = H.set id (some ⟨1, u32s (fl N (xr f off (fl (n + 1) (dig (S % val v)))))⟩) := by
 have hLB : LB = 4294967296 := rfl
 have hid := a0k hl
 have hv0 : 0 < val v := by
  have := b0b v (n - 1)
  have h2 : val (v.drop (n - 1)) ≠ 0 := by
   rw [a3Z]; rw [show n - 1 + 1 = n by omega]; omega
  have h3 : 0 < LB ^ (n - 1) * val (v.drop (n - 1)) := Nat.mul_pos (a7I _) (by omega)
  omega
 have hUl : (fl (n + 1) fun i => f (off + i)).length = n + 1 := a1H _ _
 have hU : Lim (fl (n + 1) fun i => f (off + i)) := e3B fun i hi => hf _ (by omega)
 have hguess := e1Z hU hv hUl hn hn0 hv0 (by rw [hS]; exact hlt) ht
 rw [hS, c4L (by omega), c4L (by omega)] at hguess
 have hSl : S < LB ^ (n + 1) := by have := a1Z hU; rw [hS, hUl] at this; exact this
 have hvl := a1Z hv
 rw [hn] at hvl
 have hvle : val v ≤ LB ^ (n + 1) := by
  have : LB ^ n ≤ LB ^ (n + 1) := Nat.pow_le_pow_right (by decide) (by omega)
  omega
 have hvt : v.getD (n - 1) 0 < LB := a2p hv _
 have hfn : f (off + n) < LB := hf _ (by omega)
 have hfn1 : f (off + (n - 1)) < LB := hf _ (by omega)
 refine a0h.eff c9N c9M (Nat.le_of_ble_eq_true rfl) fun hH => ?_
 have h0 : hap H [] = hap (H.set id (some ⟨1, u32s (fl N f)⟩)) [] := by rw [d3A hl]
 rw [h0]
 refine Safe.rg rfl ?_
 simp only [c0h, E3, Nat.reduceLeDiff, Nat.reduceSub, Nat.reduceAdd, Nat.reduceEqDiff, reduceCtorEq, ↓reduceIte]
 refine Safe.rg rfl ?_
 simp only [c0g, a9l, E3, Nat.reduceLeDiff, Nat.reduceSub, Nat.reduceAdd, Nat.reduceEqDiff, reduceCtorEq, ↓reduceIte]
 have w1 : IntKind.wrap .i64 ((n : Int) - 1) = ((n - 1 : Nat) : Int) := by rw [a0e] <;> omega
 refine Safe.rg rfl ?_
 simp only [c0f, hn, w1, b8m hid 1 _ off (n + 1) n oc .i64 (Nat.lt_succ_self n), b8m hid 1 _ off (n + 1) (n - 1) oc .i64 (show n - 1 < n + 1 by omega), ofat hid (show off + n < N by omega), ofat hid (show off + (n - 1) < N by omega), a3P (x := f (off + n)) (by omega), a3P (x := f (off + (n - 1))) (by omega), e4j hfn, c2z hfn hfn1, E3, Nat.reduceLeDiff, Nat.reduceSub, Nat.reduceAdd, Nat.reduceEqDiff, reduceCtorEq, ↓reduceIte]
 have htop : f (off + n) * LB + f (off + (n - 1)) < 18446744073709551616 := by
  have : f (off + n) * LB ≤ 4294967295 * LB := Nat.mul_le_mul_right _ (by omega)
  omega
 have hmin : (if (4294967295 : Int) < (((f (off + n) * LB + f (off + (n - 1))) / v.getD (n - 1) 0 : Nat) : Int) then (4294967295 : Int) else (((f (off + n) * LB + f (off + (n - 1))) / v.getD (n - 1) 0 : Nat) : Int)) = ((min ((f (off + n) * LB + f (off + (n - 1))) / v.getD (n - 1) 0) (LB - 1) : Nat) : Int) := by
  generalize (f (off + n) * LB + f (off + (n - 1))) / v.getD (n - 1) 0 = z
  split
  ·rw [Nat.min_eq_right (by omega)]; rfl
  ·rw [Nat.min_eq_left (by omega)]
 refine Safe.rg rfl ?_
 simp only [c0e, hn, w1, a0T _ v _ (n - 1) (by omega), a3P (x := v.getD (n - 1) 0) (by omega), d7M ht htop, d3N, hmin, E3, Nat.reduceLeDiff, Nat.reduceSub, Nat.reduceAdd, Nat.reduceEqDiff, reduceCtorEq, ↓reduceIte]
 have hq0l : min ((f (off + n) * LB + f (off + (n - 1))) / v.getD (n - 1) 0) (LB - 1) < LB := Nat.lt_of_le_of_lt (Nat.min_le_right _ _) (by decide)
 generalize hq0 : min ((f (off + n) * LB + f (off + (n - 1))) / v.getD (n - 1) 0) (LB - 1) = q0 at *
 refine Safe.rg rfl ?_
 simp only [c0d, E3, Nat.reduceLeDiff, Nat.reduceSub, Nat.reduceAdd, Nat.reduceEqDiff, reduceCtorEq, ↓reduceIte]
 have w2 : IntKind.wrap .i64 ((n : Int) + 1) = ((n + 1 : Nat) : Int) := by rw [a0e] <;> omega
 refine Safe.rg rfl ?_
 simp only [c0c, w2, hn, E3, Nat.reduceLeDiff, Nat.reduceSub, Nat.reduceAdd, Nat.reduceEqDiff, reduceCtorEq, ↓reduceIte]
 refine Safe.lp rfl ?_
 refine Safe.keep [0, 1, 5, 7, 8, 9, 40, 41] ?_
 simp only [hn, E3, Nat.reduceLeDiff, Nat.reduceSub, Nat.reduceAdd, Nat.reduceEqDiff, reduceCtorEq, ↓reduceIte]
 refine d9w hid hv hn hoff hN hf hq0l fun y b hy ly hb hval => ?_
 rw [hS] at hval
 refine Safe.lp rfl ?_
 -- the rows put back
 have key : ∀ (q b : Nat) (y : List Nat), y.length = n + 1 → Lim y → b ≤ 1 → val y + q * val v = S + LB ^ (n + 1) * b → S / val v ≤ q → q < LB →
   Safe (digX H.length) [.inLoop c0i, .inBlock 2, .code (.seq (.region a7K false) .ret)] [(0, .mu id off (n + 1) oc), (1, natV v), (5, .int .i64 n), (7, .int .u64 q), (9, .int .u64 b)] (hap (H.set id (some ⟨1, u32s (fl N (xr f off y))⟩)) [])
    fun r' H' => ∃ H1 L, H' = hap H1 L ∧ H1.length = H.length ∧ a0z H1 ∧ Ref (· < H.length) r' ∧ r' = .int .u32 (S / val v : Nat) ∧ H1 = H.set id (some ⟨1, u32s (fl N (xr f off (fl (n + 1) (dig (S % val v)))))⟩) := by
  intro q
  induction q with
  | zero =>
   intro b y hy ly hb hval hq hql
   have hyl := a1Z ly
   rw [hy] at hyl
   have hb0 : b = 0 := by
    rcases Nat.eq_zero_or_pos b with h | h
    ·exact h
    ·have : b = 1 := by omega
     subst this; omega
   subst hb0
   refine Safe.inLoop ?_
   refine Safe.rg rfl ?_
   simp only [a7L, show ((0 : Int) < ((0 : Nat) : Int)) = False by simp, E3, Nat.reduceLeDiff, Nat.reduceSub, Nat.reduceAdd, Nat.reduceEqDiff, reduceCtorEq, ↓reduceIte]
   refine Safe.cd rfl ?_
   simp only [E3, Nat.reduceLeDiff, Nat.reduceSub, Nat.reduceAdd, Nat.reduceEqDiff, reduceCtorEq, ↓reduceIte]
   refine Safe.exit rfl ?_
   refine Safe.rg rfl ?_
   simp only [a7K, c5G (x := 0) (by decide), E3, Nat.reduceLeDiff, Nat.reduceSub, Nat.reduceAdd, Nat.reduceEqDiff, reduceCtorEq, ↓reduceIte]
   refine Safe.rt rfl ?_
   simp only [E3, Nat.reduceLeDiff, Nat.reduceSub, Nat.reduceAdd, Nat.reduceEqDiff, reduceCtorEq, ↓reduceIte]
   have e1 : S / val v = 0 := Nat.le_zero.1 hq
   have e2 : S % val v = val y := by
    have := Nat.mod_add_div S (val v)
    rw [e1] at this
    omega
   refine ⟨_, [], rfl, by simp, a0z.set hH id fun a ha => (a1I _ a ha).ref, .int _ _, by rw [e1], ?_⟩
   rw [e2, ← b8K ly hy]
  | succ q ih =>
   intro b y hy ly hb hval hq hql
   have hyl := a1Z ly
   rw [hy] at hyl
   refine Safe.inLoop ?_
   by_cases hb0 : b = 0
   ·subst hb0
    refine Safe.rg rfl ?_
    simp only [a7L, show ((0 : Int) < ((0 : Nat) : Int)) = False by simp, E3, Nat.reduceLeDiff, Nat.reduceSub, Nat.reduceAdd, Nat.reduceEqDiff, reduceCtorEq, ↓reduceIte]
    refine Safe.cd rfl ?_
    simp only [E3, Nat.reduceLeDiff, Nat.reduceSub, Nat.reduceAdd, Nat.reduceEqDiff, reduceCtorEq, ↓reduceIte]
    refine Safe.exit rfl ?_
    refine Safe.rg rfl ?_
    simp only [a7K, c5G (x := q + 1) (by omega), E3, Nat.reduceLeDiff, Nat.reduceSub, Nat.reduceAdd, Nat.reduceEqDiff, reduceCtorEq, ↓reduceIte]
    refine Safe.rt rfl ?_
    simp only [E3, Nat.reduceLeDiff, Nat.reduceSub, Nat.reduceAdd, Nat.reduceEqDiff, reduceCtorEq, ↓reduceIte]
    have e1 : S / val v = q + 1 := by
     have : (q + 1) ≤ S / val v := by rw [Nat.le_div_iff_mul_le hv0]; omega
     omega
    have e2 : S % val v = val y := by
     have := Nat.mod_add_div S (val v)
     rw [e1, Nat.mul_comm (val v)] at this
     omega
    refine ⟨_, [], rfl, by simp, a0z.set hH id fun a ha => (a1I _ a ha).ref, .int _ _, by rw [e1], ?_⟩
    rw [e2, ← b8K ly hy]
   ·have hb1 : b = 1 := by omega
    subst hb1
    have hlq : S / val v ≤ q := by
     have h1 : S < (q + 1) * val v := by omega
     have := (Nat.div_lt_iff_lt_mul hv0).2 h1
     omega
    have w3 : IntKind.wrap .u64 (((q + 1 : Nat) : Int) - 1) = (q : Int) := by rw [a1B] <;> omega
    refine Safe.rg rfl ?_
    simp only [a7L, show ((0 : Int) < ((1 : Nat) : Int)) = True by simp, E3, Nat.reduceLeDiff, Nat.reduceSub, Nat.reduceAdd, Nat.reduceEqDiff, reduceCtorEq, ↓reduceIte]
    refine Safe.cd rfl ?_
    simp only [E3, Nat.reduceLeDiff, Nat.reduceSub, Nat.reduceAdd, Nat.reduceEqDiff, reduceCtorEq, ↓reduceIte]
    refine Safe.rg rfl ?_
    simp only [b6V, w3, E3, Nat.reduceLeDiff, Nat.reduceSub, Nat.reduceAdd, Nat.reduceEqDiff, reduceCtorEq, ↓reduceIte]
    refine Safe.rg rfl ?_
    simp only [b6U, E3, Nat.reduceLeDiff, Nat.reduceSub, Nat.reduceAdd, Nat.reduceEqDiff, reduceCtorEq, ↓reduceIte]
    refine Safe.rg rfl ?_
    simp only [b6T, w2, E3, Nat.reduceLeDiff, Nat.reduceSub, Nat.reduceAdd, Nat.reduceEqDiff, reduceCtorEq, ↓reduceIte]
    refine Safe.lp rfl ?_
    refine Safe.keep [0, 1, 5, 7, 9, 13, 83, 84] ?_
    simp only [E3, Nat.reduceLeDiff, Nat.reduceSub, Nat.reduceAdd, Nat.reduceEqDiff, reduceCtorEq, ↓reduceIte]
    refine d9x (b := 1) hid hv hn hoff hN (e8g hf ly) fun z c hz lz hc hzv => ?_
    have hseg := e6C (g := f) (off := off) (x := y)
    rw [hy] at hseg
    rw [hseg] at hzv
    rw [e8f (by rw [hy, hz])]
    have w4 : IntKind.wrap .u64 (((1 : Nat) : Int) - (c : Int)) = ((1 - c : Nat) : Int) := by rw [a1B] <;> omega
    refine Safe.rg rfl ?_
    simp only [b6P, w4, E3, Nat.reduceLeDiff, Nat.reduceSub, Nat.reduceAdd, Nat.reduceEqDiff, reduceCtorEq, ↓reduceIte]
    refine Safe.inBlock ?_
    refine Safe.keep [0, 1, 5, 7, 9] ?_
    simp only [E3, Nat.reduceLeDiff, Nat.reduceSub, Nat.reduceAdd, Nat.reduceEqDiff, reduceCtorEq, ↓reduceIte]
    have hexp : (q + 1) * val v = q * val v + val v := by rw [Nat.add_mul, Nat.one_mul]
    refine ih (1 - c) z hz lz (by omega) ?_ hlq (by omega)
    rcases Nat.eq_zero_or_pos c with h | h
    ·subst h; omega
    ·have : c = 1 := by omega
     subst this; omega
 exact key q0 b y hy ly hb hval hguess hq0l
end Go.Abs

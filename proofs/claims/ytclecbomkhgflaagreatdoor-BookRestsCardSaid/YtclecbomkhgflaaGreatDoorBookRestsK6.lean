/- Part 6 of the proof of BookRests: M1, D1, D2, D3, W1, W3, D4, W5, D5, W6, D6, W7, W8, D9, D10, D11, W9. -/
import Derived.Test.YtclecbomkhgflaaGreatDoorBookRestsK5
set_option linter.unusedVariables false
set_option linter.unusedSimpArgs false
namespace Go.Abs
abbrev LB : Nat := 4294967296
def val : List Nat → Nat
 | [] => 0
 | d :: l => d + LB * val l
def Lim (l : List Nat) : Prop := ∀ d ∈ l, d < LB
def limbs (n : Nat) : List Nat := if h : n = 0 then [] else n % LB :: limbs (n / LB)
termination_by n
decreasing_by exact Nat.div_lt_self (by omega) (by decide)
theorem a1f : limbs 0 = [] := by rw [limbs]; simp
theorem a8s {n : Nat} (h : n ≠ 0) : limbs n = n % LB :: limbs (n / LB) := by rw [limbs]; simp [h]
theorem a0r (n : Nat) : val (limbs n) = n := by
 induction n using Nat.strongRecOn with
 | _ n ih =>
  by_cases h : n = 0
  ·subst h; rw [a1f]; rfl
  ·rw [a8s h, val, ih (n / LB) (Nat.div_lt_self (by omega) (by decide))]
   exact Nat.mod_add_div n LB
theorem a0E (n : Nat) : Lim (limbs n) := by
 induction n using Nat.strongRecOn with
 | _ n ih =>
  by_cases h : n = 0
  ·subst h; rw [a1f]; intro d hd; simp at hd
  ·rw [a8s h]
   intro d hd
   rcases List.mem_cons.1 hd with rfl | hd
   ·exact Nat.mod_lt _ (by decide)
   ·exact ih (n / LB) (Nat.div_lt_self (by omega) (by decide)) d hd
theorem c2O : Lim [] := fun d hd => by simp at hd
theorem c0o {d : Nat} {l : List Nat} : Lim (d :: l) ↔ d < LB ∧ Lim l := by
 constructor
 ·intro h; exact ⟨h d (by simp), fun e he => h e (by simp [he])⟩
 ·rintro ⟨h1, h2⟩ e he
  rcases List.mem_cons.1 he with rfl | he
  ·exact h1
  ·exact h2 e he
theorem b7I {a b : List Nat} : Lim (a ++ b) ↔ Lim a ∧ Lim b := by
 constructor
 ·intro h; exact ⟨fun d hd => h d (by simp [hd]), fun d hd => h d (by simp [hd])⟩
 ·rintro ⟨h1, h2⟩ d hd
  rcases List.mem_append.1 hd with hd | hd
  ·exact h1 d hd
  ·exact h2 d hd
theorem Lim.take {l : List Nat} (h : Lim l) (n : Nat) : Lim (l.take n) := fun d hd => h d (List.mem_of_mem_take hd)
theorem Lim.drop {l : List Nat} (h : Lim l) (n : Nat) : Lim (l.drop n) := fun d hd => h d (List.mem_of_mem_drop hd)
theorem a9V (a b : List Nat) : val (a ++ b) = val a + LB ^ a.length * val b := by
 induction a with
 | nil => simp [val]
 | cons d a ih =>
  simp only [List.cons_append, val, ih, List.length_cons]
  rw [Nat.mul_add, ← Nat.mul_assoc, ← Nat.pow_succ', Nat.add_assoc]
theorem a1V {l : List Nat} (h : Lim l) : val l < LB ^ l.length := by
 induction l with
 | nil => simp [val]
 | cons d l ih =>
  have h' := c0o.1 h
  have := ih h'.2
  simp only [val, List.length_cons, Nat.pow_succ']
  have h1 : LB * (val l + 1) ≤ LB * LB ^ l.length := Nat.mul_le_mul_left _ this
  rw [Nat.mul_add, Nat.mul_one] at h1
  have := h'.1
  omega
theorem c5W (n : Nat) : val (List.replicate n 0) = 0 := by
 induction n with
 | zero => rfl
 | succ n ih => simp [List.replicate_succ, val, ih]
theorem b2T : ∀ {l : List Nat}, Lim l → (l.getLast?).getD 1 ≠ 0 → limbs (val l) = l
 | [], _, _ => a1f
 | d :: l, h, hl => by
  obtain ⟨h1, h2⟩ := c0o.1 h
  have hl' : (l.getLast?).getD 1 ≠ 0 := by
   cases l with
   | nil => simp
   | cons e l => simpa [List.getLast?_cons_cons] using hl
  have hne : val (d :: l) ≠ 0 := by
   intro h0
   simp only [val] at h0
   have hd : d = 0 := by omega
   have hv : val l = 0 := by
    have : LB * val l = 0 := by omega
    rcases Nat.mul_eq_zero.1 this with h | h
    ·exact absurd h (by decide)
    ·exact h
   have := b2T h2 hl'
   rw [hv, a1f] at this
   subst this
   subst hd
   simp at hl
  rw [a8s hne]
  simp only [val]
  rw [Nat.add_mul_mod_self_left, Nat.mod_eq_of_lt h1, Nat.add_mul_div_left _ _ (by decide), Nat.div_eq_of_lt h1, Nat.zero_add, b2T h2 hl']
theorem b3v (n : Nat) : ((limbs n).getLast?).getD 1 ≠ 0 := by
 induction n using Nat.strongRecOn with
 | _ n ih =>
  by_cases h : n = 0
  ·subst h; rw [a1f]; simp
  ·rw [a8s h]
   have := ih (n / LB) (Nat.div_lt_self (by omega) (by decide))
   cases hq : limbs (n / LB) with
   | nil =>
    have h0 : n / LB = 0 := by
     have := a0r (n / LB)
     rw [hq] at this
     exact this.symm
    have : n % LB = n := Nat.mod_eq_of_lt (by
     rcases Nat.lt_or_ge n LB with h' | h'
     ·exact h'
     ·have := Nat.div_pos h' (by decide); omega)
    simp [this, h]
   | cons e l =>
    rw [hq] at this
    simpa [List.getLast?_cons_cons] using this
theorem a0I {n k : Nat} (h : n < LB ^ k) : (limbs n).length ≤ k := by
 induction k generalizing n with
 | zero =>
  have : n = 0 := by simpa using h
  subst this; rw [a1f]; simp
 | succ k ih =>
  by_cases h0 : n = 0
  ·subst h0; rw [a1f]; simp
  ·rw [a8s h0, List.length_cons]
   have : n / LB < LB ^ k := by
    rw [Nat.div_lt_iff_lt_mul (by decide)]
    rwa [Nat.pow_succ] at h
   have := ih this
   omega
theorem c8h {n : Nat} (h : limbs n ≠ []) : LB ^ ((limbs n).length - 1) ≤ n := by
 induction n using Nat.strongRecOn with
 | _ n ih =>
  by_cases h0 : n = 0
  ·subst h0; rw [a1f] at h; simp at h
  ·rw [a8s h0, List.length_cons, Nat.add_sub_cancel]
   by_cases hq : limbs (n / LB) = []
   ·rw [hq]; simp; omega
   ·have := ih (n / LB) (Nat.div_lt_self (by omega) (by decide)) hq
    have hl : 0 < (limbs (n / LB)).length := List.length_pos_iff.2 hq
    have h1 : LB ^ (limbs (n / LB)).length = LB ^ ((limbs (n / LB)).length - 1) * LB := by
     rw [← Nat.pow_succ]; congr 1; omega
    rw [h1]
    exact Nat.le_trans (Nat.mul_le_mul_right _ this) (Nat.div_mul_le_self n LB)
theorem d4v (l : List Nat) : val (l ++ [0]) = val l := by rw [a9V]; simp [val]
theorem a7u (l : List Nat) (d : Nat) : val (l ++ [d]) = val l + LB ^ l.length * d := by rw [a9V]; simp [val]
theorem c5V {l : List Nat} {i : Nat} (h : i < l.length) : val (l.take (i + 1)) = val (l.take i) + LB ^ i * l[i] := by
 rw [List.take_succ_eq_append_getElem h, a7u, List.length_take, Nat.min_eq_left (by omega)]
theorem a2n {l : List Nat} (h : Lim l) (i : Nat) : l.getD i 0 < LB := by
 rw [List.getD_eq_getElem?_getD]
 rcases Nat.lt_or_ge i l.length with hi | hi
 ·rw [List.getElem?_eq_getElem hi, Option.getD_some]; exact h _ (List.getElem_mem hi)
 ·rw [List.getElem?_eq_none hi]; decide
theorem a0v (l : List Nat) (i : Nat) : val (l.take (i + 1)) = val (l.take i) + LB ^ i * l.getD i 0 := by
 rcases Nat.lt_or_ge i l.length with h | h
 ·rw [c5V h, List.getD_eq_getElem?_getD, List.getElem?_eq_getElem h, Option.getD_some]
 ·rw [List.take_of_length_le (by omega), List.take_of_length_le h, List.getD_eq_getElem?_getD, List.getElem?_eq_none h]; simp
theorem a7y (i : Nat) : 0 < LB ^ i := Nat.pow_pos (by decide)
theorem b5y {a b : List Nat} {i : Nat} (ha : Lim a) (hb : Lim b) (h : a.drop (i + 1) = b.drop (i + 1)) (hi : i < a.length) (hi' : i < b.length) (hl : a.length = b.length) (hlt : a.getD i 0 < b.getD i 0) : val a < val b := by
 have e1 : a = a.take (i + 1) ++ a.drop (i + 1) := (List.take_append_drop _ _).symm
 have e2 : b = b.take (i + 1) ++ b.drop (i + 1) := (List.take_append_drop _ _).symm
 rw [e1, e2, a9V, a9V, h, a0v, a0v]
 have l1 : (a.take (i + 1)).length = i + 1 := by rw [List.length_take]; omega
 have l2 : (b.take (i + 1)).length = i + 1 := by rw [List.length_take]; omega
 rw [l1, l2]
 have h1 := a1V (ha.take i)
 rw [List.length_take, Nat.min_eq_left (by omega)] at h1
 have h2 : LB ^ i * (a.getD i 0 + 1) ≤ LB ^ i * b.getD i 0 := Nat.mul_le_mul_left _ hlt
 rw [Nat.mul_add] at h2
 omega
def blen (n : Nat) : Nat := if n = 0 then 0 else Nat.log2 n + 1
theorem c8U : blen 0 = 0 := rfl
theorem d0V (n : Nat) : n < 2 ^ blen n := by
 unfold blen
 split
 ·rename_i h; subst h; decide
 ·exact Nat.lt_log2_self
theorem c3u {n : Nat} (h : n ≠ 0) : 2 ^ (blen n - 1) ≤ n := by
 unfold blen
 rw [if_neg h, Nat.add_sub_cancel]
 exact Nat.log2_self_le h
theorem e3K {n k : Nat} (h1 : n < 2 ^ k) (h2 : k = 0 ∨ 2 ^ (k - 1) ≤ n) : blen n = k := by
 by_cases h0 : n = 0
 ·subst h0
  rcases h2 with h2 | h2
  ·rw [h2]; rfl
  ·have := Nat.pow_pos (n := k - 1) (show 0 < 2 by decide); omega
 ·have a := d0V n
  have b := c3u h0
  have c : 0 < blen n := by unfold blen; rw [if_neg h0]; omega
  have d : blen n - 1 < k := (Nat.pow_lt_pow_iff_right (by decide)).1 (Nat.lt_of_le_of_lt b h1)
  have e : k - 1 < blen n := by
   rcases h2 with h2 | h2
   ·omega
   ·exact (Nat.pow_lt_pow_iff_right (by decide)).1 (Nat.lt_of_le_of_lt h2 a)
  omega
theorem d2d {h k r : Nat} (hh : h ≠ 0) (hr : r < 2 ^ k) : blen (r + 2 ^ k * h) = k + blen h := by
 have a := d0V h
 have b := c3u hh
 have c : 0 < blen h := by unfold blen; rw [if_neg hh]; omega
 refine e3K ?_ (.inr ?_)
 ·rw [Nat.pow_add]
  have : 2 ^ k * (h + 1) ≤ 2 ^ k * 2 ^ blen h := Nat.mul_le_mul_left _ a
  rw [Nat.mul_add] at this
  omega
 ·rw [show k + blen h - 1 = k + (blen h - 1) by omega, Nat.pow_add]
  have : 2 ^ k * 2 ^ (blen h - 1) ≤ 2 ^ k * h := Nat.mul_le_mul_left _ b
  omega
theorem d2c {n k : Nat} (h : 2 ^ k ≤ n) : blen n = k + blen (n / 2 ^ k) := by
 have hp : 0 < 2 ^ k := Nat.pow_pos (by decide)
 have h0 : n / 2 ^ k ≠ 0 := by
  have := Nat.div_pos h hp; omega
 have := d2d (r := n % 2 ^ k) h0 (Nat.mod_lt _ hp)
 rwa [Nat.mod_add_div] at this
theorem e0X (i : Nat) : LB ^ i = 2 ^ (32 * i) := by rw [Nat.pow_mul]
theorem d4l {l : List Nat} {d : Nat} (hl : Lim l) (hd : d ≠ 0) : blen (val (l ++ [d])) = 32 * l.length + blen d := by
 rw [a7u, e0X]
 exact d2d hd (by rw [← e0X]; exact a1V hl)
theorem a3g {l : List Nat} (h : Lim l) : (limbs (val l)).length ≤ l.length := a0I (a1V h)
structure Nt (l : List Nat) : Prop where
 lim : Lim l
 len : l.length ≤ 17592186044416
theorem Nt.limbs {l : List Nat} (h : Nt l) : Nt (limbs (val l)) := ⟨a0E _, Nat.le_trans (a3g h.lim) h.len⟩
theorem c6c (x : List Nat) (k d : Nat) : (x ++ List.replicate (k + 1) 0).set x.length d = (x ++ [d]) ++ List.replicate k 0 := by
 rw [List.set_append_right _ _ (Nat.le_refl _), Nat.sub_self, List.replicate_succ, List.set_cons_zero]; simp
theorem d1i {vd pa pb B c x y i : Nat} (h : vd + B * c = pa + pb) : (vd + B * ((c + x + y) % LB)) + (B * LB) * ((c + x + y) / LB) = (pa + B * x) + (pb + B * y) := by
 have e : (c + x + y) % LB + LB * ((c + x + y) / LB) = c + x + y := Nat.mod_add_div _ _
 have e2 : B * ((c + x + y) % LB) + (B * LB) * ((c + x + y) / LB) = B * (c + x + y) := by rw [Nat.mul_assoc, ← Nat.mul_add, e]
 have e3 : B * (c + x + y) = B * c + B * x + B * y := by rw [Nat.mul_add, Nat.mul_add]
 omega
theorem a3X {x : List Nat} {d : Nat} (h : Lim x) (hd : d < LB) : Lim (x ++ [d]) := b7I.2 ⟨h, by intro e he; simp at he; omega⟩
theorem e1s {w : List Nat} {k d : Nat} (h : k < w.length) : val (w.set k d) + LB ^ k * w.getD k 0 = val w + LB ^ k * d := by
 induction w generalizing k with
 | nil => simp at h
 | cons e w ih =>
  cases k with
  | zero => simp only [List.set_cons_zero, val, Nat.pow_zero, Nat.one_mul, List.getD_cons_zero]; omega
  | succ k =>
   simp only [List.set_cons_succ, val, List.getD_cons_succ, Nat.pow_succ']
   have := ih (k := k) (by simpa using h)
   have e1 : LB * (val (w.set k d) + LB ^ k * w.getD k 0) = LB * (val w + LB ^ k * d) := by rw [this]
   rw [Nat.mul_add, Nat.mul_add, ← Nat.mul_assoc, ← Nat.mul_assoc] at e1
   omega
theorem e2A {w : List Nat} {k d : Nat} (h : Lim w) (hd : d < LB) : Lim (w.set k d) := by
 intro e he
 rcases List.mem_or_eq_of_mem_set he with h' | h'
 ·exact h e h'
 ·rw [h']; exact hd
theorem d6e {vx va vb B bo bo' d x y : Nat} (h : va + B * bo = vx + vb) (hd : x + LB * bo' = d + bo + y) : (va + B * x) + (B * LB) * bo' = (vx + B * d) + (vb + B * y) := by
 have e : B * (x + LB * bo') = B * (d + bo + y) := by rw [hd]
 rw [Nat.mul_add, Nat.mul_add, Nat.mul_add, ← Nat.mul_assoc] at e
 omega
theorem d9v {vw vx A B C c x y q vb vs t : Nat} (hC : C = A * B) (h : vw + C * c = vx + A * (x * vb)) (hs : vs + C * q = vw + C * (t % LB)) (ht : t = c + x * y + q) :
  vs + (C * LB) * (t / LB) = vx + A * (x * (vb + B * y)) := by
 have e : t % LB + LB * (t / LB) = t := Nat.mod_add_div _ _
 have e1 : C * (t % LB) + (C * LB) * (t / LB) = C * t := by rw [Nat.mul_assoc, ← Nat.mul_add, e]
 have e2 : C * t = C * c + C * (x * y) + C * q := by rw [ht, Nat.mul_add, Nat.mul_add]
 have e3 : A * (x * (vb + B * y)) = A * (x * vb) + C * (x * y) := by
  rw [hC, Nat.mul_add, Nat.mul_add, Nat.mul_assoc A B, Nat.mul_left_comm B x y]
 omega
theorem d9w {c x y q : Nat} (hc : c < LB) (hx : x < LB) (hy : y < LB) (hq : q < LB) : c + x * y + q < LB * LB := by
 have : x * y ≤ (LB - 1) * (LB - 1) := Nat.mul_le_mul (by omega) (by omega)
 have e : (LB - 1) * (LB - 1) + (LB - 1) + (LB - 1) < LB * LB := by decide
 omega
theorem d6M (a : List Nat) (n i : Nat) : (a.drop n).getD i 0 = a.getD (n + i) 0 := by simp [List.getD_eq_getElem?_getD, List.getElem?_drop]
theorem a9U (a : List Nat) (n : Nat) : val a = val (a.take n) + LB ^ n * val (a.drop n) := by
 rcases Nat.lt_or_ge a.length n with h | h
 ·rw [List.take_of_length_le (by omega), List.drop_of_length_le (by omega)]; simp [val]
 ·have := a9V (a.take n) (a.drop n)
  rwa [List.take_append_drop, List.length_take, Nat.min_eq_left h] at this
theorem a5q {a : List Nat} (h : Lim a) (n : Nat) : val (a.take n) < LB ^ n := by
 have h1 := a1V (h.take n)
 have h2 : LB ^ (a.take n).length ≤ LB ^ n := Nat.pow_le_pow_right (by decide) (by rw [List.length_take]; omega)
 omega
theorem b6x {a : List Nat} {i : Nat} (h : a.length ≤ i) : a.getD i 0 = 0 := by rw [List.getD_eq_getElem?_getD, List.getElem?_eq_none h]; rfl
theorem c7z {l : List Nat} {i : Nat} (h : i < l.length) : l.take (i + 1) = l.take i ++ [l.getD i 0] := by
 rw [List.take_succ_eq_append_getElem h, List.getD_eq_getElem?_getD, List.getElem?_eq_getElem h, Option.getD_some]
end Go.Abs
set_option linter.defProp false
namespace Go.Abs
def u32s (l : List Nat) : List AV := l.map fun n : Nat => .int .u32 (n : Int)
def natV (l : List Nat) : AV := .sl 1 (u32s l)
theorem a0U (l : List Nat) : (u32s l).length = l.length := by simp [u32s]
theorem c9w (a b : List Nat) : u32s (a ++ b) = u32s a ++ u32s b := by simp [u32s]
theorem d8m : u32s [] = [] := rfl
theorem c7y (d : Nat) (l : List Nat) : u32s (d :: l) = .int .u32 (d : Int) :: u32s l := rfl
theorem b5z (l : List Nat) (n : Nat) : (u32s l).take n = u32s (l.take n) := by simp [u32s, List.map_take]
theorem b9X (l : List Nat) (i d : Nat) : (u32s l).set i (.int .u32 (d : Int)) = u32s (l.set i d) := by simp [u32s, List.map_set]
theorem b1Z {l : List Nat} {i : Nat} (h : i < l.length) : (u32s l).getD i .top = .int .u32 (l.getD i 0 : Nat) := by
 simp [u32s, h]
theorem d4B (l : List Nat) : (u32s l).flatMap AV.cells = u32s l := by
 induction l with
 | nil => rfl
 | cons d l ih => rw [c7y, List.flatMap_cons, ih]; rfl
theorem d8l (n : Nat) : List.replicate n (AV.int .u32 0) = u32s (List.replicate n 0) := by simp [u32s]
theorem d4C {l : List Nat} {a : AV} (h : a ∈ u32s l) : Cl a := by
 obtain ⟨n, _, rfl⟩ := List.mem_map.1 h; exact .int _ _
theorem b9Y {l : List Nat} {a : AV} (h : a ∈ (u32s l).flatMap AV.cells) : Cl a := by rw [d4B] at h; exact d4C h
theorem a2r (l : List Nat) : ∀ a ∈ (Blk.mk 1 (u32s l)).flat, Cl a := fun a h => b9Y h
theorem a3w (l : List Nat) : Cl (natV l) := .sl 1 _ fun c h => b9Y h
theorem d3E (l : List Nat) : (natV l).cells = [natV l] := rfl
theorem d9s (l : List Nat) : (natV l).fit = true := rfl
theorem d5M (id : Nat) (l : List Nat) : nref id (natV l) = true := a0K (a3w l)
theorem d9t (l : List Nat) : clb (natV l) = true := b4c (a3w l)
theorem d9r (id : Nat) (b : Blk) (l : List Nat) : frz id b (natV l) = natV l := b3Z (a3w l)
theorem d5N (id : Nat) (b : Blk) (l : List Nat) : (u32s l).map (frz id b) = u32s l := by
 rw [List.map_congr_left (g := fun x => x) fun a h => b3Z (d4C h)]; simp
theorem a9d (H : Heap) (l : List Nat) : lenV H (natV l) = some (.int .i64 l.length) := by simp [natV, c6s, a0U]
theorem c0j (H : Heap) (l : List Nat) : a1k H 1 false (natV l) = some (u32s l) := a2Q H 1 _
theorem a0W (H : Heap) (l : List Nat) (k : IntKind) (i : Nat) (h : i < l.length) : idxV H 1 (natV l) (.int k i) = some (.ro (.int .u32 (l.getD i 0 : Nat)) 0) := by
 rw [natV, d6z _ _ _ _ _ (by omega) (by rw [a0U]; omega)]
 rw [Int.toNat_natCast, b1Z h]
theorem d9p (H : Heap) (l : List Nat) (k : IntKind) (n : Nat) (h : n ≤ l.length) : slcV H 1 (natV l) none (some (.int k n)) none = some (natV (l.take n)) := by
 simp only [natV, slcV, a3Z, Option.bind_some, a0U]
 rw [if_pos ⟨trivial, by omega, by omega, by omega⟩]
 simp [b5z]
theorem e4U (H L : Heap) (i off len : Nat) (oc : Option Nat) {b : Blk} (h : L[i]? = some (some b)) : lenV (hap H L) (.mu (lid H i) off len oc) = some (.int .i64 len) := by
 rw [c6t, a1j, h]; simp
theorem c2n (H L : Heap) (wd i off len : Nat) (oc : Option Nat) (k : IntKind) (j : Nat) {b : Blk} (h : L[i]? = some (some b)) (hw : b.wd = wd) (hj : j < len) :
  idxV (hap H L) wd (.mu (lid H i) off len oc) (.int k j) = some (.loc (lid H i) (off + j) 0) := by
 rw [c6C _ _ _ _ _ _ _ _ (by omega) (by omega), a1j, h]; simp [hw]
theorem b0Y (H L : Heap) (i k : Nat) {b : Blk} (h : L[i]? = some (some b)) (hk : k < b.xs.length) : atV (hap H L) (.loc (lid H i) k 0) = some (b.xs.getD k .top).cells := by
 rw [b7Z, a1j, h]; simp [hk]
theorem a8W {n : Int} (h0 : 0 ≤ n) (h1 : n < 4294967296) : IntKind.wrap .u32 n = n := by
 simp [IntKind.wrap, IntKind.bits, IntKind.signed]; omega
theorem a1w {n : Int} (h0 : 0 ≤ n) (h1 : n < 18446744073709551616) : IntKind.wrap .u64 n = n := by
 simp [IntKind.wrap, IntKind.bits, IntKind.signed]; omega
theorem a0e {n : Int} (h0 : -9223372036854775808 ≤ n) (h1 : n < 9223372036854775808) : IntKind.wrap .i64 n = n := by
 simp [IntKind.wrap, IntKind.bits, IntKind.signed]; omega
theorem a2O (n : Nat) : IntKind.wrap .u32 (n : Int) = ((n % LB : Nat) : Int) := by
 simp [IntKind.wrap, IntKind.bits, IntKind.signed]
theorem a2j (n : Int) : IntKind.wrap .u64 n = n % 18446744073709551616 := by
 simp [IntKind.wrap, IntKind.bits, IntKind.signed]
theorem d0Y (n0 : Nat) (env : Env) (H L : Heap) (l : List Nat) (h : l.length ≤ 17592186044416) :
  appV n0 1 4 false .nil (natV l) env (hap H L) = some (.mu (lid H L.length) 0 l.length none, env, hap H (L ++ [some ⟨1, u32s l⟩])) := by
 have := c6Z n0 env H L 1 4 false (natV l) (u32s l) (c0j _ l) (by decide) (by rw [a0U]; omega) (by rw [a0U]; omega)
 rwa [a0U] at this
theorem b3y (H : Heap) (i : Nat) (l : List Nat) (oc : Option Nat) : frz (lid H i) ⟨1, u32s l⟩ (.mu (lid H i) 0 l.length oc) = natV l := by
 rw [c3c _ _ _ _ _ (by rw [a0U])]; rfl
def EN := And.intro @a9d (And.intro @b3y (And.intro @d5N (And.intro @d5M (And.intro @d9t (And.intro @d3E (And.intro @d9s (And.intro @d9r (And.intro @c0j @a0U))))))))
theorem e2q (H : Heap) (X : Blk) (len : Nat) (oc : Option Nat) : lenV (hap H [some X]) (.mu (lid H 0) 0 len oc) = some (.int .i64 len) := e4U H [some X] 0 0 len oc rfl
theorem b7i (H : Heap) (X : List AV) (wd len : Nat) (oc : Option Nat) (k : IntKind) (j : Nat) (h : j < len) : idxV (hap H [some ⟨wd, X⟩]) wd (.mu (lid H 0) 0 len oc) (.int k j) = some (.loc (lid H 0) j 0) := by
 rw [c2n H [some ⟨wd, X⟩] wd 0 0 len oc k j rfl rfl h, Nat.zero_add]
theorem e4O (H : Heap) (x : List Nat) (j : Nat) (h : j < x.length) : atV (hap H [some ⟨1, u32s x⟩]) (.loc (lid H 0) j 0) = some [.int .u32 (x.getD j 0 : Nat)] := by
 rw [b0Y H [some ⟨1, u32s x⟩] 0 j rfl (by simpa [a0U] using h)]
 simp only [b1Z h, AV.cells]
theorem c4i (H : Heap) (env : Env) (x : List Nat) (j d : Nat) (h : j < x.length) : a6b 1 (.loc (lid H 0) j 0) (.int .u32 (d : Int)) env (hap H [some ⟨1, u32s x⟩]) = some (.top, env, hap H [some ⟨1, u32s (x.set j d)⟩]) := by
 rw [a7S env H [some ⟨1, u32s x⟩] 1 0 j 0 _ rfl (by simpa [a0U] using h) rfl rfl (Nat.le_refl 1)]
 simp only [a6a, b9X, List.set_cons_zero]
theorem b3s (env : Env) (H L : Heap) (k k' : IntKind) (n : Nat) (h : n ≤ 35184372088832) : c9Z 1 4 (.int .u32 0) (.int k n) (.int k' n) env (hap H L) = some (.mu (lid H L.length) 0 n (some n), env, hap H (L ++ [some ⟨1, u32s (List.replicate n 0)⟩])) := by
 rw [c2p env H L 1 4 _ k k' n n (by decide) (Nat.le_refl _) (by omega) (by omega), d8l]
theorem b5w (n : Int) : IntKind.wrap .u32 n = n % 4294967296 := by
 simp [IntKind.wrap, IntKind.bits, IntKind.signed]
theorem e4t (t : Nat) : Int.fdiv (t : Int) (2 ^ min (Int.toNat 32) IntKind.u64.bits) = ((t / LB : Nat) : Int) := by
 rw [show (2 : Int) ^ min (Int.toNat 32) IntKind.u64.bits = (LB : Int) by decide, Int.fdiv_eq_ediv_of_nonneg _ (by decide)]; rfl
def E1 := And.intro EV (And.intro EVC EN)
end Go.Abs
namespace Go.Abs
def sgn (neg : Bool) (n : Nat) : Int := if neg then -(n : Int) else n
structure ZI where
 neg : Bool
 mag : List Nat
def ZI.av (x : ZI) : AV := .agg [.bool x.neg, natV x.mag]
def ZI.z (x : ZI) : Int := sgn x.neg (val x.mag)
def canZ (z : Int) : ZI := ⟨decide (z < 0), limbs z.natAbs⟩
def Z (z : Int) : AV := .agg [.bool (decide (z < 0)), natV (limbs z.natAbs)]
theorem e3E (z : Int) : (canZ z).av = Z z := rfl
theorem a6G (z : Int) : (canZ z).z = z := by
 unfold canZ ZI.z sgn
 simp only [a0r, decide_eq_true_eq]
 split <;> omega
theorem e5Y (neg : Bool) (n : Nat) : .agg [.bool (neg && decide (0 < n)), natV (limbs n)] = Z (sgn neg n) := by
 unfold Z sgn
 cases neg
 ·simp <;> omega
 ·rcases Nat.eq_zero_or_pos n with h | h
  ·subst h; simp
  ·simp [h]
theorem c0e (neg : Bool) : sgn neg 0 = 0 := by cases neg <;> rfl
theorem b4p (neg : Bool) (n : Nat) : (sgn neg n).natAbs = n := by cases neg <;> simp [sgn]
theorem Z_cl (z : Int) : Cl (Z z) := .agg _ (by intro c hc; simp at hc; rcases hc with rfl | rfl; exact .bool _; exact a3w _)
theorem ZI.cl (x : ZI) : Cl x.av := .agg _ (by intro c hc; simp at hc; rcases hc with rfl | rfl; exact .bool _; exact a3w _)
theorem e1m : Z 0 = .agg [.bool false, natV []] := by unfold Z; simp [a1f]
theorem le_zero : Le (.agg [.bool false, .nil]) (Z 0) := by rw [e1m]; exact Le.agg2 (Le.refl _) (Le.nil 1 (by decide))
structure Zok (k : Nat) (x : ZI) : Prop where
 lim : Lim x.mag
 len : x.mag.length ≤ k
theorem Zok.mono {k m : Nat} {x : ZI} (h : Zok k x) (hk : k ≤ m) : Zok m x := ⟨h.lim, Nat.le_trans h.len hk⟩
theorem Zok.lt {k : Nat} {x : ZI} (h : Zok k x) : val x.mag < LB ^ k := by
 have h1 := a1V h.lim
 have h2 : LB ^ x.mag.length ≤ LB ^ k := Nat.pow_le_pow_right (by decide) h.len
 omega
theorem Zok.abs {k : Nat} {x : ZI} (h : Zok k x) : x.z.natAbs < LB ^ k := by unfold ZI.z; rw [b4p]; exact h.lt
theorem a3K {k : Nat} {z : Int} (h : z.natAbs < LB ^ k) : Zok k (canZ z) := ⟨a0E _, a0I h⟩
section
variable (n0 : Nat) (env : Env) (H L : Heap)
def cpyV (wd : Nat) (x y : AV) (env : Env) (H : Heap) : Option (AV × Env × Heap) := (a1k H wd false y).bind fun ys => match x with
   | .mu id off len _ => (hrow H id).bind fun r =>
     if r.wd = wd ∧ off + len ≤ r.xs.length then
      some (.int .i64 (min ys.length len : Nat), env, H.set id (some ⟨wd, r.xs.take off ++ ys.take (min ys.length len) ++ r.xs.drop (off + min ys.length len)⟩)) else none
   | _ => none
theorem e5n (wd : Nat) (a b : Src) : ev n0 (.cpy wd a b) env H = cpyV wd (a.ev env) (b.ev env) env H := by
 simp only [ev, cpyV]; cases a1k H wd false (b.ev env) <;> simp only [Option.bind_none, Option.bind_some]; split <;> simp_all
theorem d1Z (wd i len : Nat) (oc : Option Nat) (y : AV) (xs ys : List AV) (hl : L[i]? = some (some ⟨wd, xs⟩)) (hlen : len = xs.length) (hy : a1k (hap H L) wd false y = some ys) (hle : len ≤ ys.length) :
  cpyV wd (.mu (lid H i) 0 len oc) y env (hap H L) = some (.int .i64 len, env, hap H (L.set i (some ⟨wd, ys.take len⟩))) := by
 subst hlen
 simp only [cpyV, hy, Option.bind_some, a1j, hl, Option.join_some, a3v]
 rw [if_pos ⟨trivial, by omega⟩]
 simp [Nat.min_eq_right hle]
end
def EI := @e5n
def E2 := And.intro @EV2 (And.intro @EI @E1)
end Go.Abs
namespace Go.Abs
theorem ZI.av_fit (x : ZI) : x.av.fit = true := rfl
theorem ZI.av_cells (x : ZI) : x.av.cells = [.bool x.neg, natV x.mag] := rfl
theorem ZI.av_nref (id : Nat) (x : ZI) : nref id x.av = true := a0K x.cl
theorem ZI.av_frz (id : Nat) (b : Blk) (x : ZI) : frz id b x.av = x.av := b3Z x.cl
theorem e3X (z : Int) : (Z z).cells = [.bool (decide (z < 0)), natV (limbs z.natAbs)] := rfl
theorem e6a (z : Int) : (Z z).fit = true := rfl
theorem e5B (id : Nat) (z : Int) : nref id (Z z) = true := a0K (Z_cl z)
theorem e5Z (id : Nat) (b : Blk) (z : Int) : frz id b (Z z) = Z z := b3Z (Z_cl z)
def vecV (v : List ZI) : AV := .sl 2 (v.map ZI.av)
def matV (b : List (List ZI)) : AV := .sl 1 (b.map vecV)
theorem b1o {a : AV} (h : Cl a) : ∀ c ∈ a.cells, Cl c := by
 intro c hc
 cases a with
 | agg cs => cases h with | agg _ h => exact h c hc
 | mo l => cases h
 | io i n s => cases h
 | ms bs ks vs n => cases h
 | _ => simp [AV.cells] at hc; subst hc; exact h
theorem e3B {α : Type} (wd : Nat) (f : α → AV) (l : List α) (h : ∀ x, Cl (f x)) : Cl (.sl wd (l.map f)) := by
 refine .sl wd _ fun c hc => ?_
 obtain ⟨x, hx, hc⟩ := List.mem_flatMap.1 hc
 obtain ⟨y, _, rfl⟩ := List.mem_map.1 hx
 exact b1o (h y) c hc
theorem a0O (v : List ZI) : Cl (vecV v) := e3B 2 _ v ZI.cl
theorem b0W (b : List (List ZI)) : Cl (matV b) := e3B 1 _ b a0O
theorem c3X (v : List ZI) : (vecV v).cells = [vecV v] := rfl
theorem d8g (v : List ZI) : (vecV v).fit = true := rfl
theorem c7w (id : Nat) (v : List ZI) : nref id (vecV v) = true := a0K (a0O v)
theorem d8h (v : List ZI) : clb (vecV v) = true := b4c (a0O v)
theorem d8f (id : Nat) (b : Blk) (v : List ZI) : frz id b (vecV v) = vecV v := b3Z (a0O v)
theorem d3R (v : List (List ZI)) : (matV v).cells = [matV v] := rfl
theorem d9y (v : List (List ZI)) : (matV v).fit = true := rfl
theorem b6i (id : Nat) (v : List (List ZI)) : nref id (matV v) = true := a0K (b0W v)
theorem d9z (v : List (List ZI)) : clb (matV v) = true := b4c (b0W v)
theorem d9x (id : Nat) (b : Blk) (v : List (List ZI)) : frz id b (matV v) = matV v := b3Z (b0W v)
section
variable (H : Heap)
theorem e0T {α : Type} (wd : Nat) (f : α → AV) (l : List α) : lenV H (.sl wd (l.map f)) = some (.int .i64 l.length) := by rw [c6s, List.length_map]
theorem d1p {α : Type} (wd : Nat) (f : α → AV) (l : List α) (k : IntKind) (i : Nat) (h : i < l.length) : idxV H wd (.sl wd (l.map f)) (.int k i) = some (.ro (f l[i]) 0) := by
 rw [d6z _ _ _ _ _ (by omega) (by rw [List.length_map]; omega)]
 simp [h]
theorem e1r (v : List ZI) : lenV H (vecV v) = some (.int .i64 v.length) := e0T H 2 _ v
theorem b6V (v : List ZI) (k : IntKind) (i : Nat) (h : i < v.length) : idxV H 2 (vecV v) (.int k i) = some (.ro v[i].av 0) := d1p H 2 _ v k i h
theorem d5S (v : List (List ZI)) : lenV H (matV v) = some (.int .i64 v.length) := e0T H 1 _ v
theorem a9M (v : List (List ZI)) (k : IntKind) (i : Nat) (h : i < v.length) : idxV H 1 (matV v) (.int k i) = some (.ro (vecV v[i]) 0) := d1p H 1 _ v k i h
theorem a6S {α : Type} (wd : Nat) (f : α → AV) (l : List α) (h : ∀ x, Cl (f x)) : ∀ a ∈ (Blk.mk wd (l.map f)).flat, Cl a := by
 intro a ha
 obtain ⟨x, hx, hc⟩ := List.mem_flatMap.1 ha
 obtain ⟨y, _, rfl⟩ := List.mem_map.1 hx
 exact b1o (h y) a hc
theorem d6Q {α : Type} (id : Nat) (b : Blk) (f : α → AV) (l : List α) (h : ∀ x, Cl (f x)) : (l.map f).map (frz id b) = l.map f := by
 rw [List.map_map]
 exact List.map_congr_left fun x _ => b3Z (h x)
theorem d3Z {α : Type} (i : Nat) (wd : Nat) (f : α → AV) (l : List α) (oc : Option Nat) : frz (lid H i) ⟨wd, l.map f⟩ (.mu (lid H i) 0 l.length oc) = .sl wd (l.map f) := by
 rw [c3c _ _ _ _ _ (by rw [List.length_map])]
end
structure Vok (k : Nat) (v : List ZI) : Prop where
 len : v.length ≤ 2097152
 el : ∀ x ∈ v, Zok k x
structure Mok (k : Nat) (b : List (List ZI)) : Prop where
 len : b.length ≤ 2097152
 el : ∀ v ∈ b, Vok k v
theorem Vok.mono {k m : Nat} {v : List ZI} (h : Vok k v) (hk : k ≤ m) : Vok m v := ⟨h.len, fun x hx => (h.el x hx).mono hk⟩
theorem Mok.mono {k m : Nat} {b : List (List ZI)} (h : Mok k b) (hk : k ≤ m) : Mok m b := ⟨h.len, fun x hx => (h.el x hx).mono hk⟩
theorem Vok.get {k : Nat} {v : List ZI} (h : Vok k v) {i : Nat} (hi : i < v.length) : Zok k v[i] := h.el _ (List.getElem_mem hi)
theorem Mok.get {k : Nat} {v : List (List ZI)} (h : Mok k v) {i : Nat} (hi : i < v.length) : Vok k v[i] := h.el _ (List.getElem_mem hi)
theorem c7r : (0 < 2) = True := by decide
def EM := And.intro c7r <| And.intro @e1r (And.intro @d5S (And.intro @c3X (And.intro @d8g (And.intro @c7w (And.intro @d8h (And.intro @d8f (And.intro @d3R (And.intro @d9y (And.intro @b6i (And.intro @d9z (And.intro @d9x
 (And.intro @ZI.av_fit (And.intro @ZI.av_cells (And.intro @ZI.av_nref (And.intro @ZI.av_frz (And.intro @e3X (And.intro @e6a (And.intro @e5B @e5Z))))))))))))))))))
def zs (v : List ZI) : List Int := v.map ZI.z
def E3 := And.intro EM @E2
end Go.Abs
namespace Go.Abs
theorem a0o (l : List Nat) (hl : Lim l) (hb : l.length ≤ 17592186044416) : a0g Pr a0u [natV l] (natV (limbs (val l))) := by
 refine a0g.intro c1s c1q (by simp only [List.length_cons, List.length_nil]; omega) (a3w _) fun H hH => ?_
 refine Safe.seq (Safe.region ?_)
 simp only [b4x, E1, seval]
 refine Safe.seq (Safe.block (Safe.loop ?_))
 refine Safe.keep [0] ?_
 simp only [E1, seval]
 generalize hv : val l = v
 have stop : ∀ (l : List Nat) (ts : Env), Lim l → val l = v → (l.getLast?).getD 1 ≠ 0 → look ts 0 = natV l → Safe ⟨Pr, fun _ _ => false, a0u, 21, [.tmp 2], H.length⟩ [.code ((ACode.region a5F false).seq ACode.ret)] ts (hap H []) fun r' H' => r' = natV (limbs v) ∧ ∃ L, H' = hap H L := by
  intro l ts hl hv hn h0
  refine Safe.seq (Safe.region ?_)
  simp only [a5F, E1, seval, h0]
  refine Safe.retn ?_
  simp only [E1, seval]
  rw [← hv, b2T hl hn]
  exact ⟨rfl, [], rfl⟩
 induction hn : l.length using Nat.strongRecOn generalizing l with
 | _ n ih =>
 refine Safe.inLoop (Safe.seq (Safe.seq (Safe.region ?_)))
 rcases List.eq_nil_or_concat l with rfl | ⟨l', d, rfl⟩
 ·simp only [a8j, E1, seval, a9d, Int.natCast_zero, Int.lt_irrefl]
  refine Safe.cond ?_
  simp only [E1, seval]
  refine Safe.exit rfl ?_
  exact stop [] _ hl hv (by simp) (by simp only [E1, seval])
 ·simp only [List.concat_eq_append] at *
  have hlen : (l' ++ [d]).length = l'.length + 1 := by simp
  have h0 : (0 : Int) < ((l' ++ [d]).length : Int) := by omega
  have hw : IntKind.i64.wrap (((l' ++ [d]).length : Int) - 1) = (l'.length : Int) := by rw [hlen, a0e] <;> omega
  have hg : (l' ++ [d]).getD l'.length 0 = d := by simp
  simp only [a8j, E1, seval, a9d, h0, hw, a0W _ (l' ++ [d]) _ l'.length (by omega), hg]
  refine Safe.cond ?_
  simp only [E1, seval]
  by_cases hd : d = 0
  ·subst hd
   simp only [Int.natCast_zero, E1, seval]
   refine Safe.skip (Safe.block (Safe.region ?_))
   simp only [b4w, E1, seval, a9d, hw, d9p _ (l' ++ [0]) _ l'.length (by omega)]
   refine Safe.inBlock (Safe.keep [0] ?_)
   simp only [E1, seval, List.take_left']
   exact ih l'.length (by omega) l' (b7I.1 hl).1 (by omega) (by rw [← hv, d4v]) rfl
  ·have : ¬ ((d : Int) = 0) := by omega
   simp only [this, E1, seval]
   refine Safe.exit rfl ?_
   exact stop (l' ++ [d]) _ hl hv (by simpa using hd) (by simp only [E1, seval])
theorem b5M (l : List Nat) (hl : Nt l) : a0g Pr b3B [natV l] (natV (limbs (val l))) := by
 refine a0g.intro c9W c9V (by simp only [List.length_cons, List.length_nil]; omega) (a3w _) fun H hH => ?_
 refine Safe.seq (Safe.region ?_)
 simp only [c1P, E1, seval]
 refine Safe.seq (Safe.region ?_)
 simp only [c1O, E1, seval]
 refine (a0o l hl.lim hl.len).acall ?_
 simp only [E1, seval, d0Y _ _ H [] _ hl.limbs.len]
 refine Safe.freeze 0 (b := ⟨1, u32s (limbs (val l))⟩) hH rfl rfl (a2r _) ?_
 refine Safe.retn ?_
 simp only [E1, seval]
 first | exact ⟨rfl, _, rfl⟩ | exact ⟨_, rfl⟩ | exact ⟨trivial, _, rfl⟩
def cmpI (a b : Nat) : Int := if a < b then -1 else if b < a then 1 else 0
theorem b6W {a b : Nat} (h : (limbs a).length < (limbs b).length) : a < b := by
 have h1 : limbs b ≠ [] := by intro h0; rw [h0] at h; simp at h
 have := c8h h1
 have h2 := a1V (a0E a)
 rw [a0r] at h2
 have h3 : LB ^ (limbs a).length ≤ LB ^ ((limbs b).length - 1) := Nat.pow_le_pow_right (by decide) (by omega)
 omega
theorem b4v (a b : List Nat) (ha : Nt a) (hb : Nt b) : a0g Pr b0v [natV a, natV b] (.int .i64 (cmpI (val a) (val b))) := by
 refine a0g.intro d3A d3z (by simp only [List.length_cons, List.length_nil]; omega) (.int _ _) fun H hH => ?_
 refine Safe.seq (Safe.region ?_)
 simp only [c5d, E1, seval]
 refine Safe.seq (Safe.region ?_)
 simp only [c5c, E1, seval]
 refine (a0o a ha.lim ha.len).acall ?_
 try simp only [E1, seval]
 refine (a0o b hb.lim hb.len).acall ?_
 try simp only [E1, seval]
 have na := ha.limbs
 have nb := hb.limbs
 have va := a0r (val a)
 have vb := a0r (val b)
 generalize hA : limbs (val a) = A at na va ⊢
 generalize hB : limbs (val b) = B at nb vb ⊢
 refine Safe.keep [0, 1] (Safe.seq (Safe.seq (Safe.region ?_)))
 simp only [c5b, E1, seval, a9d]
 refine Safe.cond ?_
 simp only [E1, seval]
 by_cases hlen : A.length = B.length
 ·have : ((A.length : Int) = B.length) := by omega
  simp only [this, E1, seval]
  refine Safe.skip (Safe.seq (Safe.seq (Safe.region ?_)))
  simp only [c4X, E1, seval, a9d]
  refine Safe.block (Safe.loop ?_)
  have key : ∀ n, n ≤ A.length → A.drop n = B.drop n → Safe ⟨Pr, fun _ _ => false, b0v, 45, [.tmp 4], H.length⟩ [.inLoop c5e, .inBlock 0, .code ((ACode.region b4L false).seq .ret)]
    [(0, natV A), (1, natV B), (5, .int .i64 ((n : Int) - 1))] (hap H []) fun r' H' => r' = .int .i64 (cmpI (val a) (val b)) ∧ ∃ L, H' = hap H L := by
   intro n
   induction n with
   | zero =>
    intro _ hd
    refine Safe.inLoop (Safe.seq (Safe.seq (Safe.region ?_)))
    simp only [b7t, E1, seval]
    refine Safe.cond ?_
    simp only [E1, seval, show ¬ ((0 : Int) ≤ ((0 : Nat) : Int) - 1) by omega]
    refine Safe.exit rfl (Safe.seq (Safe.region ?_))
    simp only [b4L, E1, seval]
    refine Safe.retn ?_
    simp only [E1, seval]
    have : val a = val b := by
     simp only [List.drop_zero] at hd
     rw [← va, ← vb, hd]
    refine ⟨?_, [], rfl⟩
    simp [cmpI, this]
   | succ m ih =>
    intro hm hd
    refine Safe.inLoop (Safe.seq (Safe.seq (Safe.region ?_)))
    simp only [b7t, E1, seval]
    refine Safe.cond ?_
    have e1 : ((m + 1 : Nat) : Int) - 1 = (m : Int) := by omega
    simp only [E1, seval, e1, Int.natCast_nonneg]
    refine Safe.skip (Safe.seq (Safe.block (Safe.seq (Safe.regionD ?_))))
    simp only [c4W, E1, seval, a0W _ A _ m (by omega), a0W _ B _ m (by omega)]
    refine Safe.cond ?_
    simp only [E1, seval]
    by_cases hq : A.getD m 0 = B.getD m 0
    ·simp only [hq, E1, seval]
     refine Safe.skip (Safe.inBlock (Safe.region ?_))
     simp only [c2d, E1, seval]
     refine Safe.keep [0, 1, 5] ?_
     have := na.len
     simp only [E1, seval, a0e (n := (m : Int) - 1) (by omega) (by omega)]
     refine ih (by omega) ?_
     rw [List.drop_eq_getElem_cons (by omega), List.drop_eq_getElem_cons (l := B) (by omega), hd]
     simp only [List.getD_eq_getElem?_getD, List.getElem?_eq_getElem (show m < A.length by omega), List.getElem?_eq_getElem (show m < B.length by omega), Option.getD_some] at hq
     rw [hq]
    ·have hq' : ¬ ((A.getD m 0 : Nat) : Int) = ((B.getD m 0 : Nat) : Int) := by omega
     simp only [hq', E1, seval]
     refine Safe.seq (Safe.seq (Safe.regionD ?_))
     simp only [c4V, E1, seval, a0W _ A _ m (by omega), a0W _ B _ m (by omega)]
     refine Safe.cond ?_
     simp only [E1, seval]
     by_cases hlt : A.getD m 0 < B.getD m 0
     ·have hlt' : ((A.getD m 0 : Nat) : Int) < ((B.getD m 0 : Nat) : Int) := by omega
      simp only [hlt', E1, seval]
      refine Safe.seq (Safe.region ?_)
      simp only [c2f, E1, seval]
      refine Safe.retn ?_
      simp only [E1, seval]
      have := b5y na.lim nb.lim hd (by omega) (by omega) hlen hlt
      refine ⟨?_, [], rfl⟩
      rw [← va, ← vb]; simp [cmpI, this]
     ·have hlt' : ¬ ((A.getD m 0 : Nat) : Int) < ((B.getD m 0 : Nat) : Int) := by omega
      simp only [hlt', E1, seval]
      refine Safe.skip (Safe.seq (Safe.region ?_))
      simp only [c2e, E1, seval]
      refine Safe.retn ?_
      simp only [E1, seval]
      have := b5y nb.lim na.lim hd.symm (by omega) (by omega) hlen.symm (show B.getD m 0 < A.getD m 0 by omega)
      refine ⟨?_, [], rfl⟩
      rw [← va, ← vb]; simp [cmpI, this, Nat.lt_asymm this]
  refine Safe.keep [0, 1, 5] ?_
  have := na.len
  have hk := key A.length (Nat.le_refl _) (by rw [List.drop_length, hlen, List.drop_length])
  simp only [E1, seval, ← hlen, a0e (n := (A.length : Int) - 1) (by omega) (by omega)]
  exact hk
 ·have : ¬ ((A.length : Int) = B.length) := by omega
  simp only [this, E1, seval]
  refine Safe.seq (Safe.seq (Safe.region ?_))
  simp only [c5a, E1, seval, a9d]
  refine Safe.cond ?_
  simp only [E1, seval]
  by_cases hlt : A.length < B.length
  ·have hlt' : ((A.length : Int) < B.length) := by omega
   simp only [hlt', E1, seval]
   refine Safe.seq (Safe.region ?_)
   simp only [c4Z, E1, seval]
   refine Safe.retn ?_
   simp only [E1, seval]
   have : val a < val b := b6W (by rw [hA, hB]; exact hlt)
   refine ⟨?_, [], rfl⟩
   simp [cmpI, this]
  ·have hlt' : ¬ ((A.length : Int) < B.length) := by omega
   simp only [hlt', E1, seval]
   refine Safe.skip (Safe.seq (Safe.region ?_))
   simp only [c4Y, E1, seval]
   refine Safe.retn ?_
   simp only [E1, seval]
   have : val b < val a := b6W (by rw [hA, hB]; omega)
   refine ⟨?_, [], rfl⟩
   simp [cmpI, this, Nat.lt_asymm this]
theorem b3w (n : Nat) (h : n < 4294967296) : a0g Pr a1n [.int .u32 n] (.int .i64 (blen n)) := by
 refine a0g.intro b6f b6e (by simp only [List.length_cons, List.length_nil]; omega) (.int _ _) fun H hH => ?_
 refine Safe.seq (Safe.region ?_)
 simp only [a9l, E1, Nat.reduceAdd, Nat.reduceEqDiff, reduceCtorEq, ↓reduceIte]
 have stop : ∀ (m s : Nat) (env : Env), m < 256 → s ≤ 24 → look env 0 = .int .u32 m → look env 2 = .int .i64 s → s + blen m = blen n → Safe ⟨Pr, fun _ _ => false, a1n, 19, [.tmp 2], H.length⟩ [.code ((ACode.region a2M false).seq .ret)] env (hap H [])
   fun r' H' => r' = .int .i64 (blen n) ∧ ∃ L, H' = hap H L := by
  intro m s env hm hs h0 h2 hb
  refine Safe.seq (Safe.region ?_)
  have hw : IntKind.wrap .u8 (m : Int) = m := by simp [IntKind.wrap, IntKind.bits, IntKind.signed]; omega
  simp only [a2M, E1, Nat.reduceAdd, Nat.reduceEqDiff, reduceCtorEq, ↓reduceIte, h0, h2, hw, d2f]
  have tab : ∀ m : Fin 256, c7C.data.toList.getD m.val 0 = UInt8.ofNat (blen m.val) ∧ blen m.val ≤ 8 := by decide +kernel
  have ht : c7C.data.toList.getD m 0 = UInt8.ofNat (blen m) ∧ blen m ≤ 8 := tab ⟨m, hm⟩
  have hsz : c7C.size = 256 := by decide +kernel
  rw [if_pos (by rw [hsz]; omega)]
  simp only [Int.toNat_natCast, ht.1, E1, Nat.reduceAdd, Nat.reduceEqDiff, reduceCtorEq, ↓reduceIte]
  have h8 : ((UInt8.ofNat (blen m)).toNat : Nat) = blen m := by
   have := ht.2
   simp [UInt8.toNat_ofNat']; omega
  refine Safe.retn ?_
  have := ht.2
  simp only [E1, Nat.reduceAdd, Nat.reduceEqDiff, reduceCtorEq, ↓reduceIte, h8, a0e (n := (blen m : Int)) (by omega) (by omega)]
  rw [a0e (by omega) (by omega)]
  exact ⟨by rw [← hb]; rfl, [], rfl⟩
 have mid : ∀ (m s : Nat) (env : Env), m < 65536 → s ≤ 16 → look env 0 = .int .u32 m → look env 2 = .int .i64 s → s + blen m = blen n → Safe ⟨Pr, fun _ _ => false, a1n, 19, [.tmp 2], H.length⟩
   [.code ((((ACode.region a4g false).seq (.cond (.t 8) ((ACode.region a4f false).seq (.region a4e false)) .skip)).seq ((ACode.region a2M false).seq .ret)))] env (hap H [])
   fun r' H' => r' = .int .i64 (blen n) ∧ ∃ L, H' = hap H L := by
  intro m s env hm hs h0 h2 hb
  refine Safe.seq (Safe.seq (Safe.region ?_))
  simp only [a4g, E1, Nat.reduceAdd, Nat.reduceEqDiff, reduceCtorEq, ↓reduceIte, h0]
  refine Safe.cond ?_
  simp only [E1, Nat.reduceAdd, Nat.reduceEqDiff, reduceCtorEq, ↓reduceIte]
  by_cases hc : 256 ≤ m
  ·have hc' : (256 : Int) ≤ (m : Int) := by omega
   simp only [hc', E1, Nat.reduceAdd, Nat.reduceEqDiff, reduceCtorEq, ↓reduceIte]
   refine Safe.seq (Safe.region ?_)
   simp only [a4f, E1, Nat.reduceAdd, Nat.reduceEqDiff, reduceCtorEq, ↓reduceIte, h0, a6d _ _ _ (show (0 : Int) ≤ 8 by decide)]
   refine Safe.region ?_
   simp only [a4e, E1, Nat.reduceAdd, Nat.reduceEqDiff, reduceCtorEq, ↓reduceIte, h2]
   have e1 : Int.fdiv (m : Int) (2 ^ min (Int.toNat 8) IntKind.u32.bits) = ((m / 256 : Nat) : Int) := by
    rw [show (2 : Int) ^ min (Int.toNat 8) IntKind.u32.bits = 256 by decide, Int.fdiv_eq_ediv_of_nonneg _ (by decide)]; omega
   have e2 : IntKind.wrap .i64 ((s : Int) + 8) = ((s + 8 : Nat) : Int) := by rw [a0e] <;> omega
   refine stop (m / 256) (s + 8) _ (by omega) (by omega) (by simp only [E1, Nat.reduceAdd, Nat.reduceEqDiff, reduceCtorEq, ↓reduceIte, e1]) (by simp only [E1, Nat.reduceAdd, Nat.reduceEqDiff, reduceCtorEq, ↓reduceIte, e2]) ?_
   have := d2c (n := m) (k := 8) (by omega)
   simp only [Nat.reducePow] at this
   omega
  ·have hc' : ¬ (256 : Int) ≤ (m : Int) := by omega
   simp only [hc', E1, Nat.reduceAdd, Nat.reduceEqDiff, reduceCtorEq, ↓reduceIte]
   exact Safe.skip (stop m s _ (by omega) (by omega) (by simp only [E1, Nat.reduceAdd, Nat.reduceEqDiff, reduceCtorEq, ↓reduceIte, h0]) (by simp only [E1, Nat.reduceAdd, Nat.reduceEqDiff, reduceCtorEq, ↓reduceIte, h2]) hb)
 refine Safe.seq (Safe.seq (Safe.region ?_))
 simp only [a9k, E1, Nat.reduceAdd, Nat.reduceEqDiff, reduceCtorEq, ↓reduceIte]
 refine Safe.cond ?_
 simp only [E1, Nat.reduceAdd, Nat.reduceEqDiff, reduceCtorEq, ↓reduceIte]
 by_cases hc : 65536 ≤ n
 ·have hc' : (65536 : Int) ≤ (n : Int) := by omega
  simp only [hc', E1, Nat.reduceAdd, Nat.reduceEqDiff, reduceCtorEq, ↓reduceIte]
  refine Safe.seq (Safe.region ?_)
  simp only [a9j, E1, Nat.reduceAdd, Nat.reduceEqDiff, reduceCtorEq, ↓reduceIte, a6d _ _ _ (show (0 : Int) ≤ 16 by decide)]
  refine Safe.region ?_
  simp only [a9i, E1, Nat.reduceAdd, Nat.reduceEqDiff, reduceCtorEq, ↓reduceIte]
  have e1 : Int.fdiv (n : Int) (2 ^ min (Int.toNat 16) IntKind.u32.bits) = ((n / 65536 : Nat) : Int) := by
   rw [show (2 : Int) ^ min (Int.toNat 16) IntKind.u32.bits = 65536 by decide, Int.fdiv_eq_ediv_of_nonneg _ (by decide)]; omega
  refine mid (n / 65536) 16 _ (by omega) (by omega) (by simp only [E1, Nat.reduceAdd, Nat.reduceEqDiff, reduceCtorEq, ↓reduceIte, e1]) (by simp only [E1, Nat.reduceAdd, Nat.reduceEqDiff, reduceCtorEq, ↓reduceIte]; rfl) ?_
  have := d2c (n := n) (k := 16) (by omega)
  simp only [Nat.reducePow] at this
  omega
 ·have hc' : ¬ (65536 : Int) ≤ (n : Int) := by omega
  simp only [hc', E1, Nat.reduceAdd, Nat.reduceEqDiff, reduceCtorEq, ↓reduceIte]
  exact Safe.skip (mid n 0 _ (by omega) (by omega) (by simp only [E1, Nat.reduceAdd, Nat.reduceEqDiff, reduceCtorEq, ↓reduceIte]) (by simp only [E1, Nat.reduceAdd, Nat.reduceEqDiff, reduceCtorEq, ↓reduceIte]; rfl) (by omega))
theorem b8L (l : List Nat) (hl : Nt l) : a0g Pr b3C [natV l] (.int .i64 (blen (val l))) := by
 refine a0g.intro c9Y c9X (by simp only [List.length_cons, List.length_nil]; omega) (.int _ _) fun H hH => ?_
 refine Safe.seq (Safe.region ?_)
 simp only [c2k, E1, seval]
 refine Safe.seq (Safe.region ?_)
 simp only [c2j, E1, seval]
 refine (a0o l hl.lim hl.len).acall ?_
 try simp only [E1, seval]
 have nl := hl.limbs
 have vl := a0r (val l)
 have hlast := b3v (val l)
 generalize hA : limbs (val l) = A at nl vl hlast ⊢
 refine Safe.keep [0] (Safe.seq (Safe.seq (Safe.region ?_)))
 simp only [c2i, E1, seval]
 refine Safe.cond ?_
 simp only [E1, seval]
 rcases List.eq_nil_or_concat A with rfl | ⟨A', d, rfl⟩
 ·simp only [E1, seval, Int.natCast_zero]
  refine Safe.seq (Safe.region ?_)
  simp only [c2h, E1, seval]
  refine Safe.retn ?_
  simp only [E1, seval]
  rw [← vl]
  exact ⟨rfl, [], rfl⟩
 ·simp only [List.concat_eq_append] at *
  have hlen : (A' ++ [d]).length = A'.length + 1 := by simp
  have hn0 : ¬ (((A' ++ [d]).length : Int) = 0) := by omega
  have hg : (A' ++ [d]).getD A'.length 0 = d := by simp
  have hd : d ≠ 0 := by simpa using hlast
  have hlt : d < 4294967296 := nl.lim d (by simp)
  have := nl.len
  have hw : IntKind.i64.wrap (((A' ++ [d]).length : Int) - 1) = (A'.length : Int) := by rw [hlen, a0e] <;> omega
  simp only [hn0, E1, seval]
  refine Safe.skip (Safe.seq (Safe.region ?_))
  simp only [c2g, E1, seval, hw, a0W _ (A' ++ [d]) _ A'.length (by omega), hg]
  refine (b3w d hlt).acall ?_
  simp only [E1, seval]
  refine Safe.retn ?_
  simp only [E1, seval]
  have hb : blen d ≤ 32 := by
   rcases Nat.lt_or_ge 32 (blen d) with h | h
   ·have := c3u hd
    have := Nat.pow_le_pow_right (show 0 < 2 by decide) (show 32 ≤ blen d - 1 by omega)
    omega
   ·exact h
  rw [a0e (n := 32 * (A'.length : Int)) (by omega) (by omega), a0e (by omega) (by omega)]
  refine ⟨?_, [], rfl⟩
  rw [← vl, d4l (b7I.1 nl.lim).1 hd]
  congr 1
theorem c1p (a b : List Nat) (la : Lim a) (lb : Lim b) (ha : a.length < 17592186044416) (hb : b.length < 17592186044416) : a0g Pr a8I [natV a, natV b] (natV (limbs (val a + val b))) := by
 refine a0g.intro d3D d3C (by simp only [List.length_cons, List.length_nil]; omega) (a3w _) fun H hH => ?_
 refine Safe.seq (Safe.region ?_)
 have hLB : LB = 4294967296 := rfl
 simp only [c5k, E1, Nat.reduceAdd, Nat.reduceEqDiff, reduceCtorEq, ↓reduceIte]
 have main : ∀ (a b : List Nat) (env : Env) (s : Nat), Lim a → Lim b → b.length ≤ a.length → a.length < 17592186044416 → val a + val b = s → look env 0 = natV a → look env 1 = natV b →
   Safe ⟨Pr, fun _ _ => false, a8I, 58, [.tmp 4], H.length⟩ [.code ((ACode.region b7x false).seq ((ACode.region b7w false).seq (((ACode.region b7v false).seq (.block 0 (.loop b3q))).seq ((ACode.region a8m false).seq ((ACode.region a8l false).seq .ret)))))]
    env (hap H []) fun r' H' => r' = natV (limbs s) ∧ ∃ L, H' = hap H L := by
  intro a b env s la lb hle ha hs h0 h1
  refine Safe.seq (Safe.region ?_)
  have hw : IntKind.wrap .i64 ((a.length : Int) + 1) = ((a.length + 1 : Nat) : Int) := by rw [a0e] <;> omega
  simp only [b7x, E1, Nat.reduceAdd, Nat.reduceEqDiff, reduceCtorEq, ↓reduceIte, h0, hw, b3s _ H [] _ _ (a.length + 1) (by omega)]
  refine Safe.seq (Safe.region ?_)
  simp only [b7w, E1, Nat.reduceAdd, Nat.reduceEqDiff, reduceCtorEq, ↓reduceIte]
  refine Safe.seq (Safe.seq (Safe.region ?_))
  simp only [b7v, E1, Nat.reduceAdd, Nat.reduceEqDiff, reduceCtorEq, ↓reduceIte, h0]
  refine Safe.block (Safe.loop ?_)
  have key : ∀ (k i c : Nat) (x : List Nat), i + k = a.length → x.length = i → Lim x → c ≤ 1 → val x + LB ^ i * c = val (a.take i) + val (b.take i) →
    Safe ⟨Pr, fun _ _ => false, a8I, 58, [.tmp 4], H.length⟩ [.inLoop b3q, .inBlock 0, .code ((ACode.region a8m false).seq ((ACode.region a8l false).seq .ret))]
     [(0, natV a), (1, natV b), (5, .mu (lid H 0) 0 (a.length + 1) (some (a.length + 1))), (6, .int .u64 c), (20, .int .i64 a.length), (21, .int .i64 i)]
     (hap H [some ⟨1, u32s (x ++ List.replicate (k + 1) 0)⟩]) fun r' H' => r' = natV (limbs s) ∧ ∃ L, H' = hap H L := by
   intro k
   induction k with
   | zero =>
    intro i c x hik hx lx hc hv
    have hi : i = a.length := by omega
    subst hi
    refine Safe.inLoop (Safe.seq (Safe.region ?_))
    simp only [b7u, E1, Nat.reduceAdd, Nat.reduceEqDiff, reduceCtorEq, ↓reduceIte]
    refine Safe.seq (Safe.cond ?_)
    simp only [E1, Nat.reduceAdd, Nat.reduceEqDiff, reduceCtorEq, ↓reduceIte, Int.lt_irrefl]
    refine Safe.exit rfl (Safe.seq (Safe.region ?_))
    have hcw : IntKind.wrap .u32 (c : Int) = (c : Int) := a8W (by omega) (by omega)
    simp only [a8m, E1, Nat.reduceAdd, Nat.reduceEqDiff, reduceCtorEq, ↓reduceIte, b7i _ _ _ _ _ _ a.length (Nat.lt_succ_self _), hcw, c4i _ _ _ a.length c (show a.length < (x ++ List.replicate (0 + 1) 0).length by simp [hx])]
    rw [← hx, c6c, hx]
    simp only [List.replicate_zero, List.append_nil]
    have hlen : a.length + 1 = (x ++ [c]).length := by simp [hx]
    refine Safe.freeze 0 (b := ⟨1, u32s (x ++ [c])⟩) hH rfl rfl (a2r _) ?_
    refine Safe.seq (Safe.region ?_)
    simp only [a8l, E1, Nat.reduceAdd, Nat.reduceEqDiff, reduceCtorEq, ↓reduceIte, hlen]
    refine (a0o (x ++ [c]) (a3X lx (by omega)) (by omega)).acall ?_
    try simp only [E1, Nat.reduceAdd, Nat.reduceEqDiff, reduceCtorEq, ↓reduceIte]
    refine Safe.retn ?_
    simp only [E1, Nat.reduceAdd, Nat.reduceEqDiff, reduceCtorEq, ↓reduceIte]
    rw [List.take_length, List.take_of_length_le hle] at hv
    rw [a7u, hx, hv, hs]
    first | exact ⟨rfl, _, rfl⟩ | exact ⟨_, rfl⟩ | exact ⟨trivial, _, rfl⟩
   | succ k ih =>
    intro i c x hik hx lx hc hv
    refine Safe.inLoop (Safe.seq (Safe.region ?_))
    simp only [b7u, E1, Nat.reduceAdd, Nat.reduceEqDiff, reduceCtorEq, ↓reduceIte]
    refine Safe.seq (Safe.cond ?_)
    have hlt : (i : Int) < (a.length : Int) := by omega
    simp only [E1, Nat.reduceAdd, Nat.reduceEqDiff, reduceCtorEq, ↓reduceIte, hlt]
    refine Safe.skip (Safe.seq (Safe.block (Safe.seq (Safe.region ?_))))
    simp only [c5h, E1, Nat.reduceAdd, Nat.reduceEqDiff, reduceCtorEq, ↓reduceIte]
    refine Safe.seq (Safe.region ?_)
    have xa := a2n la i
    have xb := a2n lb i
    have h1w : IntKind.wrap .u64 ((a.getD i 0 : Nat) : Int) = ((a.getD i 0 : Nat) : Int) := a1w (by omega) (by omega)
    have h2w : IntKind.wrap .u64 ((c : Int) + ((a.getD i 0 : Nat) : Int)) = ((c + a.getD i 0 : Nat) : Int) := by rw [a1w] <;> omega
    simp only [c5g, E1, Nat.reduceAdd, Nat.reduceEqDiff, reduceCtorEq, ↓reduceIte, a0W _ a _ i (by omega), h1w, h2w]
    refine Safe.seq (Safe.seq (Safe.region ?_))
    simp only [c5f, E1, Nat.reduceAdd, Nat.reduceEqDiff, reduceCtorEq, ↓reduceIte]
    refine Safe.cond ?_
    simp only [E1, Nat.reduceAdd, Nat.reduceEqDiff, reduceCtorEq, ↓reduceIte]
    have rest : ∀ env : Env, look env 0 = natV a → look env 1 = natV b → look env 5 = .mu (lid H 0) 0 (a.length + 1) (some (a.length + 1)) → look env 6 = .int .u64 (c + a.getD i 0 + b.getD i 0 : Nat) → look env 7 = .int .i64 i → look env 20 = .int .i64 a.length → look env 21 = .int .i64 i →
      Safe ⟨Pr, fun _ _ => false, a8I, 58, [.tmp 4], H.length⟩ [.code ((ACode.region b4O false).seq (.region b4N false)), .inBlock 1, .code (.region b4M false), .inLoop b3q, .inBlock 0, .code ((ACode.region a8m false).seq ((ACode.region a8l false).seq .ret))]
       env (hap H [some ⟨1, u32s (x ++ List.replicate (k + 1 + 1) 0)⟩]) fun r' H' => r' = natV (limbs s) ∧ ∃ L, H' = hap H L := by
     intro env e0 e1 e5 e6 e7 e20 e21
     refine Safe.seq (Safe.region ?_)
     have hcw : IntKind.wrap .u32 ((c + a.getD i 0 + b.getD i 0 : Nat) : Int) = (((c + a.getD i 0 + b.getD i 0) % LB : Nat) : Int) := a2O _
     simp only [b4O, E1, Nat.reduceAdd, Nat.reduceEqDiff, reduceCtorEq, ↓reduceIte, e5, e6, e7, b7i _ _ _ _ _ _ i (show i < a.length + 1 by omega), hcw, c4i _ _ _ i _ (show i < (x ++ List.replicate (k + 1 + 1) 0).length by simp [hx] <;> omega)]
     refine Safe.region ?_
     have hs32 : Int.fdiv ((c + a.getD i 0 + b.getD i 0 : Nat) : Int) (2 ^ min (Int.toNat 32) IntKind.u64.bits) = (((c + a.getD i 0 + b.getD i 0) / LB : Nat) : Int) := by
      rw [show (2 : Int) ^ min (Int.toNat 32) IntKind.u64.bits = (LB : Int) by decide, Int.fdiv_eq_ediv_of_nonneg _ (by decide)]; rfl
     simp only [b4N, E1, Nat.reduceAdd, Nat.reduceEqDiff, reduceCtorEq, ↓reduceIte, e6, a6d _ _ _ (show (0 : Int) ≤ 32 by decide), hs32]
     refine Safe.inBlock (Safe.region ?_)
     have hiw : IntKind.wrap .i64 ((i : Int) + 1) = ((i + 1 : Nat) : Int) := by rw [a0e] <;> omega
     simp only [b4M, E1, Nat.reduceAdd, Nat.reduceEqDiff, reduceCtorEq, ↓reduceIte, e21, hiw]
     refine Safe.keep [0, 1, 5, 6, 20, 21] ?_
     simp only [E1, Nat.reduceAdd, Nat.reduceEqDiff, reduceCtorEq, ↓reduceIte, e0, e1, e5, e20]
     have hset : (x ++ List.replicate (k + 1 + 1) 0).set i ((c + a.getD i 0 + b.getD i 0) % LB) = (x ++ [(c + a.getD i 0 + b.getD i 0) % LB]) ++ List.replicate (k + 1) 0 := by subst hx; exact c6c _ _ _
     rw [hset]
     refine ih (i + 1) _ _ (by omega) (by simp [hx]) (a3X lx (Nat.mod_lt _ (by decide))) ?_ ?_
     ·have : c + a.getD i 0 + b.getD i 0 < LB * 2 := by omega
      have := Nat.div_lt_of_lt_mul this
      omega
     ·rw [a7u, hx, a0v, a0v, Nat.pow_succ]
      exact d1i (i := 0) hv
    by_cases hib : i < b.length
    ·have hib' : (i : Int) < (b.length : Int) := by omega
     simp only [hib', E1, Nat.reduceAdd, Nat.reduceEqDiff, reduceCtorEq, ↓reduceIte]
     refine Safe.region ?_
     have h3w : IntKind.wrap .u64 ((b.getD i 0 : Nat) : Int) = ((b.getD i 0 : Nat) : Int) := a1w (by omega) (by omega)
     have h4w : IntKind.wrap .u64 (((c + a.getD i 0 : Nat) : Int) + ((b.getD i 0 : Nat) : Int)) = ((c + a.getD i 0 + b.getD i 0 : Nat) : Int) := by rw [a1w] <;> omega
     simp only [c2l, E1, Nat.reduceAdd, Nat.reduceEqDiff, reduceCtorEq, ↓reduceIte, a0W _ b _ i hib, h3w, h4w]
     exact rest _ (by simp only [E1, Nat.reduceAdd, Nat.reduceEqDiff, reduceCtorEq, ↓reduceIte]) (by simp only [E1, Nat.reduceAdd, Nat.reduceEqDiff, reduceCtorEq, ↓reduceIte]) (by simp only [E1, Nat.reduceAdd, Nat.reduceEqDiff, reduceCtorEq, ↓reduceIte]) (by simp only [E1, Nat.reduceAdd, Nat.reduceEqDiff, reduceCtorEq, ↓reduceIte]) (by simp only [E1, Nat.reduceAdd, Nat.reduceEqDiff, reduceCtorEq, ↓reduceIte]) (by simp only [E1, Nat.reduceAdd, Nat.reduceEqDiff, reduceCtorEq, ↓reduceIte]) (by simp only [E1, Nat.reduceAdd, Nat.reduceEqDiff, reduceCtorEq, ↓reduceIte])
    ·have hib' : ¬ (i : Int) < (b.length : Int) := by omega
     simp only [hib', E1, Nat.reduceAdd, Nat.reduceEqDiff, reduceCtorEq, ↓reduceIte]
     have hz : b.getD i 0 = 0 := by rw [List.getD_eq_getElem?_getD, List.getElem?_eq_none (by omega)]; rfl
     refine Safe.skip (rest _ (by simp only [E1, Nat.reduceAdd, Nat.reduceEqDiff, reduceCtorEq, ↓reduceIte]) (by simp only [E1, Nat.reduceAdd, Nat.reduceEqDiff, reduceCtorEq, ↓reduceIte]) (by simp only [E1, Nat.reduceAdd, Nat.reduceEqDiff, reduceCtorEq, ↓reduceIte]) (by simp only [E1, Nat.reduceAdd, Nat.reduceEqDiff, reduceCtorEq, ↓reduceIte, hz]) (by simp only [E1, Nat.reduceAdd, Nat.reduceEqDiff, reduceCtorEq, ↓reduceIte]) (by simp only [E1, Nat.reduceAdd, Nat.reduceEqDiff, reduceCtorEq, ↓reduceIte]) (by simp only [E1, Nat.reduceAdd, Nat.reduceEqDiff, reduceCtorEq, ↓reduceIte]))
  refine Safe.keep [0, 1, 5, 6, 20, 21] ?_
  simp only [E1, Nat.reduceAdd, Nat.reduceEqDiff, reduceCtorEq, ↓reduceIte, h0, h1]
  exact key a.length 0 0 [] (by omega) rfl c2O (by omega) (by simp [val])
 refine Safe.seq (Safe.seq (Safe.region ?_))
 simp only [c5j, E1, Nat.reduceAdd, Nat.reduceEqDiff, reduceCtorEq, ↓reduceIte]
 refine Safe.cond ?_
 simp only [E1, Nat.reduceAdd, Nat.reduceEqDiff, reduceCtorEq, ↓reduceIte]
 by_cases hlt : a.length < b.length
 ·have hlt' : (a.length : Int) < (b.length : Int) := by omega
  simp only [hlt', E1, Nat.reduceAdd, Nat.reduceEqDiff, reduceCtorEq, ↓reduceIte]
  refine Safe.region ?_
  simp only [c5i, E1, Nat.reduceAdd, Nat.reduceEqDiff, reduceCtorEq, ↓reduceIte]
  exact main b a _ _ lb la (by omega) hb (Nat.add_comm _ _) (by simp only [E1, Nat.reduceAdd, Nat.reduceEqDiff, reduceCtorEq, ↓reduceIte]) (by simp only [E1, Nat.reduceAdd, Nat.reduceEqDiff, reduceCtorEq, ↓reduceIte])
 ·have hlt' : ¬ (a.length : Int) < (b.length : Int) := by omega
  simp only [hlt', E1, Nat.reduceAdd, Nat.reduceEqDiff, reduceCtorEq, ↓reduceIte]
  exact Safe.skip (main a b _ _ la lb (by omega) ha rfl (by simp only [E1, Nat.reduceAdd, Nat.reduceEqDiff, reduceCtorEq, ↓reduceIte]) (by simp only [E1, Nat.reduceAdd, Nat.reduceEqDiff, reduceCtorEq, ↓reduceIte]))
theorem c7T (a b : List Nat) (la : Lim a) (lb : Lim b) (ha : a.length ≤ 17592186044416) (hb : b.length ≤ a.length) (hv : val b ≤ val a) : a0g Pr b0u [natV a, natV b] (natV (limbs (val a - val b))) := by
 refine a0g.intro c9R c9Q (by simp only [List.length_cons, List.length_nil]; omega) (a3w _) fun H hH => ?_
 refine Safe.seq (Safe.region ?_)
 have hLB : LB = 4294967296 := rfl
 simp only [c1F, E1, Nat.reduceAdd, Nat.reduceEqDiff, reduceCtorEq, ↓reduceIte]
 refine Safe.seq (Safe.region ?_)
 simp only [c1E, E1, Nat.reduceAdd, Nat.reduceEqDiff, reduceCtorEq, ↓reduceIte, b3s _ H [] _ _ a.length (by omega)]
 refine Safe.seq (Safe.region ?_)
 simp only [c1D, E1, Nat.reduceAdd, Nat.reduceEqDiff, reduceCtorEq, ↓reduceIte]
 refine Safe.seq (Safe.seq (Safe.region ?_))
 simp only [c1C, E1, Nat.reduceAdd, Nat.reduceEqDiff, reduceCtorEq, ↓reduceIte]
 refine Safe.block (Safe.loop ?_)
 have key : ∀ (k i c : Nat) (x : List Nat), i + k = a.length → x.length = i → Lim x → c ≤ 1 → val (a.take i) + LB ^ i * c = val x + val (b.take i) →
    Safe ⟨Pr, fun _ _ => false, b0u, 45, [.tmp 4], H.length⟩ [.inLoop b4E, .inBlock 0, .code ((ACode.region a8X false).seq .ret)]
     [(0, natV a), (1, natV b), (5, .mu (lid H 0) 0 a.length (some a.length)), (6, .int .u64 c), (13, .int .i64 a.length), (14, .int .i64 i)]
     (hap H [some ⟨1, u32s (x ++ List.replicate k 0)⟩]) fun r' H' => r' = natV (limbs (val a - val b)) ∧ ∃ L, H' = hap H L := by
  intro k
  induction k with
  | zero =>
   intro i c x hik hx lx hc hv2
   have hi : i = a.length := by omega
   subst hi
   refine Safe.inLoop (Safe.seq (Safe.region ?_))
   simp only [b4D, E1, Nat.reduceAdd, Nat.reduceEqDiff, reduceCtorEq, ↓reduceIte]
   refine Safe.seq (Safe.cond ?_)
   simp only [E1, Nat.reduceAdd, Nat.reduceEqDiff, reduceCtorEq, ↓reduceIte, Int.lt_irrefl]
   refine Safe.exit rfl ?_
   simp only [List.replicate_zero, List.append_nil]
   refine Safe.freeze 0 (b := ⟨1, u32s x⟩) hH rfl rfl (a2r _) ?_
   refine Safe.seq (Safe.region ?_)
   simp only [a8X, E1, Nat.reduceAdd, Nat.reduceEqDiff, reduceCtorEq, ↓reduceIte, ← hx]
   refine (a0o x lx (by omega)).acall ?_
   try simp only [E1, Nat.reduceAdd, Nat.reduceEqDiff, reduceCtorEq, ↓reduceIte]
   refine Safe.retn ?_
   simp only [E1, Nat.reduceAdd, Nat.reduceEqDiff, reduceCtorEq, ↓reduceIte]
   rw [List.take_length, List.take_of_length_le hb] at hv2
   have h1 := a1V lx
   rw [hx] at h1
   have hc0 : c = 0 := by
    rcases Nat.eq_zero_or_pos c with h | h
    ·exact h
    ·have : c = 1 := by omega
     subst this
     omega
   subst hc0
   have : val x = val a - val b := by omega
   rw [this]
   first | exact ⟨rfl, _, rfl⟩ | exact ⟨_, rfl⟩ | exact ⟨trivial, _, rfl⟩
  | succ k ih =>
   intro i c x hik hx lx hc hv2
   refine Safe.inLoop (Safe.seq (Safe.region ?_))
   simp only [b4D, E1, Nat.reduceAdd, Nat.reduceEqDiff, reduceCtorEq, ↓reduceIte]
   refine Safe.seq (Safe.cond ?_)
   have hlt : (i : Int) < (a.length : Int) := by omega
   simp only [E1, Nat.reduceAdd, Nat.reduceEqDiff, reduceCtorEq, ↓reduceIte, hlt]
   refine Safe.skip (Safe.seq (Safe.block (Safe.seq (Safe.region ?_))))
   simp only [c1B, E1, Nat.reduceAdd, Nat.reduceEqDiff, reduceCtorEq, ↓reduceIte]
   refine Safe.seq (Safe.region ?_)
   have xa := a2n la i
   have xb := a2n lb i
   have h1w : IntKind.wrap .u64 ((a.getD i 0 : Nat) : Int) = ((a.getD i 0 : Nat) : Int) := a1w (by omega) (by omega)
   simp only [c1A, E1, Nat.reduceAdd, Nat.reduceEqDiff, reduceCtorEq, ↓reduceIte, a0W _ a _ i (by omega), h1w]
   refine Safe.seq (Safe.seq (Safe.region ?_))
   simp only [c1z, E1, Nat.reduceAdd, Nat.reduceEqDiff, reduceCtorEq, ↓reduceIte]
   refine Safe.cond ?_
   simp only [E1, Nat.reduceAdd, Nat.reduceEqDiff, reduceCtorEq, ↓reduceIte]
   have rest : ∀ env : Env, look env 0 = natV a → look env 1 = natV b → look env 5 = .mu (lid H 0) 0 a.length (some a.length) → look env 8 = .int .u64 (((a.getD i 0 : Nat) - (c : Int) - (b.getD i 0 : Nat)) % 18446744073709551616) → look env 7 = .int .i64 i → look env 13 = .int .i64 a.length → look env 14 = .int .i64 i →
      Safe ⟨Pr, fun _ _ => false, b0u, 45, [.tmp 4], H.length⟩ [.code ((ACode.region b4C false).seq (.region b2t false)), .inBlock 1, .code (.region b2r false), .inLoop b4E, .inBlock 0, .code ((ACode.region a8X false).seq .ret)]
       env (hap H [some ⟨1, u32s (x ++ List.replicate (k + 1) 0)⟩]) fun r' H' => r' = natV (limbs (val a - val b)) ∧ ∃ L, H' = hap H L := by
    intro env e0 e1 e5 e8 e7 e13 e14
    refine Safe.seq (Safe.region ?_)
    obtain ⟨d, bo, hd, hbo, hdl, hD, hB⟩ : ∃ d bo : Nat, a.getD i 0 + LB * bo = d + c + b.getD i 0 ∧ bo ≤ 1 ∧ d < LB ∧ (((a.getD i 0 : Nat) - (c : Int) - (b.getD i 0 : Nat)) % 18446744073709551616) % 4294967296 = (d : Int) ∧ (((a.getD i 0 : Nat) - (c : Int) - (b.getD i 0 : Nat)) % 18446744073709551616) / 9223372036854775808 = (bo : Int) := by
     by_cases hlt : a.getD i 0 < c + b.getD i 0
     ·exact ⟨a.getD i 0 + LB - c - b.getD i 0, 1, by omega, by omega, by omega, by omega, by omega⟩
     ·exact ⟨a.getD i 0 - c - b.getD i 0, 0, by omega, by omega, by omega, by omega, by omega⟩
    simp only [b4C, E1, Nat.reduceAdd, Nat.reduceEqDiff, reduceCtorEq, ↓reduceIte, e5, e8, e7, b7i _ _ _ _ _ _ i (show i < a.length by omega), b5w, hD, c4i _ _ _ i _ (show i < (x ++ List.replicate (k + 1) 0).length by simp [hx])]
    refine Safe.region ?_
    have hs63 : ∀ n : Int, Int.fdiv n (2 ^ min (Int.toNat 63) IntKind.u64.bits) = n / 9223372036854775808 := by
     intro n
     rw [show (2 : Int) ^ min (Int.toNat 63) IntKind.u64.bits = 9223372036854775808 by decide, Int.fdiv_eq_ediv_of_nonneg _ (by decide)]
    simp only [b2t, E1, Nat.reduceAdd, Nat.reduceEqDiff, reduceCtorEq, ↓reduceIte, e8, a6d _ _ _ (show (0 : Int) ≤ 63 by decide), hs63, hB]
    refine Safe.inBlock (Safe.region ?_)
    have hiw : IntKind.wrap .i64 ((i : Int) + 1) = ((i + 1 : Nat) : Int) := by rw [a0e] <;> omega
    simp only [b2r, E1, Nat.reduceAdd, Nat.reduceEqDiff, reduceCtorEq, ↓reduceIte, e14, hiw]
    refine Safe.keep [0, 1, 5, 6, 13, 14] ?_
    simp only [E1, Nat.reduceAdd, Nat.reduceEqDiff, reduceCtorEq, ↓reduceIte, e0, e1, e5, e13]
    have hset : (x ++ List.replicate (k + 1) 0).set i d = (x ++ [d]) ++ List.replicate k 0 := by subst hx; exact c6c _ _ _
    rw [hset]
    refine ih (i + 1) bo _ (by omega) (by simp [hx]) (a3X lx hdl) hbo ?_
    rw [a7u, hx, a0v, a0v, Nat.pow_succ]
    exact d6e hv2 hd
   by_cases hib : i < b.length
   ·have hib' : (i : Int) < (b.length : Int) := by omega
    simp only [hib', E1, Nat.reduceAdd, Nat.reduceEqDiff, reduceCtorEq, ↓reduceIte]
    refine Safe.region ?_
    have h3w : IntKind.wrap .u64 ((b.getD i 0 : Nat) : Int) = ((b.getD i 0 : Nat) : Int) := a1w (by omega) (by omega)
    have h4w : IntKind.wrap .u64 (IntKind.wrap .u64 (((a.getD i 0 : Nat) : Int) - c) - ((b.getD i 0 : Nat) : Int)) = ((a.getD i 0 : Nat) - (c : Int) - (b.getD i 0 : Nat)) % 18446744073709551616 := by
     rw [a2j, a2j]; omega
    simp only [c1y, E1, Nat.reduceAdd, Nat.reduceEqDiff, reduceCtorEq, ↓reduceIte, a0W _ b _ i hib, h3w, h4w]
    exact rest _ (by simp only [E1, Nat.reduceAdd, Nat.reduceEqDiff, reduceCtorEq, ↓reduceIte]) (by simp only [E1, Nat.reduceAdd, Nat.reduceEqDiff, reduceCtorEq, ↓reduceIte]) (by simp only [E1, Nat.reduceAdd, Nat.reduceEqDiff, reduceCtorEq, ↓reduceIte]) (by simp only [E1, Nat.reduceAdd, Nat.reduceEqDiff, reduceCtorEq, ↓reduceIte]) (by simp only [E1, Nat.reduceAdd, Nat.reduceEqDiff, reduceCtorEq, ↓reduceIte]) (by simp only [E1, Nat.reduceAdd, Nat.reduceEqDiff, reduceCtorEq, ↓reduceIte]) (by simp only [E1, Nat.reduceAdd, Nat.reduceEqDiff, reduceCtorEq, ↓reduceIte])
   ·have hib' : ¬ (i : Int) < (b.length : Int) := by omega
    simp only [hib', E1, Nat.reduceAdd, Nat.reduceEqDiff, reduceCtorEq, ↓reduceIte]
    have hz : b.getD i 0 = 0 := by rw [List.getD_eq_getElem?_getD, List.getElem?_eq_none (by omega)]; rfl
    refine Safe.skip (rest _ (by simp only [E1, Nat.reduceAdd, Nat.reduceEqDiff, reduceCtorEq, ↓reduceIte]) (by simp only [E1, Nat.reduceAdd, Nat.reduceEqDiff, reduceCtorEq, ↓reduceIte]) (by simp only [E1, Nat.reduceAdd, Nat.reduceEqDiff, reduceCtorEq, ↓reduceIte]) (by simp only [E1, Nat.reduceAdd, Nat.reduceEqDiff, reduceCtorEq, ↓reduceIte, hz, a2j]; simp) (by simp only [E1, Nat.reduceAdd, Nat.reduceEqDiff, reduceCtorEq, ↓reduceIte]) (by simp only [E1, Nat.reduceAdd, Nat.reduceEqDiff, reduceCtorEq, ↓reduceIte]) (by simp only [E1, Nat.reduceAdd, Nat.reduceEqDiff, reduceCtorEq, ↓reduceIte]))
 refine Safe.keep [0, 1, 5, 6, 13, 14] ?_
 simp only [E1, Nat.reduceAdd, Nat.reduceEqDiff, reduceCtorEq, ↓reduceIte]
 exact key a.length 0 0 [] (by omega) rfl c2O (by omega) (by simp [val])
theorem c1n (a b : List Nat) (ha : Nt a) (hb : Nt b) (hv : val b ≤ val a) : a0g Pr c3B [natV a, natV b] (.tup [natV (limbs (val a - val b)), .int .i64 0]) := by
 refine a0g.intro d3r d3q (by simp only [List.length_cons, List.length_nil]; omega) (.tup _ (by intro c hc; simp at hc; rcases hc with rfl | rfl; exact a3w _; exact .int _ _)) fun H hH => ?_
 refine Safe.seq (Safe.region ?_)
 simp only [c4C, E1, seval]
 refine Safe.seq (Safe.seq (Safe.region ?_))
 simp only [c4B, E1, seval]
 refine (b4v a b ha hb).acall ?_
 have h0 : ¬ (cmpI (val a) (val b) < 0) := by unfold cmpI; split <;> (try split) <;> omega
 simp only [E1, seval, h0]
 refine Safe.cond ?_
 simp only [E1, seval]
 refine Safe.skip (Safe.seq (Safe.region ?_))
 simp only [c4A, E1, seval]
 refine (a0o a ha.lim ha.len).acall ?_
 try simp only [E1, seval]
 refine (a0o b hb.lim hb.len).acall ?_
 try simp only [E1, seval]
 have hlen : (limbs (val b)).length ≤ (limbs (val a)).length := by
  rcases Nat.lt_or_ge (limbs (val a)).length (limbs (val b)).length with h | h
  ·have := b6W h; omega
  ·exact h
 have := c7T (limbs (val a)) (limbs (val b)) (a0E _) (a0E _) ha.limbs.len hlen (by rw [a0r, a0r]; exact hv)
 rw [a0r, a0r] at this
 refine this.acall ?_
 try simp only [E1, seval]
 refine Safe.retn ?_
 simp only [E1, seval]
 first | exact ⟨rfl, _, rfl⟩ | exact ⟨_, rfl⟩ | exact ⟨trivial, _, rfl⟩
theorem d8A (w r : List Nat) (k d : Nat) (h : k < w.length) : (w ++ r).set k d = w.set k d ++ r := List.set_append_left _ _ h
theorem d6L (w r : List Nat) (k : Nat) (h : k < w.length) : (w ++ r).getD k 0 = w.getD k 0 := by
 simp [List.getElem?_append_left h]
theorem c1o (a b : List Nat) (ha : Nt a) (hb : Nt b) (hab : a.length + b.length ≤ 17592186044416) : a0g Pr a8H [natV a, natV b] (natV (limbs (val a * val b))) := by
 refine a0g.intro d3u d3t (by simp only [List.length_cons, List.length_nil]; omega) (a3w _) fun H hH => ?_
 refine Safe.seq (Safe.region ?_)
 have hLB : LB = 4294967296 := rfl
 simp only [c4K, E1, Nat.reduceAdd, Nat.reduceEqDiff, reduceCtorEq, ↓reduceIte]
 refine Safe.seq (Safe.region ?_)
 simp only [c4J, E1, Nat.reduceAdd, Nat.reduceEqDiff, reduceCtorEq, ↓reduceIte]
 refine (a0o a ha.lim ha.len).acall ?_
 try simp only [E1, Nat.reduceAdd, Nat.reduceEqDiff, reduceCtorEq, ↓reduceIte]
 refine (a0o b hb.lim hb.len).acall ?_
 try simp only [E1, Nat.reduceAdd, Nat.reduceEqDiff, reduceCtorEq, ↓reduceIte]
 have la := a0E (val a)
 have lb := a0E (val b)
 have va := a0r (val a)
 have vb := a0r (val b)
 have hA := a3g ha.lim
 have hB := a3g hb.lim
 generalize limbs (val a) = A at la va hA ⊢
 generalize limbs (val b) = B at lb vb hB ⊢
 refine Safe.keep [0, 1] (Safe.seq (Safe.region ?_))
 have hw : IntKind.wrap .i64 ((A.length : Int) + (B.length : Int)) = ((A.length + B.length : Nat) : Int) := by rw [a0e] <;> omega
 simp only [c4I, E1, Nat.reduceAdd, Nat.reduceEqDiff, reduceCtorEq, ↓reduceIte, hw, b3s _ H [] _ _ (A.length + B.length) (by omega)]
 refine Safe.seq (Safe.seq (Safe.region ?_))
 simp only [c4H, E1, Nat.reduceAdd, Nat.reduceEqDiff, reduceCtorEq, ↓reduceIte]
 refine Safe.block (Safe.loop ?_)
 -- the inner loop
 have inner : ∀ (todo : List AItem) (i x : Nat) (z vx : Nat), i < A.length → x = A.getD i 0 → 
   (∀ (w : List Nat) (c : Nat) (env : Env), w.length = i + B.length → Lim w → c < LB → val w + LB ^ (i + B.length) * c = vx + LB ^ i * (x * val B) →
    look env 0 = natV A → look env 1 = natV B → look env 5 = .mu (lid H 0) 0 (A.length + B.length) (some (A.length + B.length)) → look env 6 = .int .i64 i → look env 7 = .int .u64 c → look env 20 = .int .i64 A.length → look env 21 = .int .i64 i →
    Safe ⟨Pr, fun _ _ => false, a8H, 71, [.tmp 4], H.length⟩ todo env (hap H [some ⟨1, u32s (w ++ List.replicate z 0)⟩]) fun r' H' => r' = natV (limbs (val a * val b)) ∧ ∃ L, H' = hap H L) →
   ∀ (k j c : Nat) (w : List Nat), j + k = B.length → w.length = i + B.length → Lim w → c < LB → val w + LB ^ (i + j) * c = vx + LB ^ i * (x * val (B.take j)) →
    Safe ⟨Pr, fun _ _ => false, a8H, 71, [.tmp 4], H.length⟩ (.inLoop c4L :: .inBlock 2 :: todo)
     [(0, natV A), (1, natV B), (5, .mu (lid H 0) 0 (A.length + B.length) (some (A.length + B.length))), (6, .int .i64 i), (7, .int .u64 c), (20, .int .i64 A.length), (21, .int .i64 i), (25, .int .i64 B.length), (26, .int .i64 j)]
     (hap H [some ⟨1, u32s (w ++ List.replicate z 0)⟩]) fun r' H' => r' = natV (limbs (val a * val b)) ∧ ∃ L, H' = hap H L := by
  intro todo i x z vx hi hx hk k
  induction k with
  | zero =>
   intro j c w hjk hw lw hc hv
   have hj : j = B.length := by omega
   subst hj
   refine Safe.inLoop (Safe.seq (Safe.region ?_))
   simp only [b7q, E1, Nat.reduceAdd, Nat.reduceEqDiff, reduceCtorEq, ↓reduceIte]
   refine Safe.seq (Safe.cond ?_)
   simp only [E1, Nat.reduceAdd, Nat.reduceEqDiff, reduceCtorEq, ↓reduceIte, Int.lt_irrefl]
   refine Safe.exit rfl ?_
   rw [List.take_length] at hv
   exact hk w c _ hw lw hc hv (by simp only [E1, Nat.reduceAdd, Nat.reduceEqDiff, reduceCtorEq, ↓reduceIte]) (by simp only [E1, Nat.reduceAdd, Nat.reduceEqDiff, reduceCtorEq, ↓reduceIte]) (by simp only [E1, Nat.reduceAdd, Nat.reduceEqDiff, reduceCtorEq, ↓reduceIte]) (by simp only [E1, Nat.reduceAdd, Nat.reduceEqDiff, reduceCtorEq, ↓reduceIte]) (by simp only [E1, Nat.reduceAdd, Nat.reduceEqDiff, reduceCtorEq, ↓reduceIte]) (by simp only [E1, Nat.reduceAdd, Nat.reduceEqDiff, reduceCtorEq, ↓reduceIte]) (by simp only [E1, Nat.reduceAdd, Nat.reduceEqDiff, reduceCtorEq, ↓reduceIte])
  | succ k ih =>
   intro j c w hjk hw lw hc hv
   refine Safe.inLoop (Safe.seq (Safe.region ?_))
   simp only [b7q, E1, Nat.reduceAdd, Nat.reduceEqDiff, reduceCtorEq, ↓reduceIte]
   refine Safe.seq (Safe.cond ?_)
   have hlt : (j : Int) < (B.length : Int) := by omega
   simp only [E1, Nat.reduceAdd, Nat.reduceEqDiff, reduceCtorEq, ↓reduceIte, hlt]
   refine Safe.skip (Safe.seq (Safe.block (Safe.seq (Safe.region ?_))))
   simp only [c4D, E1, Nat.reduceAdd, Nat.reduceEqDiff, reduceCtorEq, ↓reduceIte]
   refine Safe.seq (Safe.regionD ?_)
   have xa := a2n la i
   have xb := a2n lb j
   have xw := a2n lw (i + j)
   have hfit := d9w hc xa xb xw
   have hLL : LB * LB = 18446744073709551616 := by decide
   have h1w : IntKind.wrap .u64 ((A.getD i 0 : Nat) : Int) = ((A.getD i 0 : Nat) : Int) := a1w (by omega) (by omega)
   have h2w : IntKind.wrap .u64 ((B.getD j 0 : Nat) : Int) = ((B.getD j 0 : Nat) : Int) := a1w (by omega) (by omega)
   have h3w : IntKind.wrap .u64 ((w.getD (i + j) 0 : Nat) : Int) = ((w.getD (i + j) 0 : Nat) : Int) := a1w (by omega) (by omega)
   have h4w : IntKind.wrap .u64 (((A.getD i 0 : Nat) : Int) * ((B.getD j 0 : Nat) : Int)) = ((A.getD i 0 * B.getD j 0 : Nat) : Int) := by rw [← Int.natCast_mul, a1w] <;> omega
   have h5w : IntKind.wrap .u64 (((A.getD i 0 * B.getD j 0 : Nat) : Int) + ((w.getD (i + j) 0 : Nat) : Int)) = ((A.getD i 0 * B.getD j 0 + w.getD (i + j) 0 : Nat) : Int) := by rw [a1w] <;> omega
   have h6w : IntKind.wrap .u64 ((c : Int) + ((A.getD i 0 * B.getD j 0 + w.getD (i + j) 0 : Nat) : Int)) = ((c + A.getD i 0 * B.getD j 0 + w.getD (i + j) 0 : Nat) : Int) := by rw [a1w] <;> omega
   have h7w : IntKind.wrap .i64 ((i : Int) + (j : Int)) = ((i + j : Nat) : Int) := by rw [a0e] <;> omega
   simp only [c1V, E1, Nat.reduceAdd, Nat.reduceEqDiff, reduceCtorEq, ↓reduceIte, a0W _ A _ i hi, a0W _ B _ j (by omega), h1w, h2w, h3w, h4w, h7w, b7i _ _ _ _ _ _ (i + j) (show i + j < A.length + B.length by omega), e4O _ _ (i + j) (show i + j < (w ++ List.replicate z 0).length by simp [hw]; omega),
    d6L w _ (i + j) (show i + j < w.length by omega), h5w, h6w]
   refine Safe.seq (Safe.region ?_)
   have hcw : IntKind.wrap .u32 ((c + A.getD i 0 * B.getD j 0 + w.getD (i + j) 0 : Nat) : Int) = (((c + A.getD i 0 * B.getD j 0 + w.getD (i + j) 0) % LB : Nat) : Int) := a2O _
   simp only [c1U, E1, Nat.reduceAdd, Nat.reduceEqDiff, reduceCtorEq, ↓reduceIte, h7w, hcw, b7i _ _ _ _ _ _ (i + j) (show i + j < A.length + B.length by omega), c4i _ _ _ (i + j) _ (show i + j < (w ++ List.replicate z 0).length by simp [hw]; omega), d8A w _ (i + j) _ (show i + j < w.length by omega)]
   refine Safe.region ?_
   simp only [c1T, E1, Nat.reduceAdd, Nat.reduceEqDiff, reduceCtorEq, ↓reduceIte, a6d _ _ _ (show (0 : Int) ≤ 32 by decide), e4t]
   refine Safe.inBlock (Safe.region ?_)
   have hiw : IntKind.wrap .i64 ((j : Int) + 1) = ((j + 1 : Nat) : Int) := by rw [a0e] <;> omega
   simp only [c1S, E1, Nat.reduceAdd, Nat.reduceEqDiff, reduceCtorEq, ↓reduceIte, hiw]
   refine Safe.keep [0, 1, 5, 6, 7, 20, 21, 25, 26] ?_
   simp only [E1, Nat.reduceAdd, Nat.reduceEqDiff, reduceCtorEq, ↓reduceIte]
   refine ih (j + 1) _ _ (by omega) (by simp [hw]) (e2A lw (Nat.mod_lt _ (by decide))) ?_ ?_
   ·exact Nat.div_lt_of_lt_mul hfit
   ·rw [a0v, show i + (j + 1) = (i + j) + 1 by omega, Nat.pow_succ]
    subst hx
    exact d9v (Nat.pow_add LB i j) hv (e1s (by omega)) rfl
 have outer : ∀ (k i : Nat) (x : List Nat), i + k = A.length → x.length = i + B.length → Lim x → val x = val (A.take i) * val B →
    Safe ⟨Pr, fun _ _ => false, a8H, 71, [.tmp 4], H.length⟩ [.inLoop c4M, .inBlock 0, .code ((ACode.region b4J false).seq .ret)]
     [(0, natV A), (1, natV B), (5, .mu (lid H 0) 0 (A.length + B.length) (some (A.length + B.length))), (20, .int .i64 A.length), (21, .int .i64 i)]
     (hap H [some ⟨1, u32s (x ++ List.replicate k 0)⟩]) fun r' H' => r' = natV (limbs (val a * val b)) ∧ ∃ L, H' = hap H L := by
  intro k
  induction k with
  | zero =>
   intro i x hik hx lx hv
   have hi : i = A.length := by omega
   subst hi
   refine Safe.inLoop (Safe.seq (Safe.region ?_))
   simp only [b7r, E1, Nat.reduceAdd, Nat.reduceEqDiff, reduceCtorEq, ↓reduceIte]
   refine Safe.seq (Safe.cond ?_)
   simp only [E1, Nat.reduceAdd, Nat.reduceEqDiff, reduceCtorEq, ↓reduceIte, Int.lt_irrefl]
   refine Safe.exit rfl ?_
   simp only [List.replicate_zero, List.append_nil]
   refine Safe.freeze 0 (b := ⟨1, u32s x⟩) hH rfl rfl (a2r _) ?_
   refine Safe.seq (Safe.region ?_)
   simp only [b4J, E1, Nat.reduceAdd, Nat.reduceEqDiff, reduceCtorEq, ↓reduceIte, ← hx]
   refine (a0o x lx (by omega)).acall ?_
   try simp only [E1, Nat.reduceAdd, Nat.reduceEqDiff, reduceCtorEq, ↓reduceIte]
   refine Safe.retn ?_
   simp only [E1, Nat.reduceAdd, Nat.reduceEqDiff, reduceCtorEq, ↓reduceIte]
   rw [List.take_length] at hv
   rw [hv, va, vb]
   first | exact ⟨rfl, _, rfl⟩ | exact ⟨_, rfl⟩ | exact ⟨trivial, _, rfl⟩
  | succ k ih =>
   intro i x hik hx lx hv
   refine Safe.inLoop (Safe.seq (Safe.region ?_))
   simp only [b7r, E1, Nat.reduceAdd, Nat.reduceEqDiff, reduceCtorEq, ↓reduceIte]
   refine Safe.seq (Safe.cond ?_)
   have hlt : (i : Int) < (A.length : Int) := by omega
   simp only [E1, Nat.reduceAdd, Nat.reduceEqDiff, reduceCtorEq, ↓reduceIte, hlt]
   refine Safe.skip (Safe.seq (Safe.block (Safe.seq (Safe.region ?_))))
   simp only [c4G, E1, Nat.reduceAdd, Nat.reduceEqDiff, reduceCtorEq, ↓reduceIte]
   refine Safe.seq (Safe.region ?_)
   simp only [c4F, E1, Nat.reduceAdd, Nat.reduceEqDiff, reduceCtorEq, ↓reduceIte]
   refine Safe.seq (Safe.seq (Safe.region ?_))
   simp only [c4E, E1, Nat.reduceAdd, Nat.reduceEqDiff, reduceCtorEq, ↓reduceIte]
   refine Safe.block (Safe.loop ?_)
   refine Safe.keep [0, 1, 5, 6, 7, 20, 21, 25, 26] ?_
   simp only [E1, Nat.reduceAdd, Nat.reduceEqDiff, reduceCtorEq, ↓reduceIte]
   refine inner _ i _ (k + 1) (val x) (by omega) rfl ?_ B.length 0 0 x (by omega) hx lx (by decide) (by simp [val])
   intro w c env hw lw hc hv2 e0 e1 e5 e6 e7 e20 e21
   refine Safe.region ?_
   have h7w : IntKind.wrap .i64 ((i : Int) + (B.length : Int)) = ((i + B.length : Nat) : Int) := by rw [a0e] <;> omega
   have hcw : IntKind.wrap .u32 (c : Int) = (c : Int) := a8W (by omega) (by omega)
   simp only [c1R, E1, Nat.reduceAdd, Nat.reduceEqDiff, reduceCtorEq, ↓reduceIte, e0, e1, e5, e6, e7, h7w, hcw, b7i _ _ _ _ _ _ (i + B.length) (show i + B.length < A.length + B.length by omega), c4i _ _ _ (i + B.length) _ (show i + B.length < (w ++ List.replicate (k + 1) 0).length by simp [hw])]
   refine Safe.inBlock (Safe.region ?_)
   have hiw : IntKind.wrap .i64 ((i : Int) + 1) = ((i + 1 : Nat) : Int) := by rw [a0e] <;> omega
   simp only [c1Q, E1, Nat.reduceAdd, Nat.reduceEqDiff, reduceCtorEq, ↓reduceIte, e21, hiw]
   refine Safe.keep [0, 1, 5, 20, 21] ?_
   simp only [E1, Nat.reduceAdd, Nat.reduceEqDiff, reduceCtorEq, ↓reduceIte, e0, e1, e5, e20]
   have hset : (w ++ List.replicate (k + 1) 0).set (i + B.length) c = (w ++ [c]) ++ List.replicate k 0 := by rw [← hw]; exact c6c _ _ _
   rw [hset]
   refine ih (i + 1) _ (by omega) (by simp [hw]; omega) (a3X lw hc) ?_
   rw [a7u, hw, hv2, a0v, hv, Nat.add_mul, Nat.mul_assoc]
 refine Safe.keep [0, 1, 5, 20, 21] ?_
 simp only [E1, Nat.reduceAdd, Nat.reduceEqDiff, reduceCtorEq, ↓reduceIte]
 have := outer A.length 0 (List.replicate B.length 0) (by omega) (by simp) (by intro d hd; simp at hd; omega) (by simp [c5W, val])
 rw [List.replicate_append_replicate, Nat.add_comm B.length] at this
 exact this
end Go.Abs
namespace Go.Abs
theorem a3G (neg : Bool) (l : List Nat) (hl : Nt l) : a0g Pr a1m [.bool neg, natV l] (Z (sgn neg (val l))) := by
 refine a0g.introL c7h c7g (by simp only [List.length_cons, List.length_nil]; omega) (Z_cl _) fun H hH => ?_
 have hll := hl.len
 refine Safe.seq (Safe.region ?_)
 simp only [b8j, E2, seval]
 refine Safe.seq (Safe.region ?_)
 simp only [b8i, E2, seval]
 refine Safe.seq (Safe.block (Safe.loop ?_))
 have copy : ∀ (n : Nat), n ≤ l.length → limbs (val l) = l.take n → ∀ env : Env, look env 0 = .bool neg → look env 1 = natV l → look env 4 = .loc (lid H 0) 0 0 → look env 5 = .int .i64 n →
   Safe ⟨Pr, fun _ _ => false, a1m, 32, [.cell 4 (some 2)], H.length⟩ [.code (((ACode.region a8T false).seq (.cond (.t 22) ((ACode.region a8S false).seq .ret) .skip)).seq ((ACode.region a8R false).seq ((ACode.region a8Q false).seq ((ACode.region a8P false).seq .ret))))]
    env (hap H [some ⟨2, [.agg [.bool false, .nil]]⟩]) fun r' H' => Le r' (Z (sgn neg (val l))) ∧ ∃ L, H' = hap H L := by
  intro n hn hlim env e0 e1 e4 e5
  refine Safe.seq (Safe.seq (Safe.region ?_))
  simp only [a8T, E2, seval, e5]
  refine Safe.cond ?_
  simp only [E2, seval]
  by_cases h0 : n = 0
  ·subst h0
   simp only [Int.natCast_zero, E2, seval]
   refine Safe.seq (Safe.region ?_)
   simp only [a8S, E2, seval, e4]
   refine Safe.retn ?_
   simp only [E2, seval, e4]
   refine ⟨?_, _, rfl⟩
   have : val l = 0 := by
    have := a0r (val l)
    rw [hlim] at this
    simpa [val] using this.symm
   rw [this, c0e]
   exact le_zero
  ·have h0' : ¬ ((n : Int) = 0) := by omega
   simp only [h0', E2, seval]
   refine Safe.skip (Safe.seq (Safe.region ?_))
   simp only [a8R, E2, seval, e5, b3s _ H [some ⟨2, [.agg [.bool false, .nil]]⟩] _ _ n (by omega)]
   refine Safe.seq (Safe.region ?_)
   have hc := d1Z ((28, .int .i64 n) :: []) H [some ⟨2, [.agg [.bool false, .nil]]⟩, some ⟨1, u32s (List.replicate n 0)⟩] 1 1 n (some n) (natV l) (u32s (List.replicate n 0)) (u32s l) rfl (by simp [a0U]) (c0j _ l) (by rw [a0U]; exact hn)
   simp only [a8Q, E2, seval, e1]
   rw [d1Z _ H [some ⟨2, [.agg [.bool false, .nil]]⟩, some ⟨1, u32s (List.replicate n 0)⟩] 1 1 n (some n) (natV l) (u32s (List.replicate n 0)) (u32s l) rfl (by simp [a0U]) (c0j _ l) (by rw [a0U]; exact hn)]
   simp only [E2, seval, b5z]
   refine Safe.freeze 1 (b := ⟨1, u32s (l.take n)⟩) hH rfl rfl (a2r _) ?_
   have hlen : n = (l.take n).length := by rw [List.length_take]; omega
   have hfm : frz (lid H 1) ⟨1, u32s (l.take n)⟩ (.mu (lid H 1) 0 n (some n)) = natV (l.take n) := by
    have := b3y H 1 (l.take n) (some n)
    rwa [← hlen] at this
   refine Safe.keep [0, 4, 6] ?_
   simp only [E2, seval, c8e, e0, e4, hfm, b1l H 1 0 _ 0 0 (by decide)]
   refine Safe.seq (Safe.region ?_)
   simp only [a8P, E2, seval]
   refine Safe.retn ?_
   simp only [E2, seval]
   refine ⟨?_, _, rfl⟩
   rw [← e5Y, hlim]
   have hp : 0 < val l := by
    rcases Nat.eq_zero_or_pos (val l) with h | h
    ·rw [h, a1f] at hlim
     have := congrArg List.length hlim
     simp at this; omega
    ·exact h
   simp only [hp, decide_true, Bool.and_true]
   exact Le.refl _
 have key : ∀ (n : Nat), n ≤ l.length → val (l.take n) = val l → ∀ env : Env, look env 0 = .bool neg → look env 1 = natV l → look env 4 = .loc (lid H 0) 0 0 → look env 5 = .int .i64 n →
   Safe ⟨Pr, fun _ _ => false, a1m, 32, [.cell 4 (some 2)], H.length⟩ [.inLoop b8k, .inBlock 0, .code (((ACode.region a8T false).seq (.cond (.t 22) ((ACode.region a8S false).seq .ret) .skip)).seq ((ACode.region a8R false).seq ((ACode.region a8Q false).seq ((ACode.region a8P false).seq .ret))))]
    env (hap H [some ⟨2, [.agg [.bool false, .nil]]⟩]) fun r' H' => Le r' (Z (sgn neg (val l))) ∧ ∃ L, H' = hap H L := by
  intro n
  induction n with
  | zero =>
   intro hn hv env e0 e1 e4 e5
   refine Safe.inLoop (Safe.seq (Safe.seq (Safe.region ?_)))
   simp only [b1Q, E2, seval, e1, e5, Int.natCast_zero, Int.lt_irrefl]
   refine Safe.cond ?_
   simp only [E2, seval]
   refine Safe.exit rfl (copy 0 hn ?_ _ (by simp only [E2, seval, e0]) (by simp only [E2, seval, e1]) (by simp only [E2, seval, e4]) (by simp only [E2, seval, e5] <;> rfl))
   rw [← hv]; simp [val, a1f]
  | succ n ih =>
   intro hn hv env e0 e1 e4 e5
   refine Safe.inLoop (Safe.seq (Safe.seq (Safe.region ?_)))
   have h0 : (0 : Int) < ((n + 1 : Nat) : Int) := by omega
   have hw : IntKind.wrap .i64 (((n + 1 : Nat) : Int) - 1) = (n : Int) := by rw [a0e] <;> omega
   simp only [b1Q, E2, seval, e1, e5, h0, hw, a0W _ l _ n (by omega)]
   refine Safe.cond ?_
   simp only [E2, seval]
   by_cases hd : l.getD n 0 = 0
   ·simp only [hd, Int.natCast_zero, E2, seval]
    refine Safe.skip (Safe.block (Safe.region ?_))
    simp only [b8h, E2, seval, e5, hw]
    refine Safe.inBlock (ih (by omega) ?_ _ (by simp only [E2, seval, e0]) (by simp only [E2, seval, e1]) (by simp only [E2, seval, e4]) (by simp only [E2, seval]))
    rw [← hv, a0v, hd]; simp
   ·have hd' : ¬ (((l.getD n 0 : Nat) : Int) = 0) := by omega
    simp only [hd', E2, seval]
    refine Safe.exit rfl (copy (n + 1) hn ?_ _ (by simp only [E2, seval, e0]) (by simp only [E2, seval, e1]) (by simp only [E2, seval, e4]) (by simp only [E2, seval, e5]))
    rw [← hv, b2T (hl.lim.take _)]
    rw [c7z (by omega)]; simpa using hd
 exact key l.length (Nat.le_refl _) (by rw [List.take_length]) _ (by simp only [E2, seval]) (by simp only [E2, seval]) (by simp only [E2, seval]) (by simp only [E2, seval])
theorem e1S (n : Bool) (a b : Nat) : sgn n a + sgn n b = sgn n (a + b) := by cases n <;> simp [sgn] <;> omega
theorem e1P (m n : Bool) (a b : Nat) (h : m ≠ n) (hb : b ≤ a) : sgn m a + sgn n b = sgn m (a - b) := by
 cases m <;> cases n <;> simp [sgn] at h ⊢ <;> omega
theorem d8z (m n : Bool) (a b : Nat) (h : m ≠ n) (hb : a ≤ b) : sgn m a + sgn n b = sgn n (b - a) := by
 cases m <;> cases n <;> simp [sgn] at h ⊢ <;> omega
theorem d5d (m n : Bool) (a b : Nat) : sgn m a * sgn n b = sgn (!(m == n)) (a * b) := by
 cases m <;> cases n <;> simp [sgn, Int.neg_mul, Int.mul_neg]
theorem e1R (n : Bool) (a : Nat) : sgn (!n) a = - sgn n a := by cases n <;> simp [sgn]
theorem e3x (a b : Nat) : (0 ≤ cmpI a b) = (b ≤ a) := by unfold cmpI; split <;> (try split) <;> simp <;> omega
theorem d0N (a b : Nat) : (cmpI a b < 0) = (a < b) := by unfold cmpI; split <;> (try split) <;> simp <;> omega
theorem d2u (x : ZI) (hx : Zok 17592186044416 x) : a0g Pr a8D [x.av] (Z x.z) := by
 obtain ⟨n, m⟩ := x
 have hm : Nt m := ⟨hx.lim, hx.len⟩
 simp only [ZI.av, ZI.z]
 refine a0g.intro c7m c7l (by simp only [List.length_cons, List.length_nil]; omega) (Z_cl _) fun H hH => ?_
 refine Safe.seq (Safe.region ?_)
 simp only [b8B, E2, seval]
 refine Safe.seq (Safe.region ?_)
 simp only [b8A, E2, seval]
 refine (a3G n m hm).acall ?_
 simp only [Z, E2, seval]
 refine Safe.retn ?_
 simp only [E2, seval]
 first | exact ⟨rfl, _, rfl⟩ | exact ⟨_, rfl⟩ | exact ⟨trivial, _, rfl⟩
theorem d4q (x : ZI) (hx : Zok 17592186044416 x) : a0g Pr b8b [x.av] (Z (-x.z)) := by
 obtain ⟨n, m⟩ := x
 have hm : Nt m := ⟨hx.lim, hx.len⟩
 simp only [ZI.av, ZI.z]
 refine a0g.intro c9m c9l (by simp only [List.length_cons, List.length_nil]; omega) (Z_cl _) fun H hH => ?_
 refine Safe.seq (Safe.region ?_)
 simp only [c0H, E2, seval]
 refine Safe.seq (Safe.region ?_)
 simp only [c0G, E2, seval]
 refine (a3G (!n) m hm).acall ?_
 rw [e1R]
 simp only [Z, E2, seval]
 refine Safe.retn ?_
 simp only [E2, seval]
 first | exact ⟨rfl, _, rfl⟩ | exact ⟨_, rfl⟩ | exact ⟨trivial, _, rfl⟩
theorem b6T (x : ZI) (hx : Zok 17592186044416 x) : a0g Pr b5e [x.av] (.int .i64 (blen x.z.natAbs)) := by
 obtain ⟨n, m⟩ := x
 have hm : Nt m := ⟨hx.lim, hx.len⟩
 simp only [ZI.av, ZI.z, b4p]
 refine a0g.intro c7p c7o (by simp only [List.length_cons, List.length_nil]; omega) (.int _ _) fun H hH => ?_
 refine Safe.seq (Safe.region ?_)
 simp only [b8D, E2, seval]
 refine Safe.seq (Safe.region ?_)
 simp only [b8C, E2, seval]
 refine (b8L m hm).acall ?_
 try simp only [E2, seval]
 refine Safe.retn ?_
 simp only [E2, seval]
 first | exact ⟨rfl, _, rfl⟩ | exact ⟨_, rfl⟩ | exact ⟨trivial, _, rfl⟩
theorem c7f (x y : ZI) (k l : Nat) (hx : Zok k x) (hy : Zok l y) (hkl : k + l ≤ 17592186044416) : a0g Pr a5N [x.av, y.av] (Z (x.z * y.z)) := by
 obtain ⟨n, a⟩ := x
 obtain ⟨m, b⟩ := y
 have hal := hx.len
 have hbl := hy.len
 simp only at hal hbl
 have ha : Nt a := ⟨hx.lim, by omega⟩
 have hb : Nt b := ⟨hy.lim, by omega⟩
 simp only [ZI.av, ZI.z]
 refine a0g.intro c9o c9n (by simp only [List.length_cons, List.length_nil]; omega) (Z_cl _) fun H hH => ?_
 refine Safe.seq (Safe.region ?_)
 simp only [c0J, E2, seval]
 refine Safe.seq (Safe.regionD ?_)
 simp only [c0I, E2, seval]
 refine (c1o a b ha hb (by omega)).dcall ?_
 try simp only [E2, seval]
 have hn : Nt (limbs (val a * val b)) := ⟨a0E _, by
  have h1 := a1V ha.lim
  have h2 := a1V hb.lim
  have h3 : val a * val b < LB ^ (a.length + b.length) := by
   rw [Nat.pow_add]
   exact Nat.mul_lt_mul'' h1 h2
  exact Nat.le_trans (a0I h3) (by omega)⟩
 refine (a3G _ _ hn).dcall ?_
 rw [a0r, ← d5d]
 simp only [Z, E2, seval]
 refine Safe.retn ?_
 simp only [E2, seval]
 first | exact ⟨rfl, _, rfl⟩ | exact ⟨_, rfl⟩ | exact ⟨trivial, _, rfl⟩
theorem c7t (x y : ZI) (k : Nat) (hx : Zok k x) (hy : Zok k y) (hk : k < 17592186044416) : a0g Pr a7V [x.av, y.av] (Z (x.z + y.z)) := by
 obtain ⟨n, a⟩ := x
 obtain ⟨m, b⟩ := y
 have hal := hx.len
 have hbl := hy.len
 have hav := hx.lt
 have hbv := hy.lt
 simp only at hal hbl hav hbv
 have ha : Nt a := ⟨hx.lim, by omega⟩
 have hb : Nt b := ⟨hy.lim, by omega⟩
 have hle : ∀ v, v < LB ^ k → Nt (limbs v) := fun v hv => ⟨a0E _, Nat.le_trans (a0I hv) (by omega)⟩
 simp only [ZI.av, ZI.z]
 refine a0g.intro c9s c9r (by simp only [List.length_cons, List.length_nil]; omega) (Z_cl _) fun H hH => ?_
 refine Safe.seq (Safe.region ?_)
 simp only [c0O, E2, seval]
 refine Safe.seq (Safe.seq (Safe.region ?_))
 simp only [c0N, E2, seval]
 refine Safe.cond ?_
 simp only [E2, seval]
 by_cases hnm : n = m
 ·subst hnm
  simp only [beq_self_eq_true, E2, seval]
  refine Safe.seq (Safe.regionD ?_)
  simp only [c0M, E2, seval]
  refine (c1p a b ha.lim hb.lim (by omega) (by omega)).dcall ?_
  try simp only [E2, seval]
  have hn : Nt (limbs (val a + val b)) := ⟨a0E _, by
   have h3 : val a + val b < LB ^ (k + 1) := by
    rw [Nat.pow_succ]
    have : LB ^ k * 2 ≤ LB ^ k * LB := Nat.mul_le_mul_left _ (by decide)
    omega
   exact Nat.le_trans (a0I h3) (by omega)⟩
  refine (a3G _ _ hn).dcall ?_
  rw [a0r, e1S]
  simp only [Z, E2, seval]
  refine Safe.retn ?_
  simp only [E2, seval]
  first | exact ⟨rfl, _, rfl⟩ | exact ⟨_, rfl⟩ | exact ⟨trivial, _, rfl⟩
 ·have hnm' : (n == m) = false := by simpa using hnm
  simp only [hnm', E2, seval]
  refine Safe.skip (Safe.seq (Safe.seq (Safe.region ?_)))
  simp only [c0L, E2, seval]
  refine (b4v a b ha hb).acall ?_
  simp only [E2, seval, d0N, e3x]
  refine Safe.cond ?_
  simp only [E2, seval]
  by_cases hlt : val a < val b
  ·simp only [hlt, E2, seval]
   refine Safe.region ?_
   simp only [c0K, E2, seval]
   refine Safe.seq (Safe.region ?_)
   simp only [b4f, E2, seval]
   refine (c1n b a hb ha (by omega)).acall ?_
   simp only [E2, seval]
   refine Safe.seq (Safe.region ?_)
   simp only [b4e, E2, seval]
   refine (a3G _ _ (hle (val b - val a) (by omega))).acall ?_
   rw [a0r, d8z n m _ _ hnm (by omega)]
   simp only [Z, E2, seval]
   refine Safe.retn ?_
   simp only [E2, seval]
   first | exact ⟨rfl, _, rfl⟩ | exact ⟨_, rfl⟩ | exact ⟨trivial, _, rfl⟩
  ·simp only [hlt, E2, seval]
   refine Safe.skip (Safe.seq (Safe.region ?_))
   simp only [b4f, E2, seval]
   refine (c1n a b ha hb (by omega)).acall ?_
   simp only [E2, seval]
   refine Safe.seq (Safe.region ?_)
   simp only [b4e, E2, seval]
   refine (a3G _ _ (hle (val a - val b) (by omega))).acall ?_
   rw [a0r, e1P n m _ _ hnm (by omega)]
   simp only [Z, E2, seval]
   refine Safe.retn ?_
   simp only [E2, seval]
   first | exact ⟨rfl, _, rfl⟩ | exact ⟨_, rfl⟩ | exact ⟨trivial, _, rfl⟩
theorem d4o (x y : ZI) (k : Nat) (hx : Zok k x) (hy : Zok k y) (hk : k < 17592186044416) : a0g Pr b0t [x.av, y.av] (Z (x.z - y.z)) := by
 have hadd := c7t x (canZ (-y.z)) k hx (a3K (by rw [Int.natAbs_neg]; exact hy.abs)) hk
 rw [a6G, e3E] at hadd
 have hneg := d4q y (hy.mono (by omega))
 obtain ⟨n, a⟩ := x
 obtain ⟨m, b⟩ := y
 simp only [ZI.av] at hadd hneg ⊢
 refine a0g.intro c9j c9i (by simp only [List.length_cons, List.length_nil]; omega) (Z_cl _) fun H hH => ?_
 refine Safe.seq (Safe.region ?_)
 simp only [c0E, E2, seval]
 refine Safe.seq (Safe.regionD ?_)
 simp only [c0D, E2, seval]
 refine hneg.dcall ?_
 try simp only [E2, seval]
 refine hadd.dcall ?_
 rw [← Int.sub_eq_add_neg]
 simp only [Z, E2, seval]
 refine Safe.retn ?_
 simp only [E2, seval]
 first | exact ⟨rfl, _, rfl⟩ | exact ⟨_, rfl⟩ | exact ⟨trivial, _, rfl⟩
theorem c5N (n : Int) (h0 : -9223372036854775808 ≤ n) (h1 : n < 9223372036854775808) : a0g Pr b3m [.int .i64 n] (Z n) := by
 refine a0g.intro d2q d2p (by simp only [List.length_cons, List.length_nil]; omega) (Z_cl _) fun H hH => ?_
 have hLB : LB = 4294967296 := rfl
 refine Safe.seq (Safe.region ?_)
 simp only [c3V, E2, Nat.reduceLeDiff, Nat.reduceSub, Nat.reduceAdd, Nat.reduceEqDiff, reduceCtorEq, ↓reduceIte]
 refine Safe.seq (Safe.region ?_)
 simp only [c3U, E2, Nat.reduceLeDiff, Nat.reduceSub, Nat.reduceAdd, Nat.reduceEqDiff, reduceCtorEq, ↓reduceIte]
 refine Safe.seq (Safe.seq (Safe.region ?_))
 simp only [c3T, E2, Nat.reduceLeDiff, Nat.reduceSub, Nat.reduceAdd, Nat.reduceEqDiff, reduceCtorEq, ↓reduceIte]
 refine Safe.cond ?_
 simp only [E2, Nat.reduceLeDiff, Nat.reduceSub, Nat.reduceAdd, Nat.reduceEqDiff, reduceCtorEq, ↓reduceIte]
 have rest : ∀ (env : Env), look env 0 = .int .i64 n → look env 2 = .loc (lid H 0) 0 0 → look env 3 = .int .u64 (n.natAbs : Nat) →
   Safe ⟨Pr, fun _ _ => false, b3m, 19, [.cell 2 (some 2)], H.length⟩ [.code ((ACode.region b6S false).seq .ret)] env (hap H [some ⟨2, [.agg [.bool false, .nil]]⟩]) fun r' H' => r' = Z n ∧ ∃ L, H' = hap H L := by
  intro env e0 e2 e3
  refine Safe.seq (Safe.region ?_)
  have w1 : IntKind.wrap .u32 ((n.natAbs : Nat) : Int) = ((n.natAbs % LB : Nat) : Int) := a2O _
  have hLL : LB * LB = 18446744073709551616 := by decide
  have hdiv : n.natAbs / LB < LB := Nat.div_lt_of_lt_mul (by omega)
  have w2 : IntKind.wrap .u32 ((n.natAbs / LB : Nat) : Int) = ((n.natAbs / LB : Nat) : Int) := a8W (Int.natCast_nonneg _) (by omega)
  simp only [b6S, E2, Nat.reduceLeDiff, Nat.reduceSub, Nat.reduceAdd, Nat.reduceEqDiff, reduceCtorEq, ↓reduceIte, e0, e3, e2, w1, a6d _ _ _ (show (0 : Int) ≤ 32 by decide), e4t, w2]
  have hm := Nat.mod_lt n.natAbs (show 0 < LB by decide)
  have := a3G (decide (n < 0)) [n.natAbs % LB, n.natAbs / LB] ⟨by intro d hd; simp at hd; omega, by simp⟩
  have hv : val [n.natAbs % LB, n.natAbs / LB] = n.natAbs := by
   simp only [val]; rw [Nat.mul_zero, Nat.add_zero, Nat.mod_add_div]
  rw [hv, show sgn (decide (n < 0)) n.natAbs = n by unfold sgn; by_cases h : n < 0 <;> simp [h] <;> omega] at this
  refine a0g.acall this ?_
  simp only [Z, E2, Nat.reduceLeDiff, Nat.reduceSub, Nat.reduceAdd, Nat.reduceEqDiff, reduceCtorEq, ↓reduceIte, e2]
  refine Safe.retn ?_
  simp only [E2, Nat.reduceLeDiff, Nat.reduceSub, Nat.reduceAdd, Nat.reduceEqDiff, reduceCtorEq, ↓reduceIte, e2]
  first | exact ⟨rfl, _, rfl⟩ | exact ⟨_, rfl⟩ | exact ⟨trivial, _, rfl⟩
 by_cases hn : n < 0
 ·simp only [hn, E2, Nat.reduceLeDiff, Nat.reduceSub, Nat.reduceAdd, Nat.reduceEqDiff, reduceCtorEq, ↓reduceIte]
  refine Safe.region ?_
  have w : IntKind.wrap .u64 (0 - IntKind.wrap .u64 n) = ((n.natAbs : Nat) : Int) := by rw [a2j, a2j]; omega
  simp only [c3S, E2, Nat.reduceLeDiff, Nat.reduceSub, Nat.reduceAdd, Nat.reduceEqDiff, reduceCtorEq, ↓reduceIte, w]
  exact rest _ (by simp only [E2, Nat.reduceLeDiff, Nat.reduceSub, Nat.reduceAdd, Nat.reduceEqDiff, reduceCtorEq, ↓reduceIte]) (by simp only [E2, Nat.reduceLeDiff, Nat.reduceSub, Nat.reduceAdd, Nat.reduceEqDiff, reduceCtorEq, ↓reduceIte]) (by simp only [E2, Nat.reduceLeDiff, Nat.reduceSub, Nat.reduceAdd, Nat.reduceEqDiff, reduceCtorEq, ↓reduceIte])
 ·have w : IntKind.wrap .u64 n = ((n.natAbs : Nat) : Int) := by rw [a2j]; omega
  simp only [hn, E2, Nat.reduceLeDiff, Nat.reduceSub, Nat.reduceAdd, Nat.reduceEqDiff, reduceCtorEq, ↓reduceIte]
  exact Safe.skip (rest _ (by simp only [E2, Nat.reduceLeDiff, Nat.reduceSub, Nat.reduceAdd, Nat.reduceEqDiff, reduceCtorEq, ↓reduceIte]) (by simp only [E2, Nat.reduceLeDiff, Nat.reduceSub, Nat.reduceAdd, Nat.reduceEqDiff, reduceCtorEq, ↓reduceIte]) (by simp only [E2, Nat.reduceLeDiff, Nat.reduceSub, Nat.reduceAdd, Nat.reduceEqDiff, reduceCtorEq, ↓reduceIte, w]))
theorem d8w (n : Bool) (a : Nat) : (sgn n a).sign = if a = 0 then 0 else if n then -1 else 1 := by
 rcases Nat.eq_zero_or_pos a with h | h
 ·subst h; simp [c0e]
 ·rw [if_neg (by omega)]
  cases n
  ·simp only [sgn, Bool.false_eq_true, if_false]
   exact Int.sign_eq_one_of_pos (by omega)
  ·simp only [sgn, if_true]
   exact Int.sign_eq_neg_one_of_neg (by omega)
theorem c8V (n : Nat) : ((blen n : Nat) : Int) = 0 ↔ n = 0 := by
 unfold blen
 split
 ·rename_i h; simp [h]
 ·rename_i h; simp [h]; omega
theorem b6R (x : ZI) (hx : Zok 17592186044416 x) : a0g Pr a3R [x.av] (.int .i64 x.z.sign) := by
 obtain ⟨n, m⟩ := x
 have hm : Nt m := ⟨hx.lim, hx.len⟩
 simp only [ZI.av, ZI.z, d8w]
 refine a0g.intro c7j c7i (by simp only [List.length_cons, List.length_nil]; omega) (.int _ _) fun H hH => ?_
 refine Safe.seq (Safe.region ?_)
 simp only [b8u, E2, seval]
 refine Safe.seq (Safe.block (Safe.seq (Safe.region ?_)))
 simp only [b8t, E2, seval]
 refine (b8L m hm).acall ?_
 simp only [E2, seval, c8V]
 refine Safe.cond ?_
 simp only [E2, seval]
 by_cases h0 : val m = 0
 ·simp only [h0, E2, seval]
  refine Safe.seq (Safe.region ?_)
  simp only [b8s, E2, seval]
  refine Safe.retn ?_
  simp only [E2, seval]
  first | exact ⟨rfl, _, rfl⟩ | exact ⟨_, rfl⟩ | exact ⟨trivial, _, rfl⟩
 ·simp only [h0, E2, seval]
  refine Safe.seq (Safe.region ?_)
  simp only [b8r, E2, seval]
  refine Safe.cond ?_
  simp only [E2, seval]
  cases n
  ·simp only [E2, seval]
   refine Safe.skip (Safe.inBlock (Safe.seq (Safe.region ?_)))
   simp only [b8p, E2, seval]
   refine Safe.retn ?_
   simp only [E2, seval]
   first | exact ⟨rfl, _, rfl⟩ | exact ⟨_, rfl⟩ | exact ⟨trivial, _, rfl⟩
  ·simp only [E2, seval]
   refine Safe.seq (Safe.region ?_)
   simp only [b8q, E2, seval]
   refine Safe.retn ?_
   simp only [E2, seval]
   first | exact ⟨rfl, _, rfl⟩ | exact ⟨_, rfl⟩ | exact ⟨trivial, _, rfl⟩
end Go.Abs
namespace Go.Abs
def zg (v : List ZI) (i : Nat) : Int := (v.getD i ⟨false, []⟩).z
def mg (b : List (List ZI)) (i : Nat) : List ZI := b.getD i []
theorem c9t {v : List ZI} {i : Nat} (h : i < v.length) : zg v i = v[i].z := by simp [zg, h]
theorem b0c {b : List (List ZI)} {i : Nat} (h : i < b.length) : mg b i = b[i] := by simp [mg, h]
def vec (n : Nat) (f : Nat → Int) : List ZI := (List.range n).map fun i => canZ (f i)
def mat (n : Nat) (f : Nat → List ZI) : List (List ZI) := (List.range n).map f
theorem a0J (n : Nat) (f : Nat → Int) : (vec n f).length = n := by simp [vec]
theorem a2h (n : Nat) (f : Nat → List ZI) : (mat n f).length = n := by simp [mat]
theorem b9V (n : Nat) (f : Nat → Int) : vec (n + 1) f = vec n f ++ [canZ (f n)] := by simp [vec, List.range_succ]
theorem c6m (n : Nat) (f : Nat → List ZI) : mat (n + 1) f = mat n f ++ [f n] := by simp [mat, List.range_succ]
theorem c9u {n : Nat} {f : Nat → Int} {i : Nat} (h : i < (vec n f).length) : (vec n f)[i] = canZ (f i) := by simp [vec]
theorem d5T {n : Nat} {f : Nat → List ZI} {i : Nat} (h : i < (mat n f).length) : (mat n f)[i] = f i := by simp [mat]
theorem e4e {n : Nat} {f : Nat → Int} {i : Nat} (h : i < n) : zg (vec n f) i = f i := by
 rw [c9t (by rw [a0J]; exact h), c9u, a6G]
theorem e4W {n : Nat} {f : Nat → List ZI} {i : Nat} (h : i < n) : mg (mat n f) i = f i := by
 rw [b0c (by rw [a2h]; exact h), d5T]
theorem d8d {k m : Nat} {z : Int} (h : z.natAbs < LB ^ k) (hkm : k ≤ m) : Zok m (canZ z) := (a3K h).mono hkm
theorem e1o {k n : Nat} {f : Nat → Int} (hn : n ≤ 2097152) (h : ∀ i, i < n → (f i).natAbs < LB ^ k) : Vok k (vec n f) := by
 refine ⟨by rw [a0J]; exact hn, fun x hx => ?_⟩
 obtain ⟨i, hi, rfl⟩ := List.mem_map.1 hx
 exact a3K (h i (List.mem_range.1 hi))
theorem Vok.abs {k : Nat} {v : List ZI} (h : Vok k v) (i : Nat) : (zg v i).natAbs < LB ^ k := by
 rcases Nat.lt_or_ge i v.length with hi | hi
 ·rw [c9t hi]; exact (h.get hi).abs
 ·simp [zg, hi, ZI.z, sgn, val]
  exact Nat.pow_pos (by decide)
theorem Mok.row {k : Nat} {b : List (List ZI)} (h : Mok k b) (i : Nat) : Vok k (mg b i) := by
 rcases Nat.lt_or_ge i b.length with hi | hi
 ·rw [b0c hi]; exact h.get hi
 ·simp [mg, hi]
  exact ⟨by simp, by simp⟩
theorem d6g (a b : Nat) : LB ^ (a + b) = LB ^ a * LB ^ b := Nat.pow_add _ _ _
theorem e0Y (a : Nat) : 0 < LB ^ a := Nat.pow_pos (by decide)
theorem b7L {a b : Nat} (h : a ≤ b) : LB ^ a ≤ LB ^ b := Nat.pow_le_pow_right (by decide) h
theorem c2m {x y : Int} {k l : Nat} (hx : x.natAbs < LB ^ k) (hy : y.natAbs < LB ^ l) : (x * y).natAbs < LB ^ (k + l) := by
 rw [Int.natAbs_mul, d6g]
 exact Nat.mul_lt_mul'' hx hy
theorem e3W {x y : Int} {k : Nat} (hx : x.natAbs < LB ^ k) (hy : y.natAbs < LB ^ k) : (x + y).natAbs < LB ^ (k + 1) := by
 have h := Int.natAbs_add_le x y
 rw [d6g]
 have : LB = 4294967296 := rfl
 have := e0Y k
 rw [Nat.pow_one]
 generalize LB ^ k = c at *
 calc (x + y).natAbs ≤ x.natAbs + y.natAbs := h
  _ < c * 2 := by omega
  _ ≤ c * LB := Nat.mul_le_mul_left _ (by decide)
theorem e1G {x y : Int} {k : Nat} (hx : x.natAbs < LB ^ k) (hy : y.natAbs < LB ^ k) : (x - y).natAbs < LB ^ (k + 1) := by
 rw [Int.sub_eq_add_neg]
 exact e3W hx (by rwa [Int.natAbs_neg])
def b0E (f : Nat → Int) : Nat → Int
 | 0 => 0
 | n + 1 => b0E f n + f n
theorem c0V {f g : Nat → Int} : ∀ {n : Nat}, (∀ i, i < n → f i = g i) → b0E f n = b0E g n
 | 0, _ => rfl
 | n + 1, h => by rw [b0E, b0E, c0V fun i hi => h i (by omega), h n (by omega)]
theorem d1j {f : Nat → Int} {B : Nat} : ∀ (n : Nat), (∀ i, i < n → (f i).natAbs < B) → (b0E f n).natAbs ≤ n * B
 | 0, _ => by simp [b0E]
 | n + 1, h => by
  have h1 := d1j n fun i hi => h i (by omega)
  have h2 := h n (by omega)
  have h3 := Int.natAbs_add_le (b0E f n) (f n)
  rw [b0E, Nat.add_mul]
  omega
theorem d4L {f : Nat → Int} {k n : Nat} (hn : n ≤ 2097152) (h : ∀ i, i < n → (f i).natAbs < LB ^ k) : (b0E f n).natAbs < LB ^ (k + 2) := by
 have h1 := d1j n h
 rw [d6g]
 have hp := e0Y k
 generalize LB ^ k = c at *
 have h2 : n * c ≤ 2097152 * c := Nat.mul_le_mul_right _ hn
 have h3 : c * LB ^ 2 = 18446744073709551616 * c := by rw [Nat.mul_comm]; rfl
 omega
section
variable {H : Heap}
def RC (L : Heap) : Prop := ∀ b, some b ∈ L → ∀ a ∈ b.flat, Cl a
theorem RC.nil : RC [] := fun b h => by cases h
theorem RC.none {L : Heap} (h : RC L) : RC (none :: L) := fun b hb a ha => by
 rcases List.mem_cons.1 hb with e | e
 ·cases e
 ·exact h b e a ha
theorem RC.cons {b : Blk} {L : Heap} (hb : ∀ a ∈ b.flat, Cl a) (h : RC L) : RC (some b :: L) := fun c hc a ha => by
 rcases List.mem_cons.1 hc with e | e
 ·cases e; exact hb a ha
 ·exact h c e a ha
theorem RC.row {α : Type} {wd : Nat} {f : α → AV} {l : List α} {L : Heap} (hf : ∀ x, Cl (f x)) (h : RC L) : RC (some ⟨wd, l.map f⟩ :: L) := .cons (a6S wd f l hf) h
theorem RC.one {wd : Nat} {x : AV} {L : Heap} (hx : Cl x) (h : RC L) : RC (some ⟨wd, [x]⟩ :: L) := .cons (fun a ha => by
 simp only [Blk.flat, List.flatMap_cons, List.flatMap_nil, List.append_nil] at ha
 exact b1o hx a ha) h
theorem RC.emp {wd : Nat} {L : Heap} (h : RC L) : RC (some ⟨wd, []⟩ :: L) := .cons (fun a ha => by cases ha) h
theorem RC.mo {l : List (Int × Int)} {L : Heap} (h : RC L) : RC (some ⟨0, [.mo l]⟩ :: L) := .cons (fun a ha => by cases ha) h
theorem RC.io {i n : Nat} {s : List Nat} {L : Heap} (h : RC L) : RC (some ⟨0, [.io i n s]⟩ :: L) := .cons (fun a ha => by cases ha) h
theorem RC.zero {L : Heap} (h : RC L) : RC (some ⟨2, [.agg [.bool false, .nil]]⟩ :: L) := .one (.agg _ (by
 intro c hc
 simp only [List.mem_cons, List.not_mem_nil, or_false] at hc
 rcases hc with rfl | rfl
 ·exact .bool _
 ·exact .nil)) h
theorem e3T {α : Type} (hH : a0y H) {L : Heap} (i : Nat) {n0 : Nat} (hn : n0 ≤ lid H i) {env : Env} {wd bytes : Nat} {f : α → AV} (hf : ∀ x, Cl (f x)) (l : List α) (x : α) (l' : List α) {y : AV} {len : Nat}
  (hlen : len = l.length) (hl : L[i]? = some (some ⟨wd, l.map f⟩)) (hL : RC L) (hy : y = f x) (hl' : l' = l ++ [x]) (hb : (len + 1) * bytes ≤ 140737488355328) (hbb : len + 1 ≤ 9223372036854775807) :
  appV n0 wd bytes false (.mu (lid H i) 0 len none) (.sl wd [y]) env (hap H L) = some (.mu (lid H i) 0 (len + 1) none, scrub (lid H i) env, hap H (L.set i (some ⟨wd, l'.map f⟩))) := by
 subst hy
 subst hl'
 have := c6Y n0 env H L wd bytes false i len none (.sl wd [f x]) (l.map f) [f x] hH hl (by rw [List.length_map]; exact hlen) hn (a2Q _ wd _) (c0y hL) (by
  intro a ha
  simp at ha
  exact (b1o (hf x) a ha).ref) (by simpa using hb) (by simpa using hbb) rfl
 simpa [a1x] using this
theorem c0A {α : Type} {L : Heap} (i : Nat) {n0 : Nat} (hn : n0 ≤ lid H i) {env : Env} {wd bytes : Nat} {f : α → AV} (l : List α) (x : α) (l' : List α) {y : AV} {len c : Nat}
  (hlen : len = l.length) (hl : L[i]? = some (some ⟨wd, l.map f⟩)) (hy : y = f x) (hl' : l' = l ++ [x]) (hc : len + 1 ≤ c) :
  appV n0 wd bytes false (.mu (lid H i) 0 len (some c)) (.sl wd [y]) env (hap H L) = some (.mu (lid H i) 0 (len + 1) (some c), env, hap H (L.set i (some ⟨wd, l'.map f⟩))) := by
 subst hy
 subst hl'
 have := d7Q n0 env H L wd bytes false i len c (.sl wd [f x]) (l.map f) [f x] hl (by rw [List.length_map]; exact hlen) hn (a2Q _ wd _) (by simp) (by simpa using hc)
 simpa using this
theorem c0l (env : Env) (L : Heap) (wd bytes : Nat) (z : AV) (k k' : IntKind) (c : Nat) (h0 : 0 < wd) (h2 : bytes * c ≤ 281474976710656) (h3 : c ≤ 9223372036854775807) :
  c9Z wd bytes z (.int k 0) (.int k' c) env (hap H L) = some (.mu (lid H L.length) 0 0 (some c), env, hap H (L ++ [some ⟨wd, []⟩])) := by
 have := c2p env H L wd bytes z k k' 0 c h0 (Nat.zero_le _) h2 h3
 simpa using this
theorem a9P {α : Type} (i wd : Nat) (f : α → AV) (l : List α) (len : Nat) (oc : Option Nat) (h : len = l.length) : frz (lid H i) ⟨wd, l.map f⟩ (.mu (lid H i) 0 len oc) = .sl wd (l.map f) := by
 subst h; exact d3Z H i wd f l oc
section
variable {x : Cx} {todo : List AItem} {env : Env} {R : AV → Heap → Prop} {a b c d e : Option Blk}
theorem Safe.drop1 (hH : a0y H) (hx : x.n0 = H.length) (he : env.all (fun p => nref (lid H 1) p.2) = true) (hL : RC [a]) (h : Safe x todo env (hap H [a]) R) : Safe x todo env (hap H [a, b]) R := Safe.dropC (L := [a]) hH hx he hL h
end
theorem Safe.told0 (i : Nat) {x : Cx} {todo : List AItem} {env : Env} {L : Heap} {R : AV → Heap → Prop} (hl : L[i]? = some (some ⟨2, [.agg [.bool false, .nil]]⟩)) (h : Safe x todo env (hap H (L.set i (some ⟨2, [Z 0]⟩))) R) : Safe x todo env (hap H L) R := by
 rw [e1m] at h
 refine Safe.toldRow (b' := ⟨2, [.agg [.bool false, natV []]]⟩) i hl rfl (by intro y hy; simp at hy; subst hy; rfl) rfl (by simp) ?_ h
 intro k a c ha hc
 match k with
 | 0 => cases ha; cases hc; exact Le.refl _
 | 1 => cases ha; cases hc; exact Le.nil 1 (by decide)
 | k + 2 => simp [Blk.flat, AV.cells] at ha
end
end Go.Abs
namespace Go.Abs
theorem e3m (g : FuncId) (caps : List AV) (v : List ZI) (f : Nat → Int) (hv : v.length ≤ 2097152) (hc : ∀ c ∈ caps, Cl c) (hf : ∀ (i : Nat) (h : i < v.length), a0g Pr g (v[i].av :: caps) (Z (f i))) : a0g Pr a5Z [vecV v, .fn g caps] (vecV (vec v.length f)) := by
 have hcl : ∀ id, caps.all (nref id) = true := fun id => List.all_eq_true.2 fun c h => a0K (hc c h)
 refine a0g.intro c2w c2u (Nat.le_of_ble_eq_true rfl) (a0O _) fun H hH => ?_
 refine Safe.rg rfl ?_
 simp only [b2M, E3, seval]
 refine Safe.rg rfl ?_
 simp only [b2L, c0l _ _ 2 32 _ _ _ v.length (by decide) (by omega) (by omega), E3, seval]
 refine Safe.rg rfl ?_
 simp only [b2K, E3, seval]
 refine Safe.lp rfl ?_
 refine Safe.keep [1, 5, 11, 12, 13] ?_
 try simp only [E3, seval]
 refine Safe.loopN (v.length) (fun i => [(1, .fn g caps), (5, .mu (lid H 0) 0 i (some v.length)), (11, vecV v), (12, .int .i64 v.length), (13, .int .i64 i)]) (fun i => hap H [some ⟨2, (vec i f).map ZI.av⟩]) rfl rfl (fun i hi ih => ?_) ?_
 ·have hlt : (i : Int) < (v.length : Int) := by omega
  have hiw : IntKind.wrap .i64 ((i : Int) + 1) = ((i + 1 : Nat) : Int) := by rw [a0e] <;> omega
  refine Safe.inLoop ?_
  refine Safe.rg rfl ?_
  simp only [a8r, hlt, E3, seval]
  refine Safe.cd rfl ?_
  simp only [E3, seval]
  refine Safe.rg rfl ?_
  simp only [b2J, b6V _ v _ i (by omega), E3, seval]
  refine Safe.rg rfl ?_
  simp only [b2I, E3, seval]
  first | refine (hf i hi).acall ?_ | refine (hf i hi).dcall ?_ | refine (hf i hi).dgcall ?_
  try simp only [E3, seval]
  rw [c0A (H := H) 0 (a8t H 0) (f := ZI.av) (vec i f) (canZ (f i)) (vec (i + 1) f) ?hlen ?hl ?hy ?hl2 ?hc]
  case hlen => first | rfl | (simp only [a0J, a2h, List.length_map, List.length_take]; done) | (simp only [a0J, a2h, List.length_map, List.length_take]; omega)
  case hl => rfl
  case hy => rfl
  case hl2 => first | exact b9V _ _ | exact c6m _ _ | exact b5B _ (by omega) | exact b5C _ _ (by omega)
  case hc => omega
  simp only [hcl, E3, seval]
  refine Safe.rg rfl ?_
  simp only [b2H, hiw, E3, seval]
  refine Safe.keep [1, 5, 11, 12, 13] ?_
  simp only [E3, seval]
  refine Safe.drop1 hH rfl (by simp only [List.all_cons, List.all_nil, hcl, E3, seval]) (by repeat (first | exact RC.nil | refine RC.none ?_ | refine RC.mo ?_ | refine RC.io ?_ | refine RC.row ZI.cl ?_ | refine RC.cons (a2r _) ?_ | refine RC.row a0O ?_ | refine RC.emp ?_ | refine RC.zero ?_ | refine RC.one (Z_cl _) ?_ | refine RC.one (ZI.cl _) ?_ | refine RC.one (a0O _) ?_)) ?_
  exact ih
 ·refine Safe.inLoop ?_
  refine Safe.rg rfl ?_
  simp only [a8r, Int.lt_irrefl, E3, seval]
  refine Safe.cd rfl ?_
  simp only [E3, seval]
  refine Safe.freeze 0 hH rfl rfl (a6S 2 ZI.av _ ZI.cl) ?_
  refine Safe.keep [5] ?_
  simp only [a9P 0 2 ZI.av (vec v.length f) v.length (some v.length) (a0J _ _).symm, E3, seval]
  refine Safe.rg rfl ?_
  simp only [b2G, E3, seval]
  refine Safe.rt rfl ?_
  simp only [E3, seval]
  first | exact ⟨rfl, _, rfl⟩ | exact ⟨_, rfl⟩ | exact ⟨trivial, _, rfl⟩
theorem e3k (g : FuncId) (caps : List AV) (v : List (List ZI)) (f : Nat → List ZI) (hv : v.length ≤ 2097152) (hc : ∀ c ∈ caps, Cl c) (hf : ∀ (i : Nat) (h : i < v.length), a0g Pr g (vecV v[i] :: caps) (vecV (f i))) : a0g Pr a9S [matV v, .fn g caps] (matV (mat v.length f)) := by
 have hcl : ∀ id, caps.all (nref id) = true := fun id => List.all_eq_true.2 fun c h => a0K (hc c h)
 refine a0g.intro c2t c2r (Nat.le_of_ble_eq_true rfl) (b0W _) fun H hH => ?_
 refine Safe.rg rfl ?_
 simp only [b2F, E3, seval]
 refine Safe.rg rfl ?_
 simp only [b2E, c0l _ _ 1 24 _ _ _ v.length (by decide) (by omega) (by omega), E3, seval]
 refine Safe.rg rfl ?_
 simp only [b2D, E3, seval]
 refine Safe.lp rfl ?_
 refine Safe.keep [1, 5, 11, 12, 13] ?_
 try simp only [E3, seval]
 refine Safe.loopN (v.length) (fun i => [(1, .fn g caps), (5, .mu (lid H 0) 0 i (some v.length)), (11, matV v), (12, .int .i64 v.length), (13, .int .i64 i)]) (fun i => hap H [some ⟨1, (mat i f).map vecV⟩]) rfl rfl (fun i hi ih => ?_) ?_
 ·have hlt : (i : Int) < (v.length : Int) := by omega
  have hiw : IntKind.wrap .i64 ((i : Int) + 1) = ((i + 1 : Nat) : Int) := by rw [a0e] <;> omega
  refine Safe.inLoop ?_
  refine Safe.rg rfl ?_
  simp only [a8q, hlt, E3, seval]
  refine Safe.cd rfl ?_
  simp only [E3, seval]
  refine Safe.rg rfl ?_
  simp only [b2C, a9M _ v _ i (by omega), E3, seval]
  refine Safe.rg rfl ?_
  simp only [b2B, E3, seval]
  first | refine (hf i hi).acall ?_ | refine (hf i hi).dcall ?_ | refine (hf i hi).dgcall ?_
  try simp only [E3, seval]
  rw [c0A (H := H) 0 (a8t H 0) (f := vecV) (mat i f) (f i) (mat (i + 1) f) ?hlen ?hl ?hy ?hl2 ?hc]
  case hlen => first | rfl | (simp only [a0J, a2h, List.length_map, List.length_take]; done) | (simp only [a0J, a2h, List.length_map, List.length_take]; omega)
  case hl => rfl
  case hy => rfl
  case hl2 => first | exact b9V _ _ | exact c6m _ _ | exact b5B _ (by omega) | exact b5C _ _ (by omega)
  case hc => omega
  simp only [hcl, E3, seval]
  refine Safe.rg rfl ?_
  simp only [b2A, hiw, E3, seval]
  refine Safe.keep [1, 5, 11, 12, 13] ?_
  simp only [E3, seval]
  exact ih
 ·refine Safe.inLoop ?_
  refine Safe.rg rfl ?_
  simp only [a8q, Int.lt_irrefl, E3, seval]
  refine Safe.cd rfl ?_
  simp only [E3, seval]
  refine Safe.freeze 0 hH rfl rfl (a6S 1 vecV _ a0O) ?_
  refine Safe.keep [5] ?_
  simp only [a9P 0 1 vecV (mat v.length f) v.length (some v.length) (a2h _ _).symm, E3, seval]
  refine Safe.rg rfl ?_
  simp only [b2z, E3, seval]
  refine Safe.rt rfl ?_
  simp only [E3, seval]
  first | exact ⟨rfl, _, rfl⟩ | exact ⟨_, rfl⟩ | exact ⟨trivial, _, rfl⟩
section
variable {a b : Int} {k l : Nat} (ha : a.natAbs < LB ^ k)
include ha
theorem c5S (hb : b.natAbs < LB ^ k) (hk : k < 17592186044416) : a0g Pr a7V [Z a, Z b] (Z (a + b)) := by
 have := c7t (canZ a) (canZ b) k (a3K ha) (a3K hb) hk
 rwa [a6G, a6G] at this
theorem d7Z (hb : b.natAbs < LB ^ k) (hk : k < 17592186044416) : a0g Pr b0t [Z a, Z b] (Z (a - b)) := by
 have := d4o (canZ a) (canZ b) k (a3K ha) (a3K hb) hk
 rwa [a6G, a6G] at this
theorem d1d (hb : b.natAbs < LB ^ l) (hk : k + l ≤ 17592186044416) : a0g Pr a5N [Z a, Z b] (Z (a * b)) := by
 have := c7f (canZ a) (canZ b) k l (a3K ha) (a3K hb) hk
 rwa [a6G, a6G] at this
end
section
variable (u v : List ZI) {p : Nat} {i : Nat} (hu : Vok p u) (hv : Vok p v) (hp : p + p ≤ 17592186044416) (hi : i < u.length) (hj : i < v.length)
include hu hv hp
theorem c9f : a0g Pr a5N [u[i].av, v[i].av] (Z (zg u i * zg v i)) := by
 have := c7f u[i] v[i] p p (hu.get hi) (hv.get hj) hp
 rwa [← c9t hi, ← c9t hj] at this
end
def dotZ (u v : List ZI) : Int := b0E (fun i => zg u i * zg v i) u.length
theorem b3r {u v : List ZI} {p : Nat} (hu : Vok p u) (hv : Vok p v) (i : Nat) : (zg u i * zg v i).natAbs < LB ^ (p + p) := c2m (hu.abs i) (hv.abs i)
theorem c6M {u v : List ZI} {p : Nat} (hu : Vok p u) (hv : Vok p v) {i : Nat} (hi : i ≤ u.length) : (b0E (fun i => zg u i * zg v i) i).natAbs < LB ^ (p + p + 2) :=
 d4L (Nat.le_trans hi hu.len) fun j _ => b3r hu hv j
theorem c6L (u v : List ZI) (p : Nat) (hu : Vok p u) (hv : Vok p v) (hp : p + p + 2 < 17592186044416) (hl : u.length = v.length) : a0g Pr c3D [vecV u, vecV v] (Z (dotZ u v)) := by
 have hul := hu.len
 refine a0g.intro d3L d3J (Nat.le_of_ble_eq_true rfl) (Z_cl _) fun H hH => ?_
 refine Safe.rg rfl ?_
 simp only [c5t, E3, seval]
 refine Safe.rg rfl ?_
 simp only [c5s, E3, seval]
 refine Safe.told0 1 rfl ?_
 refine Safe.rg rfl ?_
 simp only [c5r, E3, seval]
 refine Safe.lp rfl ?_
 refine Safe.keep [0, 1, 4, 5, 8, 9, 7] ?_
 try simp only [E3, seval]
 refine Safe.loopN (u.length) (fun i => [(0, vecV u), (1, vecV v), (4, .loc (lid H 0) 0 0), (5, .loc (lid H 1) 0 0), (8, .int .i64 u.length), (9, .int .i64 i), (7, vecV u)]) (fun i => hap H [some ⟨2, [.agg [.bool false, .nil]]⟩, some ⟨2, [Z (b0E (fun i => zg u i * zg v i) i)]⟩]) rfl rfl (fun i hi ih => ?_) ?_
 ·have hlt : (i : Int) < (u.length : Int) := by omega
  have hiw : IntKind.wrap .i64 ((i : Int) + 1) = ((i + 1 : Nat) : Int) := by rw [a0e] <;> omega
  refine Safe.inLoop ?_
  refine Safe.rg rfl ?_
  simp only [b7D, hlt, E3, seval]
  refine Safe.cd rfl ?_
  simp only [E3, seval]
  refine Safe.rg rfl ?_
  simp only [c5q, E3, seval]
  refine Safe.rg rfl ?_
  simp only [c5p, b6V _ u _ i (by omega), b6V _ v _ i (by omega), E3, seval]
  first | refine (c9f u v hu hv (by omega) hi (by omega)).acall ?_ | refine (c9f u v hu hv (by omega) hi (by omega)).dcall ?_ | refine (c9f u v hu hv (by omega) hi (by omega)).dgcall ?_
  try simp only [E3, seval]
  first | refine (c5S (c6M hu hv (Nat.le_of_lt hi)) (Nat.lt_of_lt_of_le (b3r hu hv i) (b7L (by omega))) hp).acall ?_ | refine (c5S (c6M hu hv (Nat.le_of_lt hi)) (Nat.lt_of_lt_of_le (b3r hu hv i) (b7L (by omega))) hp).dcall ?_ | refine (c5S (c6M hu hv (Nat.le_of_lt hi)) (Nat.lt_of_lt_of_le (b3r hu hv i) (b7L (by omega))) hp).dgcall ?_
  try simp only [E3, seval]
  refine Safe.rg rfl ?_
  simp only [c5o, hiw, E3, seval]
  refine Safe.keep [0, 1, 4, 5, 8, 9, 7] ?_
  simp only [E3, seval]
  exact ih
 ·refine Safe.inLoop ?_
  refine Safe.rg rfl ?_
  simp only [b7D, Int.lt_irrefl, E3, seval]
  refine Safe.cd rfl ?_
  simp only [E3, seval]
  refine Safe.rg rfl ?_
  simp only [c5n, E3, seval]
  refine Safe.rt rfl ?_
  simp only [E3, seval]
  first | exact ⟨rfl, _, rfl⟩ | exact ⟨_, rfl⟩ | exact ⟨trivial, _, rfl⟩
theorem e5r (u v : List ZI) (p : Nat) (hu : Vok p u) (hv : Vok p v) (hp : p + p + 2 < 17592186044416) (hl : u.length = v.length) : a0g Pr c3E [vecV u, vecV v] (.tup [Z (dotZ u v), .int .i64 0]) := by
 have hl' : (u.length : Int) = (v.length : Int) := by omega
 refine a0g.intro d3P d3O (Nat.le_of_ble_eq_true rfl) (.tup _ (by simp only [List.mem_cons, List.not_mem_nil, or_false, forall_eq_or_imp, forall_eq]; exact ⟨Z_cl _, .int _ _⟩)) fun H hH => ?_
 refine Safe.rg rfl ?_
 simp only [c5w, E3, seval]
 refine Safe.rg rfl ?_
 simp only [c5v, hl', E3, seval]
 refine Safe.cd rfl ?_
 simp only [E3, seval]
 refine Safe.rg rfl ?_
 simp only [c5u, E3, seval]
 first | refine (c6L u v p hu hv hp hl).acall ?_ | refine (c6L u v p hu hv hp hl).dcall ?_ | refine (c6L u v p hu hv hp hl).dgcall ?_
 try simp only [E3, seval]
 refine Safe.rt rfl ?_
 simp only [E3, seval]
 first | exact ⟨rfl, _, rfl⟩ | exact ⟨_, rfl⟩ | exact ⟨trivial, _, rfl⟩
theorem c3o {a b : AV} (ha : Cl a) (hb : Cl b) : Cl (.tup [a, b]) := .tup _ (by
 intro c hc
 simp only [List.mem_cons, List.not_mem_nil, or_false] at hc
 rcases hc with rfl | rfl
 ·exact ha
 ·exact hb)
theorem b5b {a b d : AV} (ha : Cl a) (hb : Cl b) (hd : Cl d) : Cl (.tup [a, b, d]) := .tup _ (by
 intro c hc
 simp only [List.mem_cons, List.not_mem_nil, or_false] at hc
 rcases hc with rfl | rfl | rfl
 ·exact ha
 ·exact hb
 ·exact hd)
end Go.Abs
namespace Go.Abs
section
variable {x : Cx} {todo : List AItem} {env : Env} {R : AV → Heap → Prop} {H : Heap} {b : Option Blk}
theorem Safe.drop0 (hH : a0y H) (hx : x.n0 = H.length) (he : env.all (fun p => nref (lid H 0) p.2) = true) (hL : RC []) (h : Safe x todo env (hap H []) R) : Safe x todo env (hap H [b]) R := Safe.dropC (L := []) hH hx he hL h
end
theorem c8D (p : Nat → Prop) [DecidablePred p] : ∀ (n : Nat), (∀ i, i < n → p i) ∨ ∃ i, i < n ∧ ¬ p i ∧ ∀ j, j < i → p j
 | 0 => .inl fun i hi => absurd hi (by omega)
 | n + 1 => by
  rcases c8D p n with h | ⟨i, hi, h1, h2⟩
  ·by_cases hp : p n
   ·exact .inl fun i hi => by
     rcases Nat.lt_or_ge i n with h' | h'
     ·exact h i h'
     ·rw [show i = n by omega]; exact hp
   ·exact .inr ⟨n, by omega, hp, h⟩
  ·exact .inr ⟨i, by omega, h1, h2⟩
def Rect (b : List (List ZI)) : Prop := ∀ i, i < b.length → (mg b i).length = (mg b 0).length
def wid (b : List (List ZI)) : Nat := (mg b 0).length
theorem d2X (b : List (List ZI)) : Rect b ∨ ∃ i, i < b.length ∧ (mg b i).length ≠ (mg b 0).length ∧ ∀ j, j < i → (mg b j).length = (mg b 0).length :=
 c8D (fun i => (mg b i).length = (mg b 0).length) b.length
theorem c0m (H : Heap) (v : List (List ZI)) (k : IntKind) (h : 0 < v.length) : idxV H 1 (matV v) (.int k 0) = some (.ro (vecV v[0]) 0) := a9M H v k 0 h
def b7A (a : Nat) (f : Nat → Nat) : Nat → Nat
 | 0 => a
 | n + 1 => max (b7A a f n) (f n)
def b3K (b : List (List ZI)) : Nat → Nat
 | 0 => 0
 | i + 1 => b7A (b3K b i) (fun k => blen (zg (mg b i) k).natAbs) (mg b i).length
theorem e2F (a c : Nat) : (if (a : Int) < (c : Int) then (c : Int) else (a : Int)) = ((max a c : Nat) : Int) := by
 rcases Nat.lt_or_ge a c with h | h
 ·rw [if_pos (by omega), Nat.max_eq_right (by omega)]
 ·rw [if_neg (by omega), Nat.max_eq_left h]
def a8z (b : List (List ZI)) : List (List ZI) := mat b.length fun i => vec (mg b i).length fun k => zg (mg b i) k
theorem e2P (H : Heap) (i : Nat) (v : List ZI) (len : Nat) (oc : Option Nat) (h : len = v.length) : frz (lid H i) ⟨2, v.map ZI.av⟩ (.mu (lid H i) 0 len oc) = vecV v := a9P i 2 ZI.av v len oc h
theorem e2V (H : Heap) (i : Nat) (v : List (List ZI)) (len : Nat) (oc : Option Nat) (h : len = v.length) : frz (lid H i) ⟨1, v.map vecV⟩ (.mu (lid H i) 0 len oc) = matV v := a9P i 1 vecV v len oc h
theorem d0j (id : Nat) (b : Blk) (v : List (List ZI)) : (v.map vecV).map (frz id b) = v.map vecV := d6Q id b vecV v a0O
end Go.Abs
namespace Go.Abs
theorem sign_zero {z : Int} (h : z = 0) : z.sign = 0 := by rw [h]; rfl
theorem d4Y (z : Int) : (z.sign < 0) = (z < 0) := by
 rw [eq_iff_iff]
 rcases Int.lt_trichotomy z 0 with h | h | h
 ·rw [Int.sign_eq_neg_one_of_neg h]; simp [h]
 ·rw [h]; simp
 ·rw [Int.sign_eq_one_of_pos h]; constructor <;> intro <;> omega
theorem b1m (v : List ZI) (hv : Vok 17592186044416 v) : a0g Pr a5Z [vecV v, .fn a8D []] (vecV (vec v.length fun i => zg v i)) :=
 e3m a8D [] v (fun i => zg v i) hv.len (by simp) fun i h => by
  have := d2u v[i] (hv.get h)
  rwa [← c9t h] at this
theorem one3 (a b c : AV) : b3G [a, b, c] = .tup [a, b, c] := rfl
theorem cl3i (a b c : Int) : Cl (.tup [.int .i64 a, .int .i64 b, .int .i64 c]) := b5b (.int _ _) (.int _ _) (.int _ _)
theorem e2b {b : List (List ZI)} (hr : Rect b) {i : Nat} (hi : i < b.length) : (b[i].length : Int) = (b[0].length : Int) := by
 have := hr i hi
 rw [b0c hi, b0c (by omega)] at this
 omega
theorem e4j {b : List (List ZI)} (h : 0 < b.length) : wid b = b[0].length := by rw [wid, b0c h]
theorem c2o (b : List (List ZI)) (k : Nat) (hb : Mok k b) (hr : Rect b) : a0g Pr b1v [matV b] (.tup [.int .i64 b.length, .int .i64 (wid b), .int .i64 0]) := by
 have hbl := hb.len
 refine a0g.intro b9d b9c (Nat.le_of_ble_eq_true rfl) (cl3i _ _ _) fun H hH => ?_
 refine Safe.rg rfl ?_
 simp only [b2Q, E3, seval]
 refine Safe.rg rfl ?_
 simp only [b2P, E3, seval]
 refine Safe.cd rfl ?_
 simp only [E3, seval]
 by_cases h0 : b.length = 0
 ·have h0' : (b.length : Int) = 0 := by omega
  have hw : wid b = 0 := by simp [wid, mg, List.length_eq_zero_iff.1 h0]
  simp only [h0', E3, seval]
  refine Safe.rg rfl ?_
  simp only [b9b, E3, seval]
  refine Safe.rt rfl ?_
  simp only [one3, h0', hw, Int.natCast_zero, E3, seval]
  first | exact ⟨rfl, _, rfl⟩ | exact ⟨_, rfl⟩ | exact ⟨trivial, _, rfl⟩
 ·have h0' : ¬ (b.length : Int) = 0 := by omega
  simp only [h0', E3, seval]
  refine Safe.rg rfl ?_
  simp only [b2O, E3, seval]
  refine Safe.lp rfl ?_
  refine Safe.keep [0, 10, 11, 12] ?_
  try simp only [E3, seval]
  refine Safe.loopN (b.length) (fun i => [(0, matV b), (10, matV b), (11, .int .i64 b.length), (12, .int .i64 i)]) (fun i => hap H []) rfl rfl (fun i hi ih => ?_) ?_
  ·have hlt : (i : Int) < (b.length : Int) := by omega
   have hiw : IntKind.wrap .i64 ((i : Int) + 1) = ((i + 1 : Nat) : Int) := by rw [a0e] <;> omega
   refine Safe.inLoop ?_
   refine Safe.rg rfl ?_
   simp only [a6g, hlt, E3, seval]
   refine Safe.cd rfl ?_
   simp only [E3, seval]
   refine Safe.rg rfl ?_
   simp only [a9n, a9M _ b _ i hi, E3, seval]
   refine Safe.rg rfl ?_
   simp only [a9m, c0m _ b _ (show 0 < b.length by omega), e2b hr hi, E3, seval]
   refine Safe.cd rfl ?_
   simp only [E3, seval]
   refine Safe.rg rfl ?_
   simp only [b2N, hiw, E3, seval]
   refine Safe.keep [0, 10, 11, 12] ?_
   simp only [E3, seval]
   exact ih
  ·refine Safe.inLoop ?_
   refine Safe.rg rfl ?_
   simp only [a6g, Int.lt_irrefl, E3, seval]
   refine Safe.cd rfl ?_
   simp only [E3, seval]
   refine Safe.rg rfl ?_
   simp only [b8Z, c0m _ b _ (show 0 < b.length by omega), E3, seval]
   refine Safe.rt rfl ?_
   simp only [one3, e4j (show 0 < b.length by omega), E3, seval]
   first | exact ⟨rfl, _, rfl⟩ | exact ⟨_, rfl⟩ | exact ⟨trivial, _, rfl⟩
theorem b7y (b : List (List ZI)) (k : Nat) (hb : Mok k b) (hr : ¬ Rect b) : a0g Pr b1v [matV b] (.tup [.int .i64 0, .int .i64 0, .int .i64 8]) := by
 have hbl := hb.len
 rcases d2X b with h | ⟨m, hm, h1, h2⟩
 ·exact absurd h hr
 have h0' : ¬ (b.length : Int) = 0 := by omega
 refine a0g.intro b9d b9c (Nat.le_of_ble_eq_true rfl) (cl3i _ _ _) fun H hH => ?_
 refine Safe.rg rfl ?_
 simp only [b2Q, E3, seval]
 refine Safe.rg rfl ?_
 simp only [b2P, h0', E3, seval]
 refine Safe.cd rfl ?_
 simp only [E3, seval]
 refine Safe.rg rfl ?_
 simp only [b2O, E3, seval]
 refine Safe.lp rfl ?_
 refine Safe.keep [0, 10, 11, 12] ?_
 try simp only [E3, seval]
 refine Safe.loopN (m) (fun i => [(0, matV b), (10, matV b), (11, .int .i64 b.length), (12, .int .i64 i)]) (fun i => hap H []) rfl rfl (fun i hi ih => ?_) ?_
 ·have hlt : (i : Int) < (b.length : Int) := by omega
  have he : (b[i].length : Int) = (b[0].length : Int) := by
   have := h2 i hi
   rw [b0c (by omega), b0c (by omega)] at this
   omega
  have hiw : IntKind.wrap .i64 ((i : Int) + 1) = ((i + 1 : Nat) : Int) := by rw [a0e] <;> omega
  refine Safe.inLoop ?_
  refine Safe.rg rfl ?_
  simp only [a6g, hlt, E3, seval]
  refine Safe.cd rfl ?_
  simp only [E3, seval]
  refine Safe.rg rfl ?_
  simp only [a9n, a9M _ b _ i (by omega), E3, seval]
  refine Safe.rg rfl ?_
  simp only [a9m, c0m _ b _ (show 0 < b.length by omega), he, E3, seval]
  refine Safe.cd rfl ?_
  simp only [E3, seval]
  refine Safe.rg rfl ?_
  simp only [b2N, hiw, E3, seval]
  refine Safe.keep [0, 10, 11, 12] ?_
  simp only [E3, seval]
  exact ih
 ·have hlt : (m : Int) < (b.length : Int) := by omega
  have he : ¬ (b[m].length : Int) = (b[0].length : Int) := by
   rw [b0c hm, b0c (by omega)] at h1
   omega
  refine Safe.inLoop ?_
  refine Safe.rg rfl ?_
  simp only [a6g, hlt, E3, seval]
  refine Safe.cd rfl ?_
  simp only [E3, seval]
  refine Safe.rg rfl ?_
  simp only [a9n, a9M _ b _ m hm, E3, seval]
  refine Safe.rg rfl ?_
  simp only [a9m, c0m _ b _ (show 0 < b.length by omega), he, E3, seval]
  refine Safe.cd rfl ?_
  simp only [E3, seval]
  refine Safe.rg rfl ?_
  simp only [b9a, E3, seval]
  refine Safe.rt rfl ?_
  simp only [one3, E3, seval]
  first | exact ⟨rfl, _, rfl⟩ | exact ⟨_, rfl⟩ | exact ⟨trivial, _, rfl⟩
theorem d3I (b : List (List ZI)) (hb : Mok 17592186044416 b) : a0g Pr b8e [matV b] (.int .i64 (b3K b b.length)) := by
 have hbl := hb.len
 refine a0g.intro d0i d0f (Nat.le_of_ble_eq_true rfl) (.int _ _) fun H hH => ?_
 refine Safe.rg rfl ?_
 simp only [c2G, E3, seval]
 refine Safe.rg rfl ?_
 simp only [c2F, E3, seval]
 refine Safe.rg rfl ?_
 simp only [c2E, E3, seval]
 refine Safe.lp rfl ?_
 refine Safe.keep [3, 8, 9, 10] ?_
 try simp only [E3, seval]
 refine Safe.loopN (b.length) (fun i => [(3, .int .i64 (b3K b i)), (8, matV b), (9, .int .i64 b.length), (10, .int .i64 i)]) (fun i => hap H []) rfl rfl (fun i hi ih => ?_) ?_
 ·have hlt : (i : Int) < (b.length : Int) := by omega
  have hvl := (hb.get hi).len
  have hml : (mg b i).length = b[i].length := by rw [b0c hi]
  have hiw : IntKind.wrap .i64 ((i : Int) + 1) = ((i + 1 : Nat) : Int) := by rw [a0e] <;> omega
  refine Safe.inLoop ?_
  refine Safe.rg rfl ?_
  simp only [b4R, hlt, E3, seval]
  refine Safe.cd rfl ?_
  simp only [E3, seval]
  refine Safe.rg rfl ?_
  simp only [c2D, a9M _ b _ i hi, E3, seval]
  refine Safe.rg rfl ?_
  simp only [c2C, E3, seval]
  refine Safe.lp rfl ?_
  refine Safe.keep [3, 8, 9, 10, 14, 15, 16] ?_
  simp only [E3, seval]
  refine Safe.loopN (b[i].length) (fun j => [(3, .int .i64 (b7A (b3K b i) (fun k => blen (zg (mg b i) k).natAbs) j)), (8, matV b), (9, .int .i64 b.length), (10, .int .i64 i), (14, vecV b[i]), (15, .int .i64 b[i].length), (16, .int .i64 j)]) (fun j => hap H []) rfl rfl (fun j hj ih2 => ?_) ?_
  ·have hlt2 : (j : Int) < (b[i].length : Int) := by omega
   have hz : b[i][j].z = zg (mg b i) j := by rw [b0c hi, c9t hj]
   have hjw : IntKind.wrap .i64 ((j : Int) + 1) = ((j + 1 : Nat) : Int) := by rw [a0e] <;> omega
   refine Safe.inLoop ?_
   refine Safe.rg rfl ?_
   simp only [b4Q, hlt2, E3, seval]
   refine Safe.cd rfl ?_
   simp only [E3, seval]
   refine Safe.rg rfl ?_
   simp only [c2B, b6V _ b[i] _ j hj, E3, seval]
   refine Safe.rg rfl ?_
   simp only [c2A, E3, seval]
   first | refine (b6T b[i][j] ((hb.get hi).get hj)).acall ?_ | refine (b6T b[i][j] ((hb.get hi).get hj)).dcall ?_ | refine (b6T b[i][j] ((hb.get hi).get hj)).dgcall ?_
   try simp only [E3, seval]
   simp only [gt_iff_lt, e2F, E3, seval]
   rw [hz]
   refine Safe.rg rfl ?_
   simp only [c2z, hjw, E3, seval]
   refine Safe.keep [3, 8, 9, 10, 14, 15, 16] ?_
   simp only [E3, seval]
   refine Safe.drop0 hH rfl (by simp only [List.all_cons, List.all_nil, E3, seval]) (by repeat (first | exact RC.nil | refine RC.none ?_ | refine RC.mo ?_ | refine RC.io ?_ | refine RC.row ZI.cl ?_ | refine RC.cons (a2r _) ?_ | refine RC.row a0O ?_ | refine RC.emp ?_ | refine RC.zero ?_ | refine RC.one (Z_cl _) ?_ | refine RC.one (ZI.cl _) ?_ | refine RC.one (a0O _) ?_)) ?_
   exact ih2
  ·refine Safe.inLoop ?_
   refine Safe.rg rfl ?_
   simp only [b4Q, Int.lt_irrefl, E3, seval]
   refine Safe.cd rfl ?_
   simp only [E3, seval]
   refine Safe.rg rfl ?_
   simp only [b9f, hiw, E3, seval]
   refine Safe.keep [3, 8, 9, 10] ?_
   simp only [E3, seval]
   rw [b3K, hml] at ih
   exact ih
 ·refine Safe.inLoop ?_
  refine Safe.rg rfl ?_
  simp only [b4R, Int.lt_irrefl, E3, seval]
  refine Safe.cd rfl ?_
  simp only [E3, seval]
  refine Safe.rg rfl ?_
  simp only [b9e, E3, seval]
  refine Safe.rt rfl ?_
  simp only [E3, seval]
  first | exact ⟨rfl, _, rfl⟩ | exact ⟨_, rfl⟩ | exact ⟨trivial, _, rfl⟩
theorem d0b (v : List ZI) (hv : Vok 17592186044416 v) : a0g Pr a9J [vecV v] (vecV (vec v.length fun i => zg v i)) := by
 refine a0g.intro c6o c6n (Nat.le_of_ble_eq_true rfl) (a0O _) fun H hH => ?_
 refine Safe.rg rfl ?_
 simp only [b6h, E3, seval]
 refine Safe.rg rfl ?_
 simp only [b6g, E3, seval]
 first | refine (b1m v hv).acall ?_ | refine (b1m v hv).dcall ?_ | refine (b1m v hv).dgcall ?_
 try simp only [E3, seval]
 refine Safe.rt rfl ?_
 simp only [E3, seval]
 first | exact ⟨rfl, _, rfl⟩ | exact ⟨_, rfl⟩ | exact ⟨trivial, _, rfl⟩
theorem d3H (b : List (List ZI)) (hb : Mok 17592186044416 b) : a0g Pr b8d [matV b] (matV (a8z b)) := by
 have he := e3k a9J [] b (fun i => vec (mg b i).length fun k => zg (mg b i) k) hb.len (by simp) fun i h => by
  have := d0b b[i] (hb.get h)
  rw [b0c h]; exact this
 refine a0g.intro d0e d0d (Nat.le_of_ble_eq_true rfl) (b0W _) fun H hH => ?_
 refine Safe.rg rfl ?_
 simp only [c2y, E3, seval]
 refine Safe.rg rfl ?_
 simp only [c2x, E3, seval]
 first | refine (he).acall ?_ | refine (he).dcall ?_ | refine (he).dgcall ?_
 try simp only [E3, seval]
 refine Safe.rt rfl ?_
 simp only [E3, seval]
 first | exact ⟨rfl, _, rfl⟩ | exact ⟨_, rfl⟩ | exact ⟨trivial, _, rfl⟩
end Go.Abs
namespace Go.Abs
section
variable {H L : Heap} {a b : Option Blk} {wd len j n : Nat} {X : List AV} {oc : Option Nat} {k : IntKind} {f : Nat → Int} {z : Int} {env : Env}
theorem c8k (h : j < len) : idxV (hap H (some ⟨wd, X⟩ :: L)) wd (.mu (lid H 0) 0 len oc) (.int k j) = some (.loc (lid H 0) j 0) := by
 rw [c2n H _ wd 0 0 len oc k j rfl rfl h, Nat.zero_add]
theorem d1h (h : j < n) : ((vec n f).map ZI.av).getD j .top = Z (f j) := by
 rw [List.getD_eq_getElem?_getD, List.getElem?_map, List.getElem?_eq_getElem (by rw [a0J]; exact h), c9u]
 rfl
theorem e5x (h : j < n) : atV (hap H (some ⟨2, (vec n f).map ZI.av⟩ :: L)) (.loc (lid H 0) j 0) = some (Z (f j)).cells := by
 rw [b0Y H _ 0 j rfl (by rw [List.length_map, a0J]; exact h), d1h h]
end
end Go.Abs
namespace Go.Abs
theorem c6V {wd : Nat} {a : AV} (h : Cl a) : ∀ c ∈ (Blk.mk wd [a]).flat, Cl c := fun c hc => by
 simp only [Blk.flat, List.flatMap_cons, List.flatMap_nil, List.append_nil] at hc
 exact b1o h c hc
end Go.Abs
namespace Go.Abs
def a2i (H : Heap) (n k : Nat) : List AV := (List.range k).map fun j => .mu (lid H 0) (j * n) n (some n)
end Go.Abs
namespace Go.Abs
theorem d9H {u v : List Nat} {n : Nat} (hu : Lim u) (hv : Lim v) (hun : u.length = n + 1) (hvn : v.length = n) (hn : 0 < n) (hv0 : 0 < val v) (hlt : val u < LB * val v) (ht : 0 < v.getD (n - 1) 0) :
  val u / val v ≤ min ((u.getD n 0 * LB + u.getD (n - 1) 0) / v.getD (n - 1) 0) (LB - 1) := by
 have hq1 : val u / val v ≤ LB - 1 := by
  have : val u / val v < LB := by rw [Nat.div_lt_iff_lt_mul hv0]; exact hlt
  omega
 refine Nat.le_min.2 ⟨?_, hq1⟩
 rw [Nat.le_div_iff_mul_le ht]
 have hs := a9U u (n - 1)
 have hsv := a9U v (n - 1)
 have hdu : val (u.drop (n - 1)) = u.getD (n - 1) 0 + LB * u.getD n 0 := by
  have e : u.drop (n - 1) = [u.getD (n - 1) 0, u.getD n 0] := by
   apply List.ext_getElem
   ·simp; omega
   ·intro i h1 h2
    match i with
    | 0 => simp [List.getD_eq_getElem?_getD, List.getElem?_eq_getElem (show n - 1 < u.length by omega)]
    | 1 =>
     simp only [List.getElem_drop, List.getElem_cons_succ, List.getElem_cons_zero]
     rw [List.getD_eq_getElem?_getD, List.getElem?_eq_getElem (show n < u.length by omega)]
     simp only [show n - 1 + 1 = n by omega]; rfl
    | i + 2 => simp at h2; omega
  rw [e]; simp [val]
 have hdv : val (v.drop (n - 1)) = v.getD (n - 1) 0 := by
  have e : v.drop (n - 1) = [v.getD (n - 1) 0] := by
   apply List.ext_getElem
   ·simp; omega
   ·intro i h1 h2
    match i with
    | 0 => simp [List.getD_eq_getElem?_getD, List.getElem?_eq_getElem (show n - 1 < v.length by omega)]
    | i + 1 => simp at h2
  rw [e]; simp [val]
 have htu := a5q hu (n - 1)
 have hle : val u / val v * val v ≤ val u := Nat.div_mul_le_self _ _
 generalize val u / val v = q at *
 generalize hP : LB ^ (n - 1) = P at *
 have hPp : 0 < P := by rw [← hP]; exact Nat.pow_pos (by decide)
 rw [hdu] at hs
 rw [hdv] at hsv
 generalize v.getD (n - 1) 0 = vt at *
 have e2 : LB * u.getD n 0 = u.getD n 0 * LB := Nat.mul_comm _ _
 generalize u.getD (n - 1) 0 = ua at *
 have hbig : q * vt * P < (u.getD n 0 * LB + ua + 1) * P := by
  have h1 : q * (P * vt) ≤ q * val v := Nat.mul_le_mul_left _ (by omega)
  have h2 : q * (P * vt) = q * vt * P := by rw [Nat.mul_comm P vt, Nat.mul_assoc]
  have h3 : (u.getD n 0 * LB + ua + 1) * P = P * (ua + LB * u.getD n 0) + P := by
   rw [Nat.add_mul, Nat.one_mul, Nat.mul_comm _ P, e2, Nat.add_comm ua]
  omega
 have := Nat.lt_of_mul_lt_mul_right hbig
 omega
end Go.Abs
namespace Go.Abs
def fl (n : Nat) (f : Nat → Nat) : List Nat := (List.range n).map f
def dig (M i : Nat) : Nat := M / LB ^ i % LB
theorem d1T (M i : Nat) : dig M i < LB := Nat.mod_lt _ (by decide)
theorem a1E (n : Nat) (f : Nat → Nat) : (fl n f).length = n := by simp [fl]
theorem c3e {n : Nat} {f : Nat → Nat} {i : Nat} (h : i < n) : (fl n f).getD i 0 = f i := by
 simp [fl, List.getD_eq_getElem?_getD, h]
theorem a4j {n : Nat} {f g : Nat → Nat} (h : ∀ i, i < n → f i = g i) : fl n f = fl n g := List.map_congr_left fun i hi => h i (List.mem_range.1 hi)
theorem d6X (n : Nat) (f : Nat → Nat) (i v : Nat) : (fl n f).set i v = fl n fun j => if j = i then v else f j := by
 apply List.ext_getElem
 ·simp [fl]
 ·intro j h1 h2
  rw [List.getElem_set]
  simp only [fl, List.getElem_map, List.getElem_range]
  by_cases h : i = j
  ·subst h; simp
  ·rw [if_neg h, if_neg (fun e => h e.symm)]
theorem e1e {n : Nat} {f : Nat → Nat} (h : ∀ i, i < n → f i < LB) : Lim (fl n f) := by
 intro d hd
 obtain ⟨i, hi, rfl⟩ := List.mem_map.1 hd
 exact h i (List.mem_range.1 hi)
theorem e2Z (n : Nat) : List.replicate n 0 = fl n fun _ => 0 := by
 apply List.ext_getElem <;> simp [fl]
theorem d0z (n : Nat) (f : Nat → Nat) : fl (n + 1) f = fl n f ++ [f n] := by simp [fl, List.range_succ]
theorem e3a {l : List Nat} {n : Nat} (h : l.length = n) : l = fl n fun i => l.getD i 0 := by
 subst h
 apply List.ext_getElem
 ·simp [fl]
 ·intro i h1 h2; simp [fl, List.getD_eq_getElem?_getD, h1]
theorem d0y {n k : Nat} (f : Nat → Nat) (h : k ≤ n) : (fl n f).take k = fl k f := by
 apply List.ext_getElem
 ·simp [fl]; omega
 ·intro i h1 h2; simp [fl]
theorem e0Q (M : Nat) : ∀ n, val (fl n (dig M)) = M % LB ^ n
 | 0 => by simp [fl, val, Nat.mod_one]
 | n + 1 => by
  rw [d0z, a7u, e0Q M n, a1E, Nat.pow_succ, Nat.mod_mul]; rfl
theorem a7R {M n : Nat} (h : M < LB ^ n) : val (fl n (dig M)) = M := by rw [e0Q, Nat.mod_eq_of_lt h]
theorem a5H (M n : Nat) : Lim (fl n (dig M)) := e1e fun i _ => d1T M i
theorem d7h {l : List Nat} (hl : Lim l) (i : Nat) : dig (val l) i = l.getD i 0 := by
 unfold dig
 rw [a9U l i]
 rcases Nat.lt_or_ge l.length i with h | h
 ·have : l.drop i = [] := List.drop_eq_nil_of_le (by omega)
  rw [this, List.take_of_length_le (by omega), b6x (by omega)]
  simp only [val, Nat.mul_zero, Nat.add_zero]
  have h2 : val l < LB ^ i := Nat.lt_of_lt_of_le (a1V hl) (Nat.pow_le_pow_right (by decide) (by omega))
  rw [Nat.div_eq_of_lt h2]; rfl
 ·have h1 := a5q hl i
  rw [Nat.add_mul_div_left _ _ (a7y i), Nat.div_eq_of_lt h1, Nat.zero_add]
  have : l.getD i 0 = (l.drop i).getD 0 0 := by rw [d6M, Nat.add_zero]
  rw [this]
  cases hd : l.drop i with
  | nil => rfl
  | cons d r =>
   have hlt : d < LB := (hl.drop i) d (by rw [hd]; simp)
   simp only [val, List.getD_cons_zero]
   rw [Nat.add_mul_mod_self_left, Nat.mod_eq_of_lt hlt]
theorem b7H {l : List Nat} (hl : Lim l) {n : Nat} (h : l.length = n) : l = fl n (dig (val l)) := by
 rw [e3a h]
 refine a4j fun i _ => ?_
 rw [← e3a h, d7h hl]
theorem b3z {M i : Nat} (h : M < LB ^ i) : dig M i = 0 := by unfold dig; rw [Nat.div_eq_of_lt h]; rfl
theorem d7i (M a i : Nat) : dig (M / LB ^ a) i = dig M (a + i) := by
 unfold dig; rw [Nat.div_div_eq_div_mul, ← Nat.pow_add]
theorem c3h {M a i : Nat} (K : Nat) (h : i < a) : dig (M + LB ^ a * K) i = dig M i := by
 unfold dig
 have : LB ^ a * K = LB ^ i * (LB * (LB ^ (a - i - 1) * K)) := by
  rw [← Nat.mul_assoc LB, ← Nat.pow_succ', Nat.succ_eq_add_one, show a - i - 1 + 1 = a - i by omega, ← Nat.mul_assoc, ← Nat.pow_add, show i + (a - i) = a by omega]
 rw [this, Nat.add_mul_div_left _ _ (a7y i), Nat.add_mul_mod_self_left]
theorem e4M {x y : Nat} (k : Nat) (hx : x < 2 ^ (64 - k)) (hk : k ≤ 64) (hy : y < 2 ^ k) : (BitVec.ofInt 64 ((x * 2 ^ k : Nat) : Int) ||| BitVec.ofInt 64 ((y : Nat) : Int)).toNat = x * 2 ^ k + y := by
 have e : 2 ^ 64 = 2 ^ (64 - k) * 2 ^ k := by rw [← Nat.pow_add]; congr 1; omega
 have hx2 : x * 2 ^ k < 2 ^ 64 := by rw [e]; exact Nat.mul_lt_mul_of_pos_right hx (Nat.pow_pos (by decide))
 have hy2 : y < 2 ^ 64 := Nat.lt_of_lt_of_le hy (Nat.pow_le_pow_right (by decide) hk)
 rw [BitVec.toNat_or]
 simp only [BitVec.ofInt_natCast, BitVec.toNat_ofNat]
 rw [Nat.mod_eq_of_lt hx2, Nat.mod_eq_of_lt hy2]
 have := Nat.shiftLeft_add_eq_or_of_lt hy x
 rw [Nat.shiftLeft_eq] at this
 exact this.symm
theorem d9e {x y : Nat} (k : Nat) (hx : x < 2 ^ (32 - k)) (hk : k ≤ 32) (hy : y < 2 ^ k) : (BitVec.ofInt 32 ((y : Nat) : Int) ||| BitVec.ofInt 32 ((x * 2 ^ k : Nat) : Int)).toNat = x * 2 ^ k + y := by
 have e : 2 ^ 32 = 2 ^ (32 - k) * 2 ^ k := by rw [← Nat.pow_add]; congr 1; omega
 have hx2 : x * 2 ^ k < 2 ^ 32 := by rw [e]; exact Nat.mul_lt_mul_of_pos_right hx (Nat.pow_pos (by decide))
 have hy2 : y < 2 ^ 32 := Nat.lt_of_lt_of_le hy (Nat.pow_le_pow_right (by decide) hk)
 rw [BitVec.toNat_or]
 simp only [BitVec.ofInt_natCast, BitVec.toNat_ofNat]
 rw [Nat.mod_eq_of_lt hx2, Nat.mod_eq_of_lt hy2, Nat.or_comm]
 have := Nat.shiftLeft_add_eq_or_of_lt hy x
 rw [Nat.shiftLeft_eq] at this
 exact this.symm
theorem c9E (B d L : Nat) : (B / L % d) * L + B % L = B - d * ((B / L / d) * L) ∧ d * ((B / L / d) * L) ≤ B := by
 have h1 := Nat.mod_add_div B L
 have h2 := Nat.mod_add_div (B / L) d
 have h3 : (B / L % d) * L + (d * (B / L / d)) * L = B / L * L := by rw [← Nat.add_mul, h2]
 have h4 : B / L * L = L * (B / L) := Nat.mul_comm _ _
 have h5 : d * (B / L / d * L) = (d * (B / L / d)) * L := (Nat.mul_assoc _ _ _).symm
 omega
theorem e4v (B d L : Nat) : ((B / L % d) * L + B % L) % d = B % d := by
 rw [(c9E B d L).1, Nat.sub_mul_mod (c9E B d L).2]
theorem e4w (B d L : Nat) : ((B / L % d) * L + B % L) / d = B / d % L := by
 rw [(c9E B d L).1, Nat.sub_mul_div]
 have h2 : B / L / d = B / d / L := by rw [Nat.div_div_eq_div_mul, Nat.mul_comm, ← Nat.div_div_eq_div_mul]
 rw [h2]
 have h4 := Nat.mod_add_div (B / d) L
 have h5 : L * (B / d / L) = B / d / L * L := Nat.mul_comm _ _
 omega
theorem b3c (A i : Nat) : A / LB ^ (i + 1) = A / LB ^ i / LB := by rw [Nat.pow_succ, Nat.div_div_eq_div_mul]
theorem d5a (A d i : Nat) : ((A / LB ^ (i + 1) % d) * LB + dig A i) % d = A / LB ^ i % d := by
 rw [b3c]; exact e4v _ _ _
theorem d5b (A d i : Nat) : ((A / LB ^ (i + 1) % d) * LB + dig A i) / d = dig (A / d) i := by
 rw [b3c]
 have e : dig (A / d) i = A / LB ^ i / d % LB := by unfold dig; rw [Nat.div_div_eq_div_mul, Nat.mul_comm d, ← Nat.div_div_eq_div_mul]
 rw [e]
 exact e4w _ _ _
end Go.Abs
namespace Go.Abs
theorem a3W {x : Nat} (h : x < 18446744073709551616) : IntKind.wrap .u64 (x : Int) = (x : Int) := a1w (by omega) (by omega)
theorem c7v {x : Nat} (h : x < 9223372036854775808) : IntKind.wrap .i64 (x : Int) = (x : Int) := a0e (by omega) (by omega)
theorem d5v {x y : Nat} (h : 0 < y) (hx : x < 18446744073709551616) : binV .quo (.int .u64 (x : Int)) (.int .u64 (y : Int)) = some (.int .u64 ((x / y : Nat) : Int)) := by
 rw [c0w _ _ _ (by omega), Int.tdiv_eq_ediv_of_nonneg (by omega)]
 have h2 : x / y ≤ x := Nat.div_le_self _ _
 have : (x : Int) / (y : Int) = ((x / y : Nat) : Int) := rfl
 rw [this, a3W (by omega)]
theorem e2a {x y : Nat} (h : 0 < y) : binV .rem (.int .u64 (x : Int)) (.int .u64 (y : Int)) = some (.int .u64 ((x % y : Nat) : Int)) := by
 rw [c0v _ _ _ (by omega), Int.tmod_eq_emod_of_nonneg (by omega)]; rfl
theorem e4z {x y : Nat} (h : 0 < y) (hx : x < 9223372036854775808) : binV .quo (.int .i64 (x : Int)) (.int .i64 (y : Int)) = some (.int .i64 ((x / y : Nat) : Int)) := by
 rw [c0w _ _ _ (by omega), Int.tdiv_eq_ediv_of_nonneg (by omega)]
 have h2 : x / y ≤ x := Nat.div_le_self _ _
 have : (x : Int) / (y : Int) = ((x / y : Nat) : Int) := rfl
 rw [this, c7v (by omega)]
theorem e4y {x y : Nat} (h : 0 < y) : binV .rem (.int .i64 (x : Int)) (.int .i64 (y : Int)) = some (.int .i64 ((x % y : Nat) : Int)) := by
 rw [c0v _ _ _ (by omega), Int.tmod_eq_emod_of_nonneg (by omega)]; rfl
theorem c3W {x : Nat} (h : x < LB) : IntKind.wrap .u32 (x : Int) = (x : Int) := a8W (by omega) (by have : LB = 4294967296 := rfl; omega)
theorem b6U {x y : Nat} (h : x + y < 18446744073709551616) : IntKind.wrap .u64 ((x : Int) + (y : Int)) = ((x + y : Nat) : Int) := by rw [a1w (by omega) (by omega)]; omega
theorem d2y {x y : Nat} (h : x * y < 18446744073709551616) : IntKind.wrap .u64 ((x : Int) * (y : Int)) = ((x * y : Nat) : Int) := by
 rw [← Int.natCast_mul]; exact a3W h
theorem e4u {x n : Nat} (hx : x < LB) (hn : n < 33) : b1J .shl .u64 (x : Int) (n : Int) = some (.int .u64 ((x * 2 ^ n : Nat) : Int)) := by
 rw [d5c _ _ _ (by omega)]
 have hm : min (Int.toNat (n : Int)) IntKind.u64.bits = n := by
  show min n 64 = n
  omega
 rw [hm]
 have h2 : x * 2 ^ n < 18446744073709551616 := by
  have h3 : 2 ^ n ≤ 2 ^ 32 := Nat.pow_le_pow_right (by decide) (by omega)
  have h4 : x * 2 ^ n ≤ x * 2 ^ 32 := Nat.mul_le_mul_left _ h3
  have : LB = 4294967296 := rfl
  have : (2 : Nat) ^ 32 = 4294967296 := by decide
  omega
 have : (x : Int) * 2 ^ n = ((x * 2 ^ n : Nat) : Int) := by simp
 rw [this, a3W h2]
theorem e1N {x : Nat} (hx : x < LB) : b1J .shl .u64 (x : Int) 32 = some (.int .u64 ((x * LB : Nat) : Int)) := e4u (n := 32) hx (by decide)
theorem e4s {x n : Nat} (hn : n ≤ 64) : b1J .shr .u64 (x : Int) (n : Int) = some (.int .u64 ((x / 2 ^ n : Nat) : Int)) := by
 rw [a6d _ _ _ (by omega)]
 have hm : min (Int.toNat (n : Int)) IntKind.u64.bits = n := by
  show min n 64 = n
  omega
 rw [hm, Int.fdiv_eq_ediv_of_nonneg _ (by exact Int.pow_nonneg (by decide))]
 have : (2 : Int) ^ n = ((2 ^ n : Nat) : Int) := by simp
 rw [this]; rfl
theorem d4Z (x : Nat) : b1J .shr .u64 (x : Int) 32 = some (.int .u64 ((x / LB : Nat) : Int)) := e4s (n := 32) (by decide)
theorem c0T {x y : Nat} (hx : x < LB) (hy : y < LB) : IntKind.wrap .u64 (((BitVec.ofInt (IntKind.bits .u64) ((x * LB : Nat) : Int) ||| BitVec.ofInt (IntKind.bits .u64) (y : Int)).toNat : Nat) : Int) = ((x * LB + y : Nat) : Int) := by
 have h := e4M (x := x) (y := y) 32 hx (by decide) hy
 have e : (2 : Nat) ^ 32 = LB := by decide
 rw [e] at h
 have h' : (BitVec.ofInt (IntKind.bits .u64) ((x * LB : Nat) : Int) ||| BitVec.ofInt (IntKind.bits .u64) (y : Int)).toNat = x * LB + y := h
 rw [h', a3W (by
  have : LB = 4294967296 := rfl
  have : x * LB ≤ 4294967295 * LB := Nat.mul_le_mul_right _ (by omega)
  omega)]
theorem d2x {x y : Nat} (hx : x < LB) (hy : y < LB) : IntKind.wrap .u64 (((BitVec.ofInt (IntKind.bits .u64) (y : Int) ||| BitVec.ofInt (IntKind.bits .u64) ((x * LB : Nat) : Int)).toNat : Nat) : Int) = ((x * LB + y : Nat) : Int) := by
 rw [BitVec.or_comm]; exact c0T hx hy
theorem d4u {x y : Nat} (k : Nat) (hx : x < 2 ^ (32 - k)) (hk : k ≤ 32) (hy : y < 2 ^ k) : IntKind.wrap .u32 (((BitVec.ofInt (IntKind.bits .u32) (y : Int) ||| BitVec.ofInt (IntKind.bits .u32) ((x * 2 ^ k : Nat) : Int)).toNat : Nat) : Int) = ((x * 2 ^ k + y : Nat) : Int) := by
 have h : (BitVec.ofInt (IntKind.bits .u32) (y : Int) ||| BitVec.ofInt (IntKind.bits .u32) ((x * 2 ^ k : Nat) : Int)).toNat = x * 2 ^ k + y := d9e k hx hk hy
 rw [h, c3W]
 have e : 2 ^ 32 = 2 ^ (32 - k) * 2 ^ k := by rw [← Nat.pow_add]; congr 1; omega
 have h1 : (x + 1) * 2 ^ k ≤ 2 ^ (32 - k) * 2 ^ k := Nat.mul_le_mul_right _ hx
 rw [← e, Nat.add_mul] at h1
 have : LB = 2 ^ 32 := by decide
 omega
section
variable {H L : Heap} {n j len : Nat} {f : Nat → Nat} {oc : Option Nat} {k : IntKind} {env : Env}
theorem d9X (h : j < len) {X : List AV} : idxV (hap H (some ⟨1, X⟩ :: L)) 1 (.mu (lid H 0) 0 len oc) (.int k j) = some (.loc (lid H 0) j 0) := by
 rw [c2n H _ 1 0 0 len oc k j rfl rfl h, Nat.zero_add]
theorem e5V {a : Option Blk} (h : j < len) {X : List AV} : idxV (hap H (a :: some ⟨1, X⟩ :: L)) 1 (.mu (lid H 1) 0 len oc) (.int k j) = some (.loc (lid H 1) j 0) := by
 rw [c2n H _ 1 1 0 len oc k j rfl rfl h, Nat.zero_add]
theorem fat0 (h : j < n) : atV (hap H (some ⟨1, u32s (fl n f)⟩ :: L)) (.loc (lid H 0) j 0) = some [.int .u32 (f j : Nat)] := by
 rw [b0Y H _ 0 j rfl (by rw [a0U, a1E]; exact h)]
 simp only [b1Z (l := fl n f) (i := j) (by rw [a1E]; exact h), c3e h, AV.cells]
theorem fst0 (h : j < n) (d : Nat) : a6b 1 (.loc (lid H 0) j 0) (.int .u32 (d : Int)) env (hap H (some ⟨1, u32s (fl n f)⟩ :: L)) = some (.top, env, hap H (some ⟨1, u32s (fl n fun i => if i = j then d else f i)⟩ :: L)) := by
 rw [a7S env H _ 1 0 j 0 _ rfl (by rw [a0U, a1E]; exact h) rfl rfl (Nat.le_refl 1)]
 simp only [a6a, b9X, List.set_cons_zero, d6X]
theorem fst1 {a : Option Blk} (h : j < n) (d : Nat) : a6b 1 (.loc (lid H 1) j 0) (.int .u32 (d : Int)) env (hap H (a :: some ⟨1, u32s (fl n f)⟩ :: L)) = some (.top, env, hap H (a :: some ⟨1, u32s (fl n fun i => if i = j then d else f i)⟩ :: L)) := by
 rw [a7S env H _ 1 1 j 0 _ rfl (by rw [a0U, a1E]; exact h) rfl rfl (Nat.le_refl 1)]
 simp only [a6a, b9X, List.set_cons_succ, List.set_cons_zero, d6X]
theorem c6l {k' : IntKind} (h : n ≤ 35184372088832) : c9Z 1 4 (.int .u32 0) (.int k n) (.int k' n) env (hap H L) = some (.mu (lid H L.length) 0 n (some n), env, hap H (L ++ [some ⟨1, u32s (fl n fun _ => 0)⟩])) := by
 rw [b3s env H L k k' n h, e2Z]
theorem d6R (i : Nat) : frz (lid H i) ⟨1, u32s (fl n f)⟩ (.mu (lid H i) 0 n oc) = natV (fl n f) := by
 have := b3y H i (fl n f) oc
 rwa [a1E] at this
end
end Go.Abs
namespace Go.Abs
theorem c8I {n : Nat} (M : Nat) : (fl n fun j => if n ≤ j then dig M j else 0) = fl n fun _ => 0 := a4j fun i hi => if_neg (by omega)
theorem c8J {n i : Nat} (M : Nat) : (fl n fun j => if j = i then dig M i else if i + 1 ≤ j then dig M j else 0) = fl n fun j => if i ≤ j then dig M j else 0 := a4j fun j _ => by
 by_cases h : j = i
 ·subst h; rw [if_pos rfl, if_pos (Nat.le_refl _)]
 ·rw [if_neg h]
  by_cases h2 : i + 1 ≤ j
  ·rw [if_pos h2, if_pos (by omega)]
  ·rw [if_neg h2, if_neg (by omega)]
theorem d1S {n : Nat} (M : Nat) : (fl n fun j => if 0 ≤ j then dig M j else 0) = fl n (dig M) := a4j fun j _ => if_pos (Nat.zero_le _)
theorem c5H {A n d : Nat} (h : A < LB ^ n) : A / d < LB ^ n := Nat.lt_of_le_of_lt (Nat.div_le_self _ _) h
theorem b4o (a : List Nat) (d : Nat) (ha : Nt a) (hd : 0 < d) (hd2 : d < LB) : a0g Pr a8G [natV a, .int .u32 d] (.tup [natV (limbs (val a / d)), .int .u32 (val a % d : Nat)]) := by
 have hLB : LB = 4294967296 := rfl
 have hlen := ha.len
 have hv := a1V ha.lim
 refine a0g.intro b8N b8M (Nat.le_of_ble_eq_true rfl) (c3o (a3w _) (.int _ _)) fun H hH => ?_
 refine Safe.rg rfl ?_
 simp only [b2q, E3, seval]
 refine Safe.rg rfl ?_
 simp only [b2p, c6l (H := H) (L := []) (n := a.length) (by omega), E3, seval]
 refine Safe.rg rfl ?_
 simp only [b2o, E3, seval]
 refine Safe.rg rfl ?_
 simp only [b2n, a0e (n := (a.length : Int) - 1) (by omega) (by omega), E3, seval]
 refine Safe.lp rfl ?_
 refine Safe.keep [0, 1, 6, 7, 8] ?_
 simp only [E3, seval]
 refine Safe.loopD a.length (fun i => [(0, natV a), (1, .int .u32 d), (6, .mu (lid H 0) 0 a.length (some a.length)), (7, .int .u64 (val a / LB ^ i % d : Nat)), (8, .int .i64 ((i : Int) - 1))])
  (fun i => hap H [some ⟨1, u32s (fl a.length fun j => if i ≤ j then dig (val a / d) j else 0)⟩]) ?_ ?_ (fun i hi ih => ?_) ?_
 ·rw [Nat.div_eq_of_lt hv]; rfl
 ·rw [c8I]
 ·have e1 : ((i + 1 : Nat) : Int) - 1 = (i : Int) := by omega
  rw [e1]
  refine Safe.inLoop ?_
  refine Safe.rg rfl ?_
  simp only [a6f, Int.natCast_nonneg i, E3, seval]
  refine Safe.cd rfl ?_
  simp only [E3, seval]
  have hr : val a / LB ^ (i + 1) % d < LB := Nat.lt_trans (Nat.mod_lt _ hd) hd2
  have hai : a.getD i 0 < LB := a2n ha.lim i
  refine Safe.rg rfl ?_
  simp only [b2m, a0W _ a _ i hi, e1N hr, a3W (x := a.getD i 0) (by omega), c0T hr hai, E3, seval]
  rw [← d7h ha.lim i]
  have hs := d5a (val a) d i
  have hq := d5b (val a) d i
  have hb : val a / LB ^ (i + 1) % d * LB + dig (val a) i < 18446744073709551616 := by
   have := d1T (val a) i
   have : val a / LB ^ (i + 1) % d * LB ≤ 4294967295 * LB := Nat.mul_le_mul_right _ (by omega)
   omega
  refine Safe.rg rfl ?_
  simp only [b2l, a3W (x := d) (by omega), d5v hd hb, hq, c3W (d1T _ _), d9X hi, fst0 hi, E3, seval]
  refine Safe.rg rfl ?_
  simp only [b2k, a3W (x := d) (by omega), e2a hd, hs, E3, seval]
  refine Safe.rg rfl ?_
  simp only [b2j, a0e (n := (i : Int) - 1) (by omega) (by omega), E3, seval]
  refine Safe.keep [0, 1, 6, 7, 8] ?_
  simp only [E3, seval]
  rw [c8J]
  exact ih
 ·refine Safe.inLoop ?_
  refine Safe.rg rfl ?_
  simp only [a6f, show (0 ≤ ((0 : Nat) : Int) - 1) = False by simp, E3, seval]
  refine Safe.cd rfl ?_
  simp only [E3, seval]
  refine Safe.freeze 0 hH rfl rfl (a2r _) ?_
  refine Safe.keep [6, 7] ?_
  simp only [d6R, E3, seval]
  rw [d1S]
  have hr : val a % d < LB := Nat.lt_trans (Nat.mod_lt _ hd) hd2
  refine Safe.rg rfl ?_
  simp only [b2i, E3, seval]
  first | refine (a0o _ (a5H _ _) (by rw [a1E]; exact hlen)).acall ?_ | refine (a0o _ (a5H _ _) (by rw [a1E]; exact hlen)).dcall ?_ | refine (a0o _ (a5H _ _) (by rw [a1E]; exact hlen)).dgcall ?_
  try simp only [E3, seval]
  simp only [a7R (c5H hv (d := d)), Nat.pow_zero, Nat.div_one, c3W hr, E3, seval]
  refine Safe.rt rfl ?_
  simp only [E3, seval]
  first | exact ⟨rfl, _, rfl⟩ | exact ⟨_, rfl⟩ | exact ⟨trivial, _, rfl⟩
theorem c6Q (n : Nat) (h : n < LB) : a0g Pr a1K [.int .u32 n] (.int .i64 ((32 - blen n : Nat) : Int)) := by
 have hLB : LB = 4294967296 := rfl
 have hb : blen n ≤ 32 := by
  rcases Nat.lt_or_ge 32 (blen n) with hc | hc
  ·exfalso
   have h0 : n ≠ 0 := by rintro rfl; simp [c8U] at hc
   have := c3u h0
   have h2 : 2 ^ 32 ≤ 2 ^ (blen n - 1) := Nat.pow_le_pow_right (by decide) (by omega)
   have : (2 : Nat) ^ 32 = LB := by decide
   omega
  ·exact hc
 refine a0g.intro a8p a8o (Nat.le_of_ble_eq_true rfl) (.int _ _) fun H hH => ?_
 refine Safe.rg rfl ?_
 simp only [a2T, E3, seval]
 refine Safe.rg rfl ?_
 simp only [a2S, E3, seval]
 first | refine (b3w n (by omega)).acall ?_ | refine (b3w n (by omega)).dcall ?_ | refine (b3w n (by omega)).dgcall ?_
 try simp only [E3, seval]
 have hw : IntKind.wrap .i64 ((32 : Int) - ((blen n : Nat) : Int)) = ((32 - blen n : Nat) : Int) := by rw [a0e] <;> omega
 simp only [hw, E3, seval]
 refine Safe.rt rfl ?_
 simp only [E3, seval]
 first | exact ⟨rfl, _, rfl⟩ | exact ⟨_, rfl⟩ | exact ⟨trivial, _, rfl⟩
section
variable {H L : Heap} {id : Nat} {b : Blk}
theorem lrow (h : H[id]? = some (some b)) : hrow (hap H L) id = some b := by
 have hlt := a0l h
 rw [c6D _ _ _ hlt]
 unfold hrow; rw [h]; rfl
theorem llen (h : H[id]? = some (some b)) (off len : Nat) (oc : Option Nat) : lenV (hap H L) (.mu id off len oc) = some (.int .i64 len) := by rw [c6t, lrow h]; rfl
theorem lidx (h : H[id]? = some (some b)) {wd off len j : Nat} (hw : b.wd = wd) (oc : Option Nat) (k : IntKind) (hj : j < len) : idxV (hap H L) wd (.mu id off len oc) (.int k j) = some (.loc id (off + j) 0) := by
 rw [c6C _ _ _ _ _ _ _ _ (by omega) (by omega), lrow h]; simp [hw]
theorem lat (h : H[id]? = some (some b)) {j : Nat} (hj : j < b.xs.length) : atV (hap H L) (.loc id j 0) = some (b.xs.getD j .top).cells := by rw [b7Z, lrow h]; simp [hj]
theorem lslc (h : H[id]? = some (some b)) {wd off len n : Nat} (hw : b.wd = wd) (oc : Option Nat) (k : IntKind) (hn : n ≤ len) : slcV (hap H L) wd (.mu id off len oc) none (some (.int k n)) none = some (.mu id off n oc) := by
 simp only [slcV, lrow h, Option.bind_some, a3Z]
 rw [if_pos ⟨hw, by omega, by omega, by omega⟩]
 cases oc <;> simp
theorem d6B {i : Nat} (h : L[i]? = some (some b)) : (hap H L)[lid H i]? = some (some b) := by
 unfold hap lid
 rw [List.getElem?_append_right (by omega), Nat.add_sub_cancel_left]; exact h
end
theorem e1C (X : List Nat) (hX : Lim X) (hb : X.length ≤ 17592186044416) {H : Heap} {id : Nat} (h : H[id]? = some (some ⟨1, u32s X⟩)) (n : Nat) (hn : n = X.length) (oc : Option Nat) :
  a0h Pr a0u [.mu id 0 n oc] H fun r' H' => r' = .mu id 0 (limbs (val X)).length oc ∧ H' = H := by
 subst hn
 have hid := a0l h
 refine a0h.eff c1s c1q (Nat.le_of_ble_eq_true rfl) fun hH => ?_
 have kk : ∀ k : Nat, k ≤ X.length → val (X.take k) = val X → Safe ⟨Pr, fun _ _ => false, a0u, 21, [.tmp 2], H.length⟩ [.inLoop c1r, .inBlock 0, .code ((ACode.region a5F false).seq ACode.ret)] [(0, .mu id 0 k oc)] (hap H [])
   fun r' H' => ∃ H1 L, H' = hap H1 L ∧ H1.length = H.length ∧ a0y H1 ∧ Ref (· < H.length) r' ∧ r' = .mu id 0 (limbs (val X)).length oc ∧ H1 = H := by
  have stop : ∀ (k : Nat) (env : Env), k ≤ X.length → val (X.take k) = val X → ((X.take k).getLast?).getD 1 ≠ 0 → look env 0 = .mu id 0 k oc → Safe ⟨Pr, fun _ _ => false, a0u, 21, [.tmp 2], H.length⟩ [.code ((ACode.region a5F false).seq ACode.ret)] env (hap H [])
    fun r' H' => ∃ H1 L, H' = hap H1 L ∧ H1.length = H.length ∧ a0y H1 ∧ Ref (· < H.length) r' ∧ r' = .mu id 0 (limbs (val X)).length oc ∧ H1 = H := by
   intro k env hk hv hl h0
   refine Safe.rg rfl ?_
   simp only [a5F, h0, E3, seval]
   refine Safe.rt rfl ?_
   simp only [E3, seval]
   refine ⟨H, [], rfl, rfl, hH, .mu _ _ _ _ hid, ?_, rfl⟩
   rw [← hv, b2T (hX.take k) hl, List.length_take, Nat.min_eq_left hk]
  intro k
  induction k with
  | zero =>
   intro hk hv
   refine Safe.inLoop ?_
   refine Safe.rg rfl ?_
   simp only [a8j, llen h, show ((0 : Int) < ((0 : Nat) : Int)) = False by simp, E3, seval]
   refine Safe.cd rfl ?_
   simp only [E3, seval]
   refine Safe.exit rfl ?_
   exact stop 0 _ hk hv (by simp) (by simp only [E3, seval])
  | succ k ih =>
   intro hk hv
   refine Safe.inLoop ?_
   have hw : IntKind.i64.wrap (((k + 1 : Nat) : Int) - 1) = (k : Int) := by rw [a0e] <;> omega
   have hp : (0 < ((k + 1 : Nat) : Int)) = True := eq_true (by omega)
   have hat := lat (L := []) h (j := k) (by rw [a0U]; omega)
   rw [b1Z (by omega)] at hat
   refine Safe.rg rfl ?_
   simp only [a8j, llen h, hw, hp, lidx h rfl oc .i64 (Nat.lt_succ_self k), hat, E3, seval]
   have hlast : ((X.take (k + 1)).getLast?).getD 1 = X.getD k 0 := by rw [c7z (by omega)]; simp
   by_cases hd : X.getD k 0 = 0
   ·have e : (((X.getD k 0 : Nat) : Int) = 0) = True := eq_true (by omega)
    refine Safe.cd rfl ?_
    simp only [e, E3, seval]
    refine Safe.rg rfl ?_
    simp only [b4w, llen h, hw, lslc h rfl oc .i64 (Nat.le_succ k), E3, seval]
    refine Safe.inBlock ?_
    refine Safe.keep [0] ?_
    simp only [E3, seval]
    refine ih (by omega) ?_
    rw [← hv, a0v, hd]; simp
   ·have e : (((X.getD k 0 : Nat) : Int) = 0) = False := eq_false (by omega)
    refine Safe.cd rfl ?_
    simp only [e, E3, seval]
    refine Safe.exit rfl ?_
    exact stop (k + 1) _ hk hv (by rw [hlast]; exact hd) (by simp only [E3, seval])
 refine Safe.rg rfl ?_
 simp only [b4x, E3, seval]
 refine Safe.lp rfl ?_
 refine Safe.keep [0] ?_
 simp only [E3, seval]
 exact kk X.length (Nat.le_refl _) (by rw [List.take_length])
theorem d8y {l : List Nat} (hl : Lim l) {i n : Nat} (hi : i < l.length) (hn : n < 32) (j : Nat) :
  (if j = i + 1 then l.getD i 0 * 2 ^ n / LB else if j = i then l.getD i 0 % 2 ^ (32 - n) * 2 ^ n + dig (val (l.take i) * 2 ^ n) i else dig (val (l.take i) * 2 ^ n) j) = dig (val (l.take (i + 1)) * 2 ^ n) j := by
 have hLB : LB = 2 ^ (32 - n) * 2 ^ n := by rw [← Nat.pow_add, show 32 - n + n = 32 by omega]
 have hp : 0 < 2 ^ n := Nat.pow_pos (by decide)
 have hai := a2n hl i
 have hM := a5q hl i
 rw [a0v, Nat.add_mul]
 have e : LB ^ i * l.getD i 0 * 2 ^ n = LB ^ i * (l.getD i 0 * 2 ^ n) := Nat.mul_assoc _ _ _
 rw [e]
 generalize l.getD i 0 = a at *
 generalize hV : val (l.take i) = V at *
 have hy : V * 2 ^ n / LB ^ i < 2 ^ n := by
  rw [Nat.div_lt_iff_lt_mul (a7y i), Nat.mul_comm]
  exact Nat.mul_lt_mul_of_pos_left hM hp
 have h2n : 2 ^ n ≤ LB := by rw [hLB]; exact Nat.le_mul_of_pos_left _ (Nat.pow_pos (by decide))
 have hmod : a * 2 ^ n % LB = a % 2 ^ (32 - n) * 2 ^ n := by rw [hLB, Nat.mul_mod_mul_right]
 have hx : a % 2 ^ (32 - n) * 2 ^ n + V * 2 ^ n / LB ^ i < LB := by
  have h1 : (a % 2 ^ (32 - n) + 1) * 2 ^ n ≤ 2 ^ (32 - n) * 2 ^ n := Nat.mul_le_mul_right _ (Nat.mod_lt _ (Nat.pow_pos (by decide)))
  rw [← hLB, Nat.add_mul] at h1
  omega
 have hs : (V * 2 ^ n + LB ^ i * (a * 2 ^ n)) / LB ^ i = V * 2 ^ n / LB ^ i + a * 2 ^ n := Nat.add_mul_div_left _ _ (a7y i)
 have hdm := Nat.mod_add_div (a * 2 ^ n) LB
 rw [hmod] at hdm
 by_cases h1 : j = i + 1
 ·rw [if_pos h1, h1]
  unfold dig
  rw [b3c, hs]
  have h3 : (V * 2 ^ n / LB ^ i + a * 2 ^ n) / LB = a * 2 ^ n / LB := by
   conv => lhs; rw [← hdm, ← Nat.add_assoc, Nat.add_mul_div_left _ _ (show 0 < LB by decide)]
   rw [Nat.div_eq_of_lt (by omega), Nat.zero_add]
  rw [h3, Nat.mod_eq_of_lt]
  rw [Nat.div_lt_iff_lt_mul (by decide)]
  exact Nat.lt_of_lt_of_le (Nat.mul_lt_mul_of_pos_right hai hp) (Nat.mul_le_mul_left _ h2n)
 ·rw [if_neg h1]
  by_cases h2 : j = i
  ·rw [if_pos h2, h2]
   have h5 : (V * 2 ^ n / LB ^ i + a * 2 ^ n) % LB = V * 2 ^ n / LB ^ i + a % 2 ^ (32 - n) * 2 ^ n := by
    have : V * 2 ^ n / LB ^ i + a * 2 ^ n = (V * 2 ^ n / LB ^ i + a % 2 ^ (32 - n) * 2 ^ n) + LB * (a * 2 ^ n / LB) := by omega
    rw [this, Nat.add_mul_mod_self_left, Nat.mod_eq_of_lt (by omega)]
   unfold dig
   rw [hs, h5, Nat.mod_eq_of_lt (show V * 2 ^ n / LB ^ i < LB by omega), Nat.add_comm]
  ·rw [if_neg h2]
   rcases Nat.lt_or_ge j i with h3 | h3
   ·exact (c3h _ h3).symm
   ·have hbig : LB ^ (i + 1) * LB ≤ LB ^ j := by
     rw [← Nat.pow_succ]; exact Nat.pow_le_pow_right (by decide) (by omega)
    have hlow : V * 2 ^ n < LB ^ (i + 1) := by
     rw [Nat.pow_succ]
     exact Nat.lt_of_lt_of_le (Nat.mul_lt_mul_of_pos_right hM hp) (Nat.mul_le_mul_left _ h2n)
    have hall : V * 2 ^ n + LB ^ i * (a * 2 ^ n) < LB ^ (i + 1) * LB := by
     have q1 : V * 2 ^ n + LB ^ i * (a * 2 ^ n) = (V + LB ^ i * a) * 2 ^ n := by rw [Nat.add_mul, Nat.mul_assoc]
     have q2 : LB ^ i * (a + 1) ≤ LB ^ (i + 1) := by rw [Nat.pow_succ]; exact Nat.mul_le_mul_left _ hai
     rw [Nat.mul_add, Nat.mul_one] at q2
     rw [q1]
     exact Nat.lt_of_lt_of_le (Nat.mul_lt_mul_of_pos_right (show V + LB ^ i * a < LB ^ (i + 1) by omega) hp) (Nat.mul_le_mul_left _ h2n)
    have hL1 : LB ^ (i + 1) ≤ LB ^ (i + 1) * LB := Nat.le_mul_of_pos_right _ (by decide)
    rw [b3z (by omega), b3z (by omega)]
theorem a0h.introH {P : Program} {mu : Nat → Nat → Bool} {f : FuncId} {fn : Func} (hf : P.funcs[f]? = some fn) {ac : ACode} {rs : List ResV} {nt : Nat} (hc : fchk P mu fn = some (ac, rs, nt))
  {args : List AV} {H : Heap} {R : AV → Heap → Prop} (ha : args.length ≤ nt) (h : a0y H → Safe ⟨P, mu, f, nt, rs, H.length⟩ [.code ac] (b1L 0 args) (hap H []) R) : a0h P f args H R := a0h.intro hf hc ha fun hH => by
 have := h hH
 rw [a1J] at this
 exact this
theorem c7H (a : List Nat) (n : Nat) (ha : Nt a) (hal : a.length < 17592186044416) (hv : val a ≠ 0) (hn : n < 32) (H : Heap) : a0h Pr b6Q [natV a, .int .i64 n] H fun r' H' =>
  r' = .mu (lid H 0) 0 (limbs (val a * 2 ^ n)).length (some ((limbs (val a)).length + 1)) ∧ H' = hap H [some ⟨1, u32s (fl ((limbs (val a)).length + 1) (dig (val a * 2 ^ n)))⟩] := by
 have hlb : (limbs (val a)).length < 17592186044416 := Nat.lt_of_le_of_lt (a3g ha.lim) hal
 have hlim := a0E (val a)
 have hval := a0r (val a)
 have hne : (limbs (val a)).length ≠ 0 := by
  intro h0
  have := List.length_eq_zero_iff.1 h0
  rw [this] at hval
  exact hv hval.symm
 have hLB : LB = 4294967296 := rfl
 refine a0h.introH d3m d3k (Nat.le_of_ble_eq_true rfl) fun hH => ?_
 refine Safe.rg rfl ?_
 simp only [c4z, E3, seval]
 refine Safe.rg rfl ?_
 simp only [c4y, E3, seval]
 first | refine (a0o a ha.lim ha.len).acall ?_ | refine (a0o a ha.lim ha.len).dcall ?_ | refine (a0o a ha.lim ha.len).dgcall ?_
 try simp only [E3, seval]
 generalize limbs (val a) = l at *
 generalize val a = A at *
 subst hval
 have h0 : ((l.length : Int) = 0) = False := eq_false (by omega)
 refine Safe.rg rfl ?_
 simp only [c4x, h0, E3, seval]
 refine Safe.cd rfl ?_
 simp only [E3, seval]
 have hq : binV .quo (.int .i64 (n : Int)) (.int .i64 32) = some (.int .i64 0) := by
  have := e4z (x := n) (y := 32) (by decide) (by omega)
  rw [Nat.div_eq_of_lt hn] at this; exact this
 have hr : binV .rem (.int .i64 (n : Int)) (.int .i64 32) = some (.int .i64 (n : Int)) := by
  have := e4y (x := n) (y := 32) (by decide)
  rw [Nat.mod_eq_of_lt hn] at this; exact this
 refine Safe.rg rfl ?_
 simp only [c4w, hq, hr, a3W (x := n) (by omega), E3, seval]
 have w1 : IntKind.wrap .i64 ((l.length : Int) + 0) = (l.length : Int) := by rw [Int.add_zero]; exact c7v (by omega)
 have w2 : IntKind.wrap .i64 ((l.length : Int) + 1) = ((l.length + 1 : Nat) : Int) := by rw [a0e] <;> omega
 refine Safe.rg rfl ?_
 simp only [c4v, w1, w2, c6l (H := H) (L := []) (n := l.length + 1) (by omega), E3, seval]
 refine Safe.rg rfl ?_
 simp only [c4u, E3, seval]
 refine Safe.lp rfl ?_
 refine Safe.keep [0, 5, 6, 7, 27, 28] ?_
 simp only [E3, seval]
 refine Safe.loopN l.length (fun i => [(0, natV l), (5, .int .i64 0), (6, .int .u64 (n : Int)), (7, .mu (lid H 0) 0 (l.length + 1) (some (l.length + 1))), (27, .int .i64 l.length), (28, .int .i64 i)])
  (fun i => hap H [some ⟨1, u32s (fl (l.length + 1) (dig (val (l.take i) * 2 ^ n)))⟩]) rfl ?_ (fun i hi ih => ?_) ?_
 ·congr 5
  refine a4j fun j _ => ?_
  simp [dig, val]
 ·have hlt : ((i : Int) < (l.length : Int)) = True := eq_true (by omega)
  refine Safe.inLoop ?_
  refine Safe.rg rfl ?_
  simp only [b7p, hlt, E3, seval]
  refine Safe.cd rfl ?_
  simp only [E3, seval]
  have hai := a2n hlim i
  refine Safe.rg rfl ?_
  simp only [c4t, E3, seval]
  refine Safe.rg rfl ?_
  simp only [c4s, a0W _ l _ i hi, a3W (x := l.getD i 0) (by omega), e4u hai (show n < 33 by omega), E3, seval]
  have w3 : IntKind.wrap .i64 ((i : Int) + 0) = (i : Int) := by rw [Int.add_zero]; exact c7v (by omega)
  have w4 : IntKind.wrap .i64 ((i : Int) + 1) = ((i + 1 : Nat) : Int) := by rw [a0e] <;> omega
  have hLB2 : LB = 2 ^ (32 - n) * 2 ^ n := by rw [← Nat.pow_add, show 32 - n + n = 32 by omega]
  have w5 : IntKind.wrap .u32 ((l.getD i 0 * 2 ^ n : Nat) : Int) = ((l.getD i 0 % 2 ^ (32 - n) * 2 ^ n : Nat) : Int) := by
   rw [a2O]; congr 1
   rw [hLB2, Nat.mul_mod_mul_right]
  have hy : dig (val (l.take i) * 2 ^ n) i < 2 ^ n := by
   unfold dig
   refine Nat.lt_of_le_of_lt (Nat.mod_le _ _) ?_
   rw [Nat.div_lt_iff_lt_mul (a7y i), Nat.mul_comm]
   exact Nat.mul_lt_mul_of_pos_left (a5q hlim i) (Nat.pow_pos (by decide))
  have w6 := d4u (x := l.getD i 0 % 2 ^ (32 - n)) n (Nat.mod_lt _ (Nat.pow_pos (by decide))) (by omega) hy
  refine Safe.rg rfl ?_
  simp only [c1x, w3, d9X (show i < l.length + 1 by omega), fat0 (show i < l.length + 1 by omega), w5, w6, fst0 (show i < l.length + 1 by omega), E3, seval]
  have hq2 : l.getD i 0 * 2 ^ n / LB < LB := by
   rw [Nat.div_lt_iff_lt_mul (by decide)]
   have h2n : 2 ^ n ≤ LB := by rw [hLB2]; exact Nat.le_mul_of_pos_left _ (Nat.pow_pos (by decide))
   exact Nat.lt_of_lt_of_le (Nat.mul_lt_mul_of_pos_right hai (Nat.pow_pos (by decide))) (Nat.mul_le_mul_left _ h2n)
  refine Safe.rg rfl ?_
  simp only [c1w, w3, w4, d4Z, c3W hq2, d9X (show i + 1 < l.length + 1 by omega), fst0 (show i + 1 < l.length + 1 by omega), E3, seval]
  refine Safe.rg rfl ?_
  simp only [c1v, w4, E3, seval]
  refine Safe.keep [0, 5, 6, 7, 27, 28] ?_
  simp only [E3, seval]
  rw [a4j fun j _ => d8y hlim hi hn j]
  exact ih
 ·refine Safe.inLoop ?_
  refine Safe.rg rfl ?_
  simp only [b7p, Int.lt_irrefl, E3, seval]
  refine Safe.cd rfl ?_
  simp only [E3, seval]
  rw [List.take_length]
  refine Safe.rg rfl ?_
  simp only [c1u, E3, seval]
  have hb : val l * 2 ^ n < LB ^ (l.length + 1) := by
   rw [Nat.pow_succ]
   have h2n : 2 ^ n ≤ LB := by
    have : LB = 2 ^ (32 - n) * 2 ^ n := by rw [← Nat.pow_add, show 32 - n + n = 32 by omega]
    rw [this]; exact Nat.le_mul_of_pos_left _ (Nat.pow_pos (by decide))
   exact Nat.lt_of_lt_of_le (Nat.mul_lt_mul_of_pos_right (a1V hlim) (Nat.pow_pos (by decide))) (Nat.mul_le_mul_left _ h2n)
  refine a0h.mono (e1C _ (a5H _ _) (by rw [a1E]; omega) (d6B rfl) (l.length + 1) (a1E _ _).symm (some (l.length + 1))) ?_
  rintro r' H' ⟨rfl, rfl⟩
  rw [a7R hb]
  simp only [E3, seval]
  refine Safe.rt rfl ?_
  simp only [E3, seval]
theorem a4c (l : List Nat) (i : Nat) : val (l.drop i) = l.getD i 0 + LB * val (l.drop (i + 1)) := by
 rcases Nat.lt_or_ge i l.length with h | h
 ·rw [List.drop_eq_getElem_cons h, List.getD_eq_getElem?_getD, List.getElem?_eq_getElem h]; rfl
 ·rw [List.drop_eq_nil_of_le h, List.drop_eq_nil_of_le (by omega), b6x h]; rfl
theorem c9v {l : List Nat} (hl : Lim l) (i : Nat) : val l / LB ^ i = val (l.drop i) := by
 rw [a9U l i, Nat.add_mul_div_left _ _ (a7y i), Nat.div_eq_of_lt (a5q hl i), Nat.zero_add]
theorem d8x {l : List Nat} (hl : Lim l) (i : Nat) {n : Nat} (hn : n < 32) : (l.getD (i + 1) 0 * LB + l.getD i 0) / 2 ^ n % LB = dig (val l / 2 ^ n) i := by
 have hLB : LB = 2 ^ (32 - n) * 2 ^ n := by rw [← Nat.pow_add, show 32 - n + n = 32 by omega]
 unfold dig
 rw [Nat.div_div_eq_div_mul, Nat.mul_comm (2 ^ n), ← Nat.div_div_eq_div_mul, c9v hl, a4c, a4c l (i + 1)]
 have e : l.getD i 0 + LB * (l.getD (i + 1) 0 + LB * val (l.drop (i + 1 + 1))) = (l.getD (i + 1) 0 * LB + l.getD i 0) + 2 ^ n * (LB * (2 ^ (32 - n) * val (l.drop (i + 1 + 1)))) := by
  have h1 : LB * (LB * val (l.drop (i + 1 + 1))) = 2 ^ n * (LB * (2 ^ (32 - n) * val (l.drop (i + 1 + 1)))) := by
   conv => lhs; rw [Nat.mul_left_comm]; lhs; rw [hLB]
   rw [Nat.mul_comm (2 ^ (32 - n)), Nat.mul_assoc]
   congr 1
   rw [Nat.mul_left_comm]
  rw [Nat.mul_add, h1, Nat.mul_comm LB (l.getD (i + 1) 0)]
  omega
 rw [e, Nat.add_mul_div_left _ _ (Nat.pow_pos (by decide)), Nat.add_mul_mod_self_left]
theorem c6b (a : List Nat) (n : Nat) (ha : Nt a) (hn : n < 32) : a0g Pr b6P [natV a, .int .i64 n] (natV (limbs (val a / 2 ^ n))) := by
 have hlb := ha.limbs.len
 have hlim := a0E (val a)
 have hval := a0r (val a)
 have hLB : LB = 4294967296 := rfl
 refine a0g.introL d3i d3h (Nat.le_of_ble_eq_true rfl) (a3w _) fun H hH => ?_
 refine Safe.rg rfl ?_
 simp only [c4q, E3, seval]
 refine Safe.rg rfl ?_
 simp only [c4p, E3, seval]
 first | refine (a0o a ha.lim ha.len).acall ?_ | refine (a0o a ha.lim ha.len).dcall ?_ | refine (a0o a ha.lim ha.len).dgcall ?_
 try simp only [E3, seval]
 generalize limbs (val a) = l at *
 generalize val a = A at *
 subst hval
 have hq : binV .quo (.int .i64 (n : Int)) (.int .i64 32) = some (.int .i64 0) := by
  have := e4z (x := n) (y := 32) (by decide) (by omega)
  rw [Nat.div_eq_of_lt hn] at this; exact this
 have hr : binV .rem (.int .i64 (n : Int)) (.int .i64 32) = some (.int .i64 (n : Int)) := by
  have := e4y (x := n) (y := 32) (by decide)
  rw [Nat.mod_eq_of_lt hn] at this; exact this
 refine Safe.rg rfl ?_
 simp only [c4o, hq, hr, a3W (x := n) (by omega), E3, seval]
 by_cases h0 : l.length = 0
 ·have hc : ((l.length : Int) ≤ 0) = True := eq_true (by omega)
  refine Safe.rg rfl ?_
  simp only [b7o, hc, E3, seval]
  refine Safe.cd rfl ?_
  simp only [E3, seval]
  refine Safe.rg rfl ?_
  simp only [c4n, E3, seval]
  have : l = [] := List.length_eq_zero_iff.1 h0
  subst this
  refine Safe.rt rfl ?_
  simp only [E3, seval]
  refine ⟨?_, [], rfl⟩
  have : limbs (val [] / 2 ^ n) = [] := by simp [val, a1f]
  rw [this]
  exact Le.nil 1 (by decide)
 ·have hc : ((l.length : Int) ≤ 0) = False := eq_false (by omega)
  refine Safe.rg rfl ?_
  simp only [b7o, hc, E3, seval]
  refine Safe.cd rfl ?_
  simp only [E3, seval]
  have w1 : IntKind.wrap .i64 ((l.length : Int) - 0) = (l.length : Int) := by rw [Int.sub_zero]; exact c7v (by omega)
  refine Safe.rg rfl ?_
  simp only [c4m, w1, c6l (H := H) (L := []) (n := l.length) (by omega), E3, seval]
  refine Safe.rg rfl ?_
  simp only [c4l, e2q, E3, seval]
  refine Safe.lp rfl ?_
  refine Safe.keep [0, 5, 6, 7, 27, 28] ?_
  simp only [E3, seval]
  refine Safe.loopN l.length (fun i => [(0, natV l), (5, .int .i64 0), (6, .int .u64 (n : Int)), (7, .mu (lid H 0) 0 l.length (some l.length)), (27, .int .i64 l.length), (28, .int .i64 i)])
   (fun i => hap H [some ⟨1, u32s (fl l.length fun j => if j < i then dig (val l / 2 ^ n) j else 0)⟩]) rfl ?_ (fun i hi ih => ?_) ?_
  ·congr 5
  ·have hlt : ((i : Int) < (l.length : Int)) = True := eq_true (by omega)
   refine Safe.inLoop ?_
   refine Safe.rg rfl ?_
   simp only [b7n, hlt, E3, seval]
   refine Safe.cd rfl ?_
   simp only [E3, seval]
   have hai := a2n hlim i
   have hai1 := a2n hlim (i + 1)
   have w3 : IntKind.wrap .i64 ((i : Int) + 0) = (i : Int) := by rw [Int.add_zero]; exact c7v (by omega)
   have w4 : IntKind.wrap .i64 ((i : Int) + 1) = ((i + 1 : Nat) : Int) := by rw [a0e] <;> omega
   refine Safe.rg rfl ?_
   simp only [c4k, E3, seval]
   refine Safe.rg rfl ?_
   simp only [c4j, a0W _ l _ i hi, a3W (x := l.getD i 0) (by omega), w3, E3, seval]
   have rest : ∀ env : Env, look env 0 = natV l → look env 5 = .int .i64 0 → look env 6 = .int .u64 (n : Int) → look env 7 = .mu (lid H 0) 0 l.length (some l.length) → look env 27 = .int .i64 l.length → look env 28 = .int .i64 i → look env 8 = .int .i64 i →
     look env 9 = .int .u64 (l.getD (i + 1) 0 * LB + l.getD i 0 : Nat) → Safe ⟨Pr, fun _ _ => false, b6P, 66, [.tmp 4], H.length⟩ [.code (.region b4A false), .inBlock 1, .code (.region b4z false), .inLoop c4r, .inBlock 0, .code ((ACode.region b4y false).seq .ret)]
      env (hap H [some ⟨1, u32s (fl l.length fun j => if j < i then dig (val l / 2 ^ n) j else 0)⟩]) fun r' H' => Le r' (natV (limbs (val l / 2 ^ n))) ∧ ∃ L, H' = hap H L := by
    intro env e0 e5 e6 e7 e27 e28 e8 e9
    have w5 := a2O ((l.getD (i + 1) 0 * LB + l.getD i 0) / 2 ^ n)
    rw [d8x hlim i hn] at w5
    refine Safe.rg rfl ?_
    simp only [b4A, e7, e8, e9, e6, e4s (show n ≤ 64 by omega), w5, d9X hi, fst0 hi, E3, seval]
    refine Safe.inBlock ?_
    refine Safe.rg rfl ?_
    simp only [b4z, e28, w4, E3, seval]
    refine Safe.keep [0, 5, 6, 7, 27, 28] ?_
    simp only [E3, seval]
    simp only [e0, e5, e6, e7, e27]
    rw [show (fl l.length fun j => if j = i then dig (val l / 2 ^ n) i else if j < i then dig (val l / 2 ^ n) j else 0) = fl l.length fun j => if j < i + 1 then dig (val l / 2 ^ n) j else 0 from a4j fun j _ => by
     by_cases h : j = i
     ·subst h; rw [if_pos rfl, if_pos (by omega)]
     ·rw [if_neg h]
      by_cases h2 : j < i
      ·rw [if_pos h2, if_pos (by omega)]
      ·rw [if_neg h2, if_neg (by omega)]]
    exact ih
   by_cases h1 : i + 1 < l.length
   ·have hlt1 : (((i + 1 : Nat) : Int) < (l.length : Int)) = True := eq_true (by omega)
    refine Safe.rg rfl ?_
    simp only [b4B, w3, w4, hlt1, E3, seval]
    refine Safe.cd rfl ?_
    simp only [E3, seval]
    refine Safe.rg rfl ?_
    simp only [c1t, w3, w4, a0W _ l _ (i + 1) h1, a3W (x := l.getD (i + 1) 0) (by omega), e1N hai1, d2x hai1 hai, E3, seval]
    exact rest _ (by simp only [E3, seval]) (by simp only [E3, seval]) (by simp only [E3, seval]) (by simp only [E3, seval]) (by simp only [E3, seval]) (by simp only [E3, seval]) (by simp only [E3, seval]) (by simp only [E3, seval])
   ·have hlt1 : (((i + 1 : Nat) : Int) < (l.length : Int)) = False := eq_false (by omega)
    refine Safe.rg rfl ?_
    simp only [b4B, w3, w4, hlt1, E3, seval]
    refine Safe.cd rfl ?_
    simp only [E3, seval]
    have hz : l.getD (i + 1) 0 * LB + l.getD i 0 = l.getD i 0 := by rw [b6x (a := l) (i := i + 1) (by omega)]; omega
    refine Safe.skip (rest _ (by simp only [E3, seval]) (by simp only [E3, seval]) (by simp only [E3, seval]) (by simp only [E3, seval]) (by simp only [E3, seval]) (by simp only [E3, seval]) (by simp only [E3, seval]) (by rw [hz]; simp only [E3, seval]))
  ·refine Safe.inLoop ?_
   refine Safe.rg rfl ?_
   simp only [b7n, Int.lt_irrefl, E3, seval]
   refine Safe.cd rfl ?_
   simp only [E3, seval]
   refine Safe.freeze 0 hH rfl rfl (a2r _) ?_
   refine Safe.keep [7] ?_
   simp only [d6R, E3, seval]
   rw [show (fl l.length fun j => if j < l.length then dig (val l / 2 ^ n) j else 0) = fl l.length (dig (val l / 2 ^ n)) from a4j fun j hj => if_pos hj]
   refine Safe.rg rfl ?_
   simp only [b4y, E3, seval]
   first | refine (a0o _ (a5H _ _) (by rw [a1E]; omega)).acall ?_ | refine (a0o _ (a5H _ _) (by rw [a1E]; omega)).dcall ?_ | refine (a0o _ (a5H _ _) (by rw [a1E]; omega)).dgcall ?_
   try simp only [E3, seval]
   simp only [a7R (c5H (a1V hlim) (d := 2 ^ n)), E3, seval]
   refine Safe.rt rfl ?_
   simp only [E3, seval]
   exact ⟨Le.refl _, _, rfl⟩
def xr (g : Nat → Nat) (off : Nat) (x : List Nat) : Nat → Nat := fun j => if off ≤ j ∧ j < off + x.length then x.getD (j - off) 0 else g j
section
variable {g : Nat → Nat} {off N : Nat} {x y : List Nat}
theorem e0O : xr g off [] = g := by funext j; unfold xr; rw [if_neg (by simp)]
theorem d4t (d : Nat) : (fun j => if j = off + x.length then d else xr g off x j) = xr g off (x ++ [d]) := by
 funext j; unfold xr
 rw [List.length_append, List.length_singleton]
 by_cases h : j = off + x.length
 ·subst h; rw [if_pos rfl, if_pos (by omega), Nat.add_sub_cancel_left]; simp
 ·rw [if_neg h]
  by_cases h2 : off ≤ j ∧ j < off + x.length
  ·rw [if_pos h2, if_pos (by omega)]
   simp only [List.getD_eq_getElem?_getD]
   rw [List.getElem?_append_left (by omega)]
  ·rw [if_neg h2, if_neg (by omega)]
theorem e4g : xr g off x (off + x.length) = g (off + x.length) := by unfold xr; rw [if_neg (by omega)]
theorem e5I (hg : ∀ i, i < N → g i < LB) (hx : Lim x) : ∀ i, i < N → xr g off x i < LB := by
 intro i hi; unfold xr; split
 ·exact a2n hx _
 ·exact hg i hi
theorem e4f : fl x.length (fun i => xr g off x (off + i)) = x := by
 refine Eq.trans ?_ (e3a (l := x) rfl).symm
 refine a4j fun i hi => ?_
 unfold xr; rw [if_pos (by omega), Nat.add_sub_cancel_left]
theorem e5H (h : x.length = y.length) : xr (xr g off x) off y = xr g off y := by
 funext j; unfold xr; rw [h]
 split
 ·rfl
 ·rfl
end
section
variable {H L : Heap} {id N : Nat} {f : Nat → Nat} (hid : id < H.length)
include hid
theorem ofat {j : Nat} (h : j < N) : atV (hap (H.set id (some ⟨1, u32s (fl N f)⟩)) L) (.loc id j 0) = some [.int .u32 (f j : Nat)] := by
 rw [e4Q hid _ j (by rw [a0U, a1E]; exact h)]
 simp only [b1Z (l := fl N f) (i := j) (by rw [a1E]; exact h), c3e h, AV.cells]
theorem ofst {env : Env} {j : Nat} (h : j < N) (d : Nat) : a6b 1 (.loc id j 0) (.int .u32 (d : Int)) env (hap (H.set id (some ⟨1, u32s (fl N f)⟩)) L) = some (.top, env, hap (H.set id (some ⟨1, u32s (fl N fun i => if i = j then d else f i)⟩)) L) := by
 rw [e4P hid env _ 1 j _ (by rw [a0U, a1E]; exact h) rfl rfl (Nat.le_refl 1)]
 simp only [a6a, b9X, d6X]
end
noncomputable abbrev digX (n0 : Nat) : Cx := ⟨Pr, fun _ _ => false, b1u, 117, [.tmp 4], n0⟩
theorem d7g {H : Heap} {id off N n : Nat} {oc : Option Nat} {v : List Nat} {g : Nat → Nat} {todo : List AItem} {R : AV → Heap → Prop} {q b : Nat} (hid : id < H.length) (hv : Lim v) (hn : v.length = n) (hoff : off + n + 1 ≤ N) (hN : N ≤ 17592186044416) (hg : ∀ i, i < N → g i < LB)
  (k : ∀ y c, y.length = n + 1 → Lim y → c ≤ 1 → val y + LB ^ (n + 1) * c = val (fl (n + 1) fun i => g (off + i)) + val v →
   Safe (digX H.length) todo [(0, .mu id off (n + 1) oc), (1, natV v), (5, .int .i64 n), (7, .int .u64 q), (9, .int .u64 b), (13, .int .u64 c)] (hap (H.set id (some ⟨1, u32s (fl N (xr g off y))⟩)) []) R) :
  Safe (digX H.length) (.inLoop a8Y :: .inBlock 4 :: todo) [(0, .mu id off (n + 1) oc), (1, natV v), (5, .int .i64 n), (7, .int .u64 q), (9, .int .u64 b), (13, .int .u64 0), (83, .int .i64 ((n + 1 : Nat) : Int)), (84, .int .i64 0)] (hap (H.set id (some ⟨1, u32s (fl N g)⟩)) []) R := by
 have hLB : LB = 4294967296 := rfl
 have key : ∀ (m i c : Nat) (y : List Nat), i + m = n + 1 → y.length = i → Lim y → c ≤ 1 → val y + LB ^ i * c = val ((fl (n + 1) fun i => g (off + i)).take i) + val (v.take i) →
   Safe (digX H.length) (.inLoop a8Y :: .inBlock 4 :: todo) [(0, .mu id off (n + 1) oc), (1, natV v), (5, .int .i64 n), (7, .int .u64 q), (9, .int .u64 b), (13, .int .u64 c), (83, .int .i64 ((n + 1 : Nat) : Int)), (84, .int .i64 i)] (hap (H.set id (some ⟨1, u32s (fl N (xr g off y))⟩)) []) R := by
  intro m
  induction m with
  | zero =>
   intro i c y him hy ly hc hval
   have hi : i = n + 1 := by omega
   subst hi
   refine Safe.inLoop ?_
   refine Safe.rg rfl ?_
   simp only [b0Q, Int.lt_irrefl, E3, seval]
   refine Safe.cd rfl ?_
   simp only [E3, seval]
   refine Safe.exit rfl ?_
   refine Safe.keep [0, 1, 5, 7, 9, 13] ?_
   simp only [E3, seval]
   refine k y c hy ly hc ?_
   rw [hval, List.take_of_length_le (l := fl _ _) (by rw [a1E]; omega), List.take_of_length_le (l := v) (by omega)]
  | succ m ih =>
   intro i c y him hy ly hc hval
   have hlt : ((i : Int) < ((n + 1 : Nat) : Int)) = True := eq_true (by omega)
   refine Safe.inLoop ?_
   refine Safe.rg rfl ?_
   simp only [b0Q, hlt, E3, seval]
   refine Safe.cd rfl ?_
   simp only [E3, seval]
   have hgi : g (off + i) < LB := hg _ (by omega)
   have hxi : xr g off y (off + i) = g (off + i) := by subst hy; exact e4g
   have hvi := a2n hv i
   refine Safe.rg rfl ?_
   simp only [b5Q, E3, seval]
   refine Safe.rg rfl ?_
   simp only [b5P, b7j hid 1 _ off (n + 1) i oc .i64 (show i < n + 1 by omega), ofat hid (show off + i < N by omega), hxi, a3W (x := g (off + i)) (by omega), b6U (x := c) (y := g (off + i)) (by omega), E3, seval]
   have rest : ∀ env : Env, look env 0 = .mu id off (n + 1) oc → look env 1 = natV v → look env 5 = .int .i64 n → look env 7 = .int .u64 q → look env 9 = .int .u64 b → look env 83 = .int .i64 ((n + 1 : Nat) : Int) → look env 84 = .int .i64 i → look env 14 = .int .i64 i → look env 13 = .int .u64 (c + g (off + i) + v.getD i 0 : Nat) →
     Safe (digX H.length) (.code (.seq (.region b0O false) (.region b0N false)) :: .inBlock 5 :: .code (.region b0M false) :: .inLoop a8Y :: .inBlock 4 :: todo) env (hap (H.set id (some ⟨1, u32s (fl N (xr g off y))⟩)) []) R := by
    intro env e0 e1 e5 e7 e9 e83 e84 e14 e13
    have w5 := a2O (c + g (off + i) + v.getD i 0)
    refine Safe.rg rfl ?_
    simp only [b0O, e0, e14, e13, w5, b7j hid 1 _ off (n + 1) i oc .i64 (show i < n + 1 by omega), ofst hid (show off + i < N by omega), E3, seval]
    refine Safe.rg rfl ?_
    simp only [b0N, e13, d4Z, E3, seval]
    refine Safe.inBlock ?_
    have w4 : IntKind.wrap .i64 ((i : Int) + 1) = ((i + 1 : Nat) : Int) := by rw [a0e] <;> omega
    refine Safe.rg rfl ?_
    simp only [b0M, e84, w4, E3, seval]
    refine Safe.keep [0, 1, 5, 7, 9, 13, 83, 84] ?_
    simp only [E3, seval]
    simp only [e0, e1, e5, e7, e9, e83]
    rw [← hy, d4t, hy]
    refine ih (i + 1) _ _ (by omega) (by simp [hy]) (a3X ly (Nat.mod_lt _ (by decide))) ?_ ?_
    ·have : c + g (off + i) + v.getD i 0 < LB * 2 := by omega
     have := Nat.div_lt_of_lt_mul this
     omega
    ·rw [a7u, hy, a0v, a0v, Nat.pow_succ, c3e (by omega)]
     exact d1i (i := 0) hval
   by_cases hin : i < n
   ·have hl2 : ((i : Int) < (n : Int)) = True := eq_true (by omega)
    refine Safe.rg rfl ?_
    simp only [b0P, hl2, E3, seval]
    refine Safe.cd rfl ?_
    simp only [E3, seval]
    refine Safe.rg rfl ?_
    simp only [b5O, a0W _ v _ i (by omega), a3W (x := v.getD i 0) (by omega), b6U (x := c + g (off + i)) (y := v.getD i 0) (by omega), E3, seval]
    exact rest _ (by simp only [E3, seval]) (by simp only [E3, seval]) (by simp only [E3, seval]) (by simp only [E3, seval]) (by simp only [E3, seval]) (by simp only [E3, seval]) (by simp only [E3, seval]) (by simp only [E3, seval]) (by simp only [E3, seval])
   ·have hl2 : ((i : Int) < (n : Int)) = False := eq_false (by omega)
    refine Safe.rg rfl ?_
    simp only [b0P, hl2, E3, seval]
    refine Safe.cd rfl ?_
    simp only [E3, seval]
    have hz : c + g (off + i) + v.getD i 0 = c + g (off + i) := by rw [b6x (a := v) (by omega), Nat.add_zero]
    exact Safe.skip (rest _ (by simp only [E3, seval]) (by simp only [E3, seval]) (by simp only [E3, seval]) (by simp only [E3, seval]) (by simp only [E3, seval]) (by simp only [E3, seval]) (by simp only [E3, seval]) (by simp only [E3, seval]) (by rw [hz]; simp only [E3, seval]))
 have := key (n + 1) 0 0 [] (by omega) rfl c2O (by omega) (by simp [val])
 rw [e0O] at this
 exact this
theorem d8p {vx qv vu B b c q vi lo d bo c' u : Nat} (h : vx + qv = vu + B * (b + c)) (hd : u + LB * bo = d + lo + b) (hl : lo + LB * c' = c + q * vi) : (vx + B * d) + (qv + B * (q * vi)) = (vu + B * u) + (B * LB) * (bo + c') := by
 have e1 : B * (u + LB * bo) = B * (d + lo + b) := by rw [hd]
 have e2 : B * (lo + LB * c') = B * (c + q * vi) := by rw [hl]
 simp only [Nat.mul_add, ← Nat.mul_assoc] at *
 omega
theorem d7f {H : Heap} {id off N n : Nat} {oc : Option Nat} {v : List Nat} {g : Nat → Nat} {todo : List AItem} {R : AV → Heap → Prop} {q : Nat} (hid : id < H.length) (hv : Lim v) (hn : v.length = n) (hoff : off + n + 1 ≤ N) (hN : N ≤ 17592186044416) (hg : ∀ i, i < N → g i < LB) (hq : q < LB)
  (k : ∀ y b, y.length = n + 1 → Lim y → b ≤ 1 → val y + q * val v = val (fl (n + 1) fun i => g (off + i)) + LB ^ (n + 1) * b →
   Safe (digX H.length) todo [(0, .mu id off (n + 1) oc), (1, natV v), (5, .int .i64 n), (7, .int .u64 q), (9, .int .u64 b)] (hap (H.set id (some ⟨1, u32s (fl N (xr g off y))⟩)) []) R) :
  Safe (digX H.length) (.inLoop a8Z :: .inBlock 0 :: todo) [(0, .mu id off (n + 1) oc), (1, natV v), (5, .int .i64 n), (7, .int .u64 q), (8, .int .u64 0), (9, .int .u64 0), (40, .int .i64 ((n + 1 : Nat) : Int)), (41, .int .i64 0)] (hap (H.set id (some ⟨1, u32s (fl N g)⟩)) []) R := by
 have hLB : LB = 4294967296 := rfl
 have key : ∀ (m i b c : Nat) (y : List Nat), i + m = n + 1 → y.length = i → Lim y → b ≤ 1 → c < LB → val y + q * val (v.take i) = val ((fl (n + 1) fun i => g (off + i)).take i) + LB ^ i * (b + c) → LB ^ i * c ≤ q * val (v.take i) →
   Safe (digX H.length) (.inLoop a8Z :: .inBlock 0 :: todo) [(0, .mu id off (n + 1) oc), (1, natV v), (5, .int .i64 n), (7, .int .u64 q), (8, .int .u64 c), (9, .int .u64 b), (40, .int .i64 ((n + 1 : Nat) : Int)), (41, .int .i64 i)] (hap (H.set id (some ⟨1, u32s (fl N (xr g off y))⟩)) []) R := by
  intro m
  induction m with
  | zero =>
   intro i b c y him hy ly hb hc hval hcl
   have hi : i = n + 1 := by omega
   subst hi
   refine Safe.inLoop ?_
   refine Safe.rg rfl ?_
   simp only [b2v, Int.lt_irrefl, E3, Nat.reduceLeDiff, Nat.reduceSub, Nat.reduceAdd, Nat.reduceEqDiff, reduceCtorEq, ↓reduceIte]
   refine Safe.cd rfl ?_
   simp only [E3, Nat.reduceLeDiff, Nat.reduceSub, Nat.reduceAdd, Nat.reduceEqDiff, reduceCtorEq, ↓reduceIte]
   refine Safe.exit rfl ?_
   refine Safe.keep [0, 1, 5, 7, 9] ?_
   simp only [E3, Nat.reduceLeDiff, Nat.reduceSub, Nat.reduceAdd, Nat.reduceEqDiff, reduceCtorEq, ↓reduceIte]
   refine k y b hy ly hb ?_
   rw [List.take_of_length_le (l := v) (by omega)] at hval hcl
   rw [List.take_of_length_le (l := fl _ _) (by rw [a1E]; omega)] at hval
   have hc0 : c = 0 := by
    have h1 := a1V hv
    rw [hn] at h1
    have h2 : q * val v < LB * LB ^ n := Nat.mul_lt_mul'' hq h1
    rw [← Nat.pow_succ'] at h2
    have h3 : LB ^ (n + 1) * c < LB ^ (n + 1) * 1 := by rw [Nat.mul_one]; exact Nat.lt_of_le_of_lt hcl h2
    have := Nat.lt_of_mul_lt_mul_left h3
    omega
   rw [hval, hc0, show b + 0 = b from rfl]
  | succ m ih =>
   intro i b c y him hy ly hb hc hval hcl
   have hlt : ((i : Int) < ((n + 1 : Nat) : Int)) = True := eq_true (by omega)
   refine Safe.inLoop ?_
   refine Safe.rg rfl ?_
   simp only [b2v, hlt, E3, Nat.reduceLeDiff, Nat.reduceSub, Nat.reduceAdd, Nat.reduceEqDiff, reduceCtorEq, ↓reduceIte]
   refine Safe.cd rfl ?_
   simp only [E3, Nat.reduceLeDiff, Nat.reduceSub, Nat.reduceAdd, Nat.reduceEqDiff, reduceCtorEq, ↓reduceIte]
   have hgi : g (off + i) < LB := hg _ (by omega)
   have hxi : xr g off y (off + i) = g (off + i) := by subst hy; exact e4g
   have hvi := a2n hv i
   have hqv : c + q * v.getD i 0 < LB * LB := by
    have h1 : q * v.getD i 0 ≤ (LB - 1) * (LB - 1) := Nat.mul_le_mul (by omega) (by omega)
    have h2 : (LB - 1) * (LB - 1) + (LB - 1) < LB * LB := by decide
    omega
   have hqv2 : LB * LB = 18446744073709551616 := by decide
   refine Safe.rg rfl ?_
   simp only [b8P, E3, Nat.reduceLeDiff, Nat.reduceSub, Nat.reduceAdd, Nat.reduceEqDiff, reduceCtorEq, ↓reduceIte]
   refine Safe.rg rfl ?_
   simp only [b8O, E3, Nat.reduceLeDiff, Nat.reduceSub, Nat.reduceAdd, Nat.reduceEqDiff, reduceCtorEq, ↓reduceIte]
   have rest : ∀ env : Env, look env 0 = .mu id off (n + 1) oc → look env 1 = natV v → look env 5 = .int .i64 n → look env 7 = .int .u64 q → look env 9 = .int .u64 b → look env 40 = .int .i64 ((n + 1 : Nat) : Int) → look env 41 = .int .i64 i → look env 10 = .int .i64 i → look env 11 = .int .u64 (c + q * v.getD i 0 : Nat) →
     Safe (digX H.length) (.code (.seq (.region b0V false) (.seq (.region b0U false) (.seq (.region b0T false) (.region b0S false)))) :: .inBlock 1 :: .code (.region b0R false) :: .inLoop a8Z :: .inBlock 0 :: todo) env (hap (H.set id (some ⟨1, u32s (fl N (xr g off y))⟩)) []) R := by
    intro env e0 e1 e5 e7 e9 e40 e41 e10 e11
    have w5 := a2O (c + q * v.getD i 0)
    have htl : (c + q * v.getD i 0) % LB < LB := Nat.mod_lt _ (by decide)
    have htm := Nat.mod_add_div (c + q * v.getD i 0) LB
    have htd : (c + q * v.getD i 0) / LB < LB := by rw [Nat.div_lt_iff_lt_mul (by decide)]; exact hqv
    have h4w : IntKind.wrap .u64 (IntKind.wrap .u64 (((g (off + i) : Nat) : Int) - (((c + q * v.getD i 0) % LB : Nat) : Int)) - (b : Int)) = (((g (off + i) : Nat) : Int) - (((c + q * v.getD i 0) % LB : Nat) : Int) - (b : Int)) % 18446744073709551616 := by
     rw [a2j, a2j]; omega
    refine Safe.rg rfl ?_
    simp only [b0V, e11, d4Z, E3, Nat.reduceLeDiff, Nat.reduceSub, Nat.reduceAdd, Nat.reduceEqDiff, reduceCtorEq, ↓reduceIte]
    refine Safe.rg rfl ?_
    simp only [b0U, e0, e10, e11, e9, b7j hid 1 _ off (n + 1) i oc .i64 (show i < n + 1 by omega), ofat hid (show off + i < N by omega), hxi, a3W (x := g (off + i)) (by omega), w5, a3W (x := (c + q * v.getD i 0) % LB) (by omega), h4w, E3, Nat.reduceLeDiff, Nat.reduceSub, Nat.reduceAdd, Nat.reduceEqDiff, reduceCtorEq, ↓reduceIte]
    obtain ⟨d, bo, hd, hbo, hdl, hD, hB⟩ : ∃ d bo : Nat, g (off + i) + LB * bo = d + (c + q * v.getD i 0) % LB + b ∧ bo ≤ 1 ∧ d < LB ∧ ((((g (off + i) : Nat) : Int) - (((c + q * v.getD i 0) % LB : Nat) : Int) - (b : Int)) % 18446744073709551616) % 4294967296 = (d : Int) ∧ ((((g (off + i) : Nat) : Int) - (((c + q * v.getD i 0) % LB : Nat) : Int) - (b : Int)) % 18446744073709551616) / 9223372036854775808 = (bo : Int) := by
     generalize (c + q * v.getD i 0) % LB = lo at *
     by_cases hlt : g (off + i) < lo + b
     ·exact ⟨g (off + i) + LB - lo - b, 1, by omega, by omega, by omega, by omega, by omega⟩
     ·exact ⟨g (off + i) - lo - b, 0, by omega, by omega, by omega, by omega, by omega⟩
    refine Safe.rg rfl ?_
    simp only [b0T, e0, e10, b5w, hD, b7j hid 1 _ off (n + 1) i oc .i64 (show i < n + 1 by omega), ofst hid (show off + i < N by omega), E3, Nat.reduceLeDiff, Nat.reduceSub, Nat.reduceAdd, Nat.reduceEqDiff, reduceCtorEq, ↓reduceIte]
    have hs63 : ∀ n : Int, Int.fdiv n (2 ^ min (Int.toNat 63) IntKind.u64.bits) = n / 9223372036854775808 := by
     intro n
     rw [show (2 : Int) ^ min (Int.toNat 63) IntKind.u64.bits = 9223372036854775808 by decide, Int.fdiv_eq_ediv_of_nonneg _ (by decide)]
    refine Safe.rg rfl ?_
    simp only [b0S, a6d _ _ _ (show (0 : Int) ≤ 63 by decide), hs63, hB, E3, Nat.reduceLeDiff, Nat.reduceSub, Nat.reduceAdd, Nat.reduceEqDiff, reduceCtorEq, ↓reduceIte]
    refine Safe.inBlock ?_
    have w4 : IntKind.wrap .i64 ((i : Int) + 1) = ((i + 1 : Nat) : Int) := by rw [a0e] <;> omega
    refine Safe.rg rfl ?_
    simp only [b0R, e41, w4, E3, Nat.reduceLeDiff, Nat.reduceSub, Nat.reduceAdd, Nat.reduceEqDiff, reduceCtorEq, ↓reduceIte]
    refine Safe.keep [0, 1, 5, 7, 8, 9, 40, 41] ?_
    simp only [E3, Nat.reduceLeDiff, Nat.reduceSub, Nat.reduceAdd, Nat.reduceEqDiff, reduceCtorEq, ↓reduceIte]
    simp only [e0, e1, e5, e7, e40]
    rw [← hy, d4t, hy]
    refine ih (i + 1) bo _ _ (by omega) (by simp [hy]) (a3X ly hdl) hbo htd ?_ ?_
    ·rw [a7u, hy, a0v, a0v, Nat.pow_succ, c3e (by omega), Nat.mul_add, Nat.mul_left_comm]
     exact d8p hval hd htm
    ·rw [a0v, Nat.mul_add, Nat.mul_left_comm q, Nat.pow_succ, Nat.mul_assoc]
     have h1 : LB ^ i * (LB * ((c + q * v.getD i 0) / LB)) ≤ LB ^ i * (c + q * v.getD i 0) := Nat.mul_le_mul_left _ (Nat.mul_div_le _ _)
     rw [Nat.mul_add] at h1
     omega
   by_cases hin : i < n
   ·have hl2 : ((i : Int) < (n : Int)) = True := eq_true (by omega)
    refine Safe.rg rfl ?_
    simp only [b2u, hl2, E3, Nat.reduceLeDiff, Nat.reduceSub, Nat.reduceAdd, Nat.reduceEqDiff, reduceCtorEq, ↓reduceIte]
    refine Safe.cd rfl ?_
    simp only [E3, Nat.reduceLeDiff, Nat.reduceSub, Nat.reduceAdd, Nat.reduceEqDiff, reduceCtorEq, ↓reduceIte]
    refine Safe.rg rfl ?_
    simp only [b5U, a0W _ v _ i (by omega), a3W (x := v.getD i 0) (by omega), d2y (x := q) (y := v.getD i 0) (by omega), b6U (x := c) (y := q * v.getD i 0) (by omega), E3, Nat.reduceLeDiff, Nat.reduceSub, Nat.reduceAdd, Nat.reduceEqDiff, reduceCtorEq, ↓reduceIte]
    exact rest _ (by simp only [E3, Nat.reduceLeDiff, Nat.reduceSub, Nat.reduceAdd, Nat.reduceEqDiff, reduceCtorEq, ↓reduceIte]) (by simp only [E3, Nat.reduceLeDiff, Nat.reduceSub, Nat.reduceAdd, Nat.reduceEqDiff, reduceCtorEq, ↓reduceIte]) (by simp only [E3, Nat.reduceLeDiff, Nat.reduceSub, Nat.reduceAdd, Nat.reduceEqDiff, reduceCtorEq, ↓reduceIte]) (by simp only [E3, Nat.reduceLeDiff, Nat.reduceSub, Nat.reduceAdd, Nat.reduceEqDiff, reduceCtorEq, ↓reduceIte]) (by simp only [E3, Nat.reduceLeDiff, Nat.reduceSub, Nat.reduceAdd, Nat.reduceEqDiff, reduceCtorEq, ↓reduceIte]) (by simp only [E3, Nat.reduceLeDiff, Nat.reduceSub, Nat.reduceAdd, Nat.reduceEqDiff, reduceCtorEq, ↓reduceIte]) (by simp only [E3, Nat.reduceLeDiff, Nat.reduceSub, Nat.reduceAdd, Nat.reduceEqDiff, reduceCtorEq, ↓reduceIte]) (by simp only [E3, Nat.reduceLeDiff, Nat.reduceSub, Nat.reduceAdd, Nat.reduceEqDiff, reduceCtorEq, ↓reduceIte]) (by simp only [E3, Nat.reduceLeDiff, Nat.reduceSub, Nat.reduceAdd, Nat.reduceEqDiff, reduceCtorEq, ↓reduceIte])
   ·have hl2 : ((i : Int) < (n : Int)) = False := eq_false (by omega)
    refine Safe.rg rfl ?_
    simp only [b2u, hl2, E3, Nat.reduceLeDiff, Nat.reduceSub, Nat.reduceAdd, Nat.reduceEqDiff, reduceCtorEq, ↓reduceIte]
    refine Safe.cd rfl ?_
    simp only [E3, Nat.reduceLeDiff, Nat.reduceSub, Nat.reduceAdd, Nat.reduceEqDiff, reduceCtorEq, ↓reduceIte]
    have hz : c + q * v.getD i 0 = c := by rw [b6x (a := v) (by omega)]; omega
    exact Safe.skip (rest _ (by simp only [E3, Nat.reduceLeDiff, Nat.reduceSub, Nat.reduceAdd, Nat.reduceEqDiff, reduceCtorEq, ↓reduceIte]) (by simp only [E3, Nat.reduceLeDiff, Nat.reduceSub, Nat.reduceAdd, Nat.reduceEqDiff, reduceCtorEq, ↓reduceIte]) (by simp only [E3, Nat.reduceLeDiff, Nat.reduceSub, Nat.reduceAdd, Nat.reduceEqDiff, reduceCtorEq, ↓reduceIte]) (by simp only [E3, Nat.reduceLeDiff, Nat.reduceSub, Nat.reduceAdd, Nat.reduceEqDiff, reduceCtorEq, ↓reduceIte]) (by simp only [E3, Nat.reduceLeDiff, Nat.reduceSub, Nat.reduceAdd, Nat.reduceEqDiff, reduceCtorEq, ↓reduceIte]) (by simp only [E3, Nat.reduceLeDiff, Nat.reduceSub, Nat.reduceAdd, Nat.reduceEqDiff, reduceCtorEq, ↓reduceIte]) (by simp only [E3, Nat.reduceLeDiff, Nat.reduceSub, Nat.reduceAdd, Nat.reduceEqDiff, reduceCtorEq, ↓reduceIte]) (by simp only [E3, Nat.reduceLeDiff, Nat.reduceSub, Nat.reduceAdd, Nat.reduceEqDiff, reduceCtorEq, ↓reduceIte]) (by rw [hz]; simp only [E3, Nat.reduceLeDiff, Nat.reduceSub, Nat.reduceAdd, Nat.reduceEqDiff, reduceCtorEq, ↓reduceIte]))
 have := key (n + 1) 0 0 0 [] (by omega) rfl c2O (by omega) (by decide) (by simp [val]) (by simp)
 rw [e0O] at this
 exact this
theorem d0F {H : Heap} {id off N n : Nat} {oc : Option Nat} {v : List Nat} {f : Nat → Nat} (hl : H[id]? = some (some ⟨1, u32s (fl N f)⟩)) (hv : Lim v) (hn : v.length = n) (hn0 : 0 < n) (ht : 0 < v.getD (n - 1) 0) (hoff : off + n + 1 ≤ N) (hN : N ≤ 17592186044416) (hf : ∀ i, i < N → f i < LB)
  {S : Nat} (hS : val (fl (n + 1) fun i => f (off + i)) = S) (hlt : S < LB * val v) : a0h Pr b1u [.mu id off (n + 1) oc, natV v] H fun r' H' => r' = .int .u32 (S / val v : Nat) ∧ H' = H.set id (some ⟨1, u32s (fl N (xr f off (fl (n + 1) (dig (S % val v)))))⟩) := by
 have hLB : LB = 4294967296 := rfl
 have hid := a0l hl
 have hv0 : 0 < val v := by
  have := a9U v (n - 1)
  have h2 : val (v.drop (n - 1)) ≠ 0 := by
   rw [a4c]; rw [show n - 1 + 1 = n by omega]; omega
  have h3 : 0 < LB ^ (n - 1) * val (v.drop (n - 1)) := Nat.mul_pos (a7y _) (by omega)
  omega
 have hUl : (fl (n + 1) fun i => f (off + i)).length = n + 1 := a1E _ _
 have hU : Lim (fl (n + 1) fun i => f (off + i)) := e1e fun i hi => hf _ (by omega)
 have hguess := d9H hU hv hUl hn hn0 hv0 (by rw [hS]; exact hlt) ht
 rw [hS, c3e (by omega), c3e (by omega)] at hguess
 have hSl : S < LB ^ (n + 1) := by have := a1V hU; rw [hS, hUl] at this; exact this
 have hvl := a1V hv
 rw [hn] at hvl
 have hvle : val v ≤ LB ^ (n + 1) := by
  have : LB ^ n ≤ LB ^ (n + 1) := Nat.pow_le_pow_right (by decide) (by omega)
  omega
 have hvt : v.getD (n - 1) 0 < LB := a2n hv _
 have hfn : f (off + n) < LB := hf _ (by omega)
 have hfn1 : f (off + (n - 1)) < LB := hf _ (by omega)
 refine a0h.eff c7W c7V (Nat.le_of_ble_eq_true rfl) fun hH => ?_
 have h0 : hap H [] = hap (H.set id (some ⟨1, u32s (fl N f)⟩)) [] := by rw [d1s hl]
 rw [h0]
 refine Safe.rg rfl ?_
 simp only [b8V, E3, Nat.reduceLeDiff, Nat.reduceSub, Nat.reduceAdd, Nat.reduceEqDiff, reduceCtorEq, ↓reduceIte]
 refine Safe.rg rfl ?_
 simp only [b8U, a9d, E3, Nat.reduceLeDiff, Nat.reduceSub, Nat.reduceAdd, Nat.reduceEqDiff, reduceCtorEq, ↓reduceIte]
 have w1 : IntKind.wrap .i64 ((n : Int) - 1) = ((n - 1 : Nat) : Int) := by rw [a0e] <;> omega
 refine Safe.rg rfl ?_
 simp only [b8T, hn, w1, b7j hid 1 _ off (n + 1) n oc .i64 (Nat.lt_succ_self n), b7j hid 1 _ off (n + 1) (n - 1) oc .i64 (show n - 1 < n + 1 by omega), ofat hid (show off + n < N by omega), ofat hid (show off + (n - 1) < N by omega), a3W (x := f (off + n)) (by omega), a3W (x := f (off + (n - 1))) (by omega), e1N hfn, c0T hfn hfn1, E3, Nat.reduceLeDiff, Nat.reduceSub, Nat.reduceAdd, Nat.reduceEqDiff, reduceCtorEq, ↓reduceIte]
 have htop : f (off + n) * LB + f (off + (n - 1)) < 18446744073709551616 := by
  have : f (off + n) * LB ≤ 4294967295 * LB := Nat.mul_le_mul_right _ (by omega)
  omega
 have hmin : (if (4294967295 : Int) < (((f (off + n) * LB + f (off + (n - 1))) / v.getD (n - 1) 0 : Nat) : Int) then (4294967295 : Int) else (((f (off + n) * LB + f (off + (n - 1))) / v.getD (n - 1) 0 : Nat) : Int)) = ((min ((f (off + n) * LB + f (off + (n - 1))) / v.getD (n - 1) 0) (LB - 1) : Nat) : Int) := by
  generalize (f (off + n) * LB + f (off + (n - 1))) / v.getD (n - 1) 0 = z
  split
  ·rw [Nat.min_eq_right (by omega)]; rfl
  ·rw [Nat.min_eq_left (by omega)]
 refine Safe.rg rfl ?_
 simp only [b8S, hn, w1, a0W _ v _ (n - 1) (by omega), a3W (x := v.getD (n - 1) 0) (by omega), d5v ht htop, d1C, hmin, E3, Nat.reduceLeDiff, Nat.reduceSub, Nat.reduceAdd, Nat.reduceEqDiff, reduceCtorEq, ↓reduceIte]
 have hq0l : min ((f (off + n) * LB + f (off + (n - 1))) / v.getD (n - 1) 0) (LB - 1) < LB := Nat.lt_of_le_of_lt (Nat.min_le_right _ _) (by decide)
 generalize hq0 : min ((f (off + n) * LB + f (off + (n - 1))) / v.getD (n - 1) 0) (LB - 1) = q0 at *
 refine Safe.rg rfl ?_
 simp only [b8R, E3, Nat.reduceLeDiff, Nat.reduceSub, Nat.reduceAdd, Nat.reduceEqDiff, reduceCtorEq, ↓reduceIte]
 have w2 : IntKind.wrap .i64 ((n : Int) + 1) = ((n + 1 : Nat) : Int) := by rw [a0e] <;> omega
 refine Safe.rg rfl ?_
 simp only [b8Q, w2, hn, E3, Nat.reduceLeDiff, Nat.reduceSub, Nat.reduceAdd, Nat.reduceEqDiff, reduceCtorEq, ↓reduceIte]
 refine Safe.lp rfl ?_
 refine Safe.keep [0, 1, 5, 7, 8, 9, 40, 41] ?_
 simp only [hn, E3, Nat.reduceLeDiff, Nat.reduceSub, Nat.reduceAdd, Nat.reduceEqDiff, reduceCtorEq, ↓reduceIte]
 refine d7f hid hv hn hoff hN hf hq0l fun y b hy ly hb hval => ?_
 rw [hS] at hval
 refine Safe.lp rfl ?_
 -- the rows put back
 have key : ∀ (q b : Nat) (y : List Nat), y.length = n + 1 → Lim y → b ≤ 1 → val y + q * val v = S + LB ^ (n + 1) * b → S / val v ≤ q → q < LB →
   Safe (digX H.length) [.inLoop b8W, .inBlock 2, .code (.seq (.region a7A false) .ret)] [(0, .mu id off (n + 1) oc), (1, natV v), (5, .int .i64 n), (7, .int .u64 q), (9, .int .u64 b)] (hap (H.set id (some ⟨1, u32s (fl N (xr f off y))⟩)) [])
    fun r' H' => ∃ H1 L, H' = hap H1 L ∧ H1.length = H.length ∧ a0y H1 ∧ Ref (· < H.length) r' ∧ r' = .int .u32 (S / val v : Nat) ∧ H1 = H.set id (some ⟨1, u32s (fl N (xr f off (fl (n + 1) (dig (S % val v)))))⟩) := by
  intro q
  induction q with
  | zero =>
   intro b y hy ly hb hval hq hql
   have hyl := a1V ly
   rw [hy] at hyl
   have hb0 : b = 0 := by
    rcases Nat.eq_zero_or_pos b with h | h
    ·exact h
    ·have : b = 1 := by omega
     subst this; omega
   subst hb0
   refine Safe.inLoop ?_
   refine Safe.rg rfl ?_
   simp only [a7B, show ((0 : Int) < ((0 : Nat) : Int)) = False by simp, E3, Nat.reduceLeDiff, Nat.reduceSub, Nat.reduceAdd, Nat.reduceEqDiff, reduceCtorEq, ↓reduceIte]
   refine Safe.cd rfl ?_
   simp only [E3, Nat.reduceLeDiff, Nat.reduceSub, Nat.reduceAdd, Nat.reduceEqDiff, reduceCtorEq, ↓reduceIte]
   refine Safe.exit rfl ?_
   refine Safe.rg rfl ?_
   simp only [a7A, c3W (x := 0) (by decide), E3, Nat.reduceLeDiff, Nat.reduceSub, Nat.reduceAdd, Nat.reduceEqDiff, reduceCtorEq, ↓reduceIte]
   refine Safe.rt rfl ?_
   simp only [E3, Nat.reduceLeDiff, Nat.reduceSub, Nat.reduceAdd, Nat.reduceEqDiff, reduceCtorEq, ↓reduceIte]
   have e1 : S / val v = 0 := Nat.le_zero.1 hq
   have e2 : S % val v = val y := by
    have := Nat.mod_add_div S (val v)
    rw [e1] at this
    omega
   refine ⟨_, [], rfl, by simp, a0y.set hH id fun a ha => (a2r _ a ha).ref, .int _ _, by rw [e1], ?_⟩
   rw [e2, ← b7H ly hy]
  | succ q ih =>
   intro b y hy ly hb hval hq hql
   have hyl := a1V ly
   rw [hy] at hyl
   refine Safe.inLoop ?_
   by_cases hb0 : b = 0
   ·subst hb0
    refine Safe.rg rfl ?_
    simp only [a7B, show ((0 : Int) < ((0 : Nat) : Int)) = False by simp, E3, Nat.reduceLeDiff, Nat.reduceSub, Nat.reduceAdd, Nat.reduceEqDiff, reduceCtorEq, ↓reduceIte]
    refine Safe.cd rfl ?_
    simp only [E3, Nat.reduceLeDiff, Nat.reduceSub, Nat.reduceAdd, Nat.reduceEqDiff, reduceCtorEq, ↓reduceIte]
    refine Safe.exit rfl ?_
    refine Safe.rg rfl ?_
    simp only [a7A, c3W (x := q + 1) (by omega), E3, Nat.reduceLeDiff, Nat.reduceSub, Nat.reduceAdd, Nat.reduceEqDiff, reduceCtorEq, ↓reduceIte]
    refine Safe.rt rfl ?_
    simp only [E3, Nat.reduceLeDiff, Nat.reduceSub, Nat.reduceAdd, Nat.reduceEqDiff, reduceCtorEq, ↓reduceIte]
    have e1 : S / val v = q + 1 := by
     have : (q + 1) ≤ S / val v := by rw [Nat.le_div_iff_mul_le hv0]; omega
     omega
    have e2 : S % val v = val y := by
     have := Nat.mod_add_div S (val v)
     rw [e1, Nat.mul_comm (val v)] at this
     omega
    refine ⟨_, [], rfl, by simp, a0y.set hH id fun a ha => (a2r _ a ha).ref, .int _ _, by rw [e1], ?_⟩
    rw [e2, ← b7H ly hy]
   ·have hb1 : b = 1 := by omega
    subst hb1
    have hlq : S / val v ≤ q := by
     have h1 : S < (q + 1) * val v := by omega
     have := (Nat.div_lt_iff_lt_mul hv0).2 h1
     omega
    have w3 : IntKind.wrap .u64 (((q + 1 : Nat) : Int) - 1) = (q : Int) := by rw [a1w] <;> omega
    refine Safe.rg rfl ?_
    simp only [a7B, show ((0 : Int) < ((1 : Nat) : Int)) = True by simp, E3, Nat.reduceLeDiff, Nat.reduceSub, Nat.reduceAdd, Nat.reduceEqDiff, reduceCtorEq, ↓reduceIte]
    refine Safe.cd rfl ?_
    simp only [E3, Nat.reduceLeDiff, Nat.reduceSub, Nat.reduceAdd, Nat.reduceEqDiff, reduceCtorEq, ↓reduceIte]
    refine Safe.rg rfl ?_
    simp only [b5T, w3, E3, Nat.reduceLeDiff, Nat.reduceSub, Nat.reduceAdd, Nat.reduceEqDiff, reduceCtorEq, ↓reduceIte]
    refine Safe.rg rfl ?_
    simp only [b5S, E3, Nat.reduceLeDiff, Nat.reduceSub, Nat.reduceAdd, Nat.reduceEqDiff, reduceCtorEq, ↓reduceIte]
    refine Safe.rg rfl ?_
    simp only [b5R, w2, E3, Nat.reduceLeDiff, Nat.reduceSub, Nat.reduceAdd, Nat.reduceEqDiff, reduceCtorEq, ↓reduceIte]
    refine Safe.lp rfl ?_
    refine Safe.keep [0, 1, 5, 7, 9, 13, 83, 84] ?_
    simp only [E3, Nat.reduceLeDiff, Nat.reduceSub, Nat.reduceAdd, Nat.reduceEqDiff, reduceCtorEq, ↓reduceIte]
    refine d7g (b := 1) hid hv hn hoff hN (e5I hf ly) fun z c hz lz hc hzv => ?_
    have hseg := e4f (g := f) (off := off) (x := y)
    rw [hy] at hseg
    rw [hseg] at hzv
    rw [e5H (by rw [hy, hz])]
    have w4 : IntKind.wrap .u64 (((1 : Nat) : Int) - (c : Int)) = ((1 - c : Nat) : Int) := by rw [a1w] <;> omega
    refine Safe.rg rfl ?_
    simp only [b5N, w4, E3, Nat.reduceLeDiff, Nat.reduceSub, Nat.reduceAdd, Nat.reduceEqDiff, reduceCtorEq, ↓reduceIte]
    refine Safe.inBlock ?_
    refine Safe.keep [0, 1, 5, 7, 9] ?_
    simp only [E3, Nat.reduceLeDiff, Nat.reduceSub, Nat.reduceAdd, Nat.reduceEqDiff, reduceCtorEq, ↓reduceIte]
    have hexp : (q + 1) * val v = q * val v + val v := by rw [Nat.add_mul, Nat.one_mul]
    refine ih (1 - c) z hz lz (by omega) ?_ hlq (by omega)
    rcases Nat.eq_zero_or_pos c with h | h
    ·subst h; omega
    ·have : c = 1 := by omega
     subst this; omega
 exact key q0 b y hy ly hb hval hguess hq0l
end Go.Abs

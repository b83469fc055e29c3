/- Part 4 of the proof of WholeDual: L12, L13, L16, Num. -/
import Derived.Test.YtidemmcbjiccfaaWholeDualK3
import Derived.Test.YtidemmcbjiccfaaProg
namespace Go.Abs
section
variable {n : Nat} {B : Nat → Nat → Rat}
theorem d8K : ∀ t a, a < n → ∃ a', a' < n ∧ ∀ k, (gproc n B t).B a' k = B a k
 | 0, a, h => ⟨a, h, fun _ => rfl⟩
 | t + 1, a, h => by
  obtain ⟨a1, h1, h2⟩ := d8K t a h
  rcases a1H (fun p => (gproc n B t).g p t) (gproc n B t).cs.length n with ⟨p, hf, g1, g2, g3, _⟩ | ⟨hf, h4⟩
  ·have e : gproc n B (t + 1) = _ := a1o hf
   rw [e]
   refine ⟨if a1 = p then (gproc n B t).cs.length else if a1 = (gproc n B t).cs.length then p else a1, ?_, fun k => ?_⟩
   ·split
    ·omega
    ·split <;> omega
   ·rw [← h2 k]
    show a0S p (gproc n B t).cs.length (gproc n B t).B _ k = _
    unfold a0S
    by_cases e1 : a1 = p
    ·rw [if_pos e1]
     by_cases e2 : (gproc n B t).cs.length = p
     ·rw [if_pos e2, e1, e2]
     ·rw [if_neg e2, if_pos rfl, e1]
    ·rw [if_neg e1]
     by_cases e2 : a1 = (gproc n B t).cs.length
     ·rw [if_pos e2, if_pos rfl, e2]
     ·rw [if_neg e2, if_neg e1, if_neg e2]
  ·have e : gproc n B (t + 1) = _ := a3u hf
   rw [e]; exact ⟨a1, h1, h2⟩
variable (hB : ∀ i k, ∃ z : Int, B i k = z)
include hB
theorem e2x {t a k : Nat} (ha : a < n) (hk : k < t) : B a k = sumR (fun i => B a ((gproc n B t).cs.getD i 0) * (a7Y n B t).M i k) (gproc n B t).cs.length := by
 obtain ⟨a', h1, h2⟩ := d8K (n := n) (B := B) t a ha
 have hok := d8U (n := n) hB t
 have hu := hok.up a' k
 rw [a9l] at hu
 have hz : (if (gproc n B t).cs.length ≤ a' then (a7Y n B t).M a' k else 0) = 0 := by
  split
  ·rename_i h
   rw [hok.low a' k (by rw [a9l]; exact h), a9l]
   exact d5u hB t a' k h h1 hk
  ·rfl
 rw [hz] at hu
 rw [← h2 k, hu]
 have : sumR (fun i => (gproc n B t).B a' ((gproc n B t).cs.getD i 0) * (a7Y n B t).M i k) (gproc n B t).cs.length = sumR (fun i => B a ((gproc n B t).cs.getD i 0) * (a7Y n B t).M i k) (gproc n B t).cs.length := a1n fun i _ => by rw [h2]
 rw [this]; grind
end
end Go.Abs
namespace Go.Abs
theorem d3e (f : Nat → Rat) : ∀ n k, k < n + 1 → sumR f (n + 1) = f k + sumR (fun j => f (skip k j)) n
 | 0, k, h => by
  have : k = 0 := by omega
  subst this
  simp only [sumR]; grind
 | n + 1, k, h => by
  by_cases e : k = n + 1
  ·subst e
   have : sumR (fun j => f (skip (n + 1) j)) (n + 1) = sumR f (n + 1) := a1n fun j hj => by rw [skip, if_pos (by omega)]
   rw [this, sumR]; grind
  ·have h2 : skip k n = n + 1 := by rw [skip, if_neg (by omega)]
   show sumR f (n + 1) + f (n + 1) = _
   rw [d3e f n k (by omega)]
   show _ = f k + (sumR (fun j => f (skip k j)) n + f (skip k n))
   rw [h2]; grind
theorem c4J (n : Nat) : sg (n + 1) = -sg n := rfl
theorem e2k (k j r : Nat) : skip k (skip j r) = skip (skip k j) (skip (b0C (skip k j) k) r) := by
 unfold skip b0C
 repeat' split
 all_goals omega
theorem c7w : ∀ {n t k : Nat} (A : Nat → Nat → Rat), t < n + 1 → k < n + 1 → det (n + 1) (a0N A t fun r => if r = k then 1 else 0) = sg (t + k) * det n fun r c => A (skip k r) (skip t c)
 | n, 0, k, A, _, hk => by
  unfold det
  rw [b5Y (t := k) hk fun i _ hi => by
   have : a0N A 0 (fun r => if r = k then (1 : Rat) else 0) i 0 = 0 := by
    unfold a0N
    rw [if_pos rfl]
    exact if_neg hi
   rw [this]; grind]
  have e1 : a0N A 0 (fun r => if r = k then (1 : Rat) else 0) k 0 = 1 := by
   unfold a0N
   rw [if_pos rfl]
   exact if_pos rfl
  have e2 : (fun r c => a0N A 0 (fun r => if r = k then (1 : Rat) else 0) (skip k r) (c + 1)) = fun r c => A (skip k r) (skip 0 c) := by
   funext r c
   unfold a0N
   rw [if_neg (by omega)]; rfl
  rw [e1, e2, Nat.zero_add]
  cases n with
  | zero => simp only [det]; grind
  | succ n => rw [show det (n + 1) (fun r c => A (skip k r) (skip 0 c)) = sumR (fun i => sg i * A (skip k i) (skip 0 0) * det n fun r c => A (skip k (skip i r)) (skip 0 (c + 1))) (n + 1) from rfl]; grind
 | 0, t + 1, k, A, ht, _ => absurd ht (by omega)
 | n + 1, t + 1, k, A, ht, hk => by
  rw [show det (n + 1 + 1) (a0N A (t + 1) fun r => if r = k then 1 else 0) = sumR (fun i => sg i * a0N A (t + 1) (fun r => if r = k then 1 else 0) i 0 * det (n + 1) fun r c => a0N A (t + 1) (fun r => if r = k then 1 else 0) (skip i r) (c + 1)) (n + 1 + 1) from rfl]
  rw [d3e _ (n + 1) k hk]
  have hz : det (n + 1) (fun r c => a0N A (t + 1) (fun r => if r = k then (1 : Rat) else 0) (skip k r) (c + 1)) = 0 := by
   rw [a4F]
   exact a6i (t := t) (by omega) fun r => by
    unfold a0N
    rw [if_pos rfl]
    exact if_neg (d6y k r)
  have hterm : ∀ j, j < n + 1 → sg (skip k j) * a0N A (t + 1) (fun r => if r = k then (1 : Rat) else 0) (skip k j) 0 * det (n + 1) (fun r c => a0N A (t + 1) (fun r => if r = k then 1 else 0) (skip (skip k j) r) (c + 1)) =
    sg (t + 1 + k) * (sg j * A (skip k j) (skip (t + 1) 0) * det n fun r c => A (skip k (skip j r)) (skip (t + 1) (c + 1))) := fun j hj => by
   have hne : skip k j ≠ k := d6y k j
   have hlt : skip k j < n + 1 + 1 := d6z hj
   have hu : (fun r => if skip (skip k j) r = k then (1 : Rat) else 0) = fun r => if r = b0C (skip k j) k then (1 : Rat) else 0 := by
    funext r
    have := c8R (r := r) hne
    simp only [this]
   rw [a4F, hu, c7w (n := n) (t := t) (k := b0C (skip k j) k) _ (by omega) (by unfold b0C; split <;> omega)]
   have e1 : a0N A (t + 1) (fun r => if r = k then (1 : Rat) else 0) (skip k j) 0 = A (skip k j) (skip (t + 1) 0) := by
    unfold a0N
    rw [if_neg (by omega), skip, skip, if_pos (show 0 < t + 1 by omega)]
   have e2 : (fun r c => A (skip (skip k j) (skip (b0C (skip k j) k) r)) (skip t c + 1)) = fun r c => A (skip k (skip j r)) (skip (t + 1) (c + 1)) := by
    funext r c
    rw [← e2k]
    congr 1
    unfold skip
    repeat' split
    all_goals omega
   have es : sg (skip k j) * sg (t + b0C (skip k j) k) = sg (t + 1 + k) * sg j := by
    by_cases h : j < k
    ·have h1 : skip k j = j := by rw [skip, if_pos h]
     have h2 : b0C j k = k - 1 := by rw [b0C, if_neg (by omega)]
     rw [h1, h2, show t + 1 + k = t + (k - 1) + 1 + 1 by omega, c4J, c4J]; grind
    ·have h1 : skip k j = j + 1 := by rw [skip, if_neg h]
     have h2 : b0C (j + 1) k = k := by rw [b0C, if_pos (by omega)]
     rw [h1, h2, show t + 1 + k = t + k + 1 by omega, c4J, c4J]; grind
   rw [e1]
   show sg (skip k j) * A (skip k j) (skip (t + 1) 0) * (sg (t + b0C (skip k j) k) * det n fun r c => A (skip (skip k j) (skip (b0C (skip k j) k) r)) (skip t c + 1)) = _
   rw [e2]
   generalize (det n fun r c => A (skip k (skip j r)) (skip (t + 1) (c + 1))) = d
   generalize A (skip k j) (skip (t + 1) 0) = a
   generalize sg (skip k j) = s1 at *
   generalize sg (t + b0C (skip k j) k) = s2 at *
   generalize sg (t + 1 + k) = s3 at *
   generalize sg j = s4 at *
   have : s1 * a * (s2 * d) = (s1 * s2) * (a * d) := by grind
   rw [this, es]; grind
  rw [hz, a1n hterm]
  rw [show det (n + 1) (fun r c => A (skip k r) (skip (t + 1) c)) = sumR (fun i => sg i * A (skip k i) (skip (t + 1) 0) * det n fun r c => A (skip k (skip i r)) (skip (t + 1) (c + 1))) (n + 1) from rfl]
  have := a6y (sg (t + 1 + k)) 0 (fun i => sg i * A (skip k i) (skip (t + 1) 0) * det n fun r c => A (skip k (skip i r)) (skip (t + 1) (c + 1))) (fun _ => 0) (n + 1)
  have e0 : (fun i => sg (t + 1 + k) * (sg i * A (skip k i) (skip (t + 1) 0) * det n fun r c => A (skip k (skip i r)) (skip (t + 1) (c + 1))) + (0 : Rat) * (fun _ => (0 : Rat)) i) = fun i => sg (t + 1 + k) * (sg i * A (skip k i) (skip (t + 1) 0) * det n fun r c => A (skip k (skip i r)) (skip (t + 1) (c + 1))) := by funext i; grind
  rw [e0] at this
  rw [this]; grind
def b8L (n : Nat) (B : Nat → Nat → Rat) : Nat → Nat → Rat := fun i k => if k < n then B i k else if k < 2 * n then (if i = k - n then 1 else 0) else 0
section
variable {n : Nat} {B : Nat → Nat → Rat} (hB : ∀ i k, ∃ z : Int, B i k = z)
include hB
theorem d2A : ∀ i k, ∃ z : Int, b8L n B i k = z := fun i k => by
 unfold b8L
 split
 ·exact hB i k
 ·split
  ·split
   ·exact ⟨1, rfl⟩
   ·exact ⟨0, rfl⟩
  ·exact ⟨0, rfl⟩
theorem e6A : (gproc n B n).cs.length = n ↔ det n B ≠ 0 := by
 rw [← e7Y hB]
 unfold dv
 constructor
 ·intro h
  rw [if_pos h]
  have h0 : (gproc n B n).last ≠ 0 := d1Z (b8f (n := n) hB n).piv
  split
  ·intro h1; exact h0 (by grind)
  ·exact h0
 ·intro h
  refine Classical.byContradiction fun hne => h ?_
  rw [if_neg hne]
omit hB in
theorem e7c : det n (b8L n B) = det n B := a1z fun r c _ hc => by unfold b8L; rw [if_pos hc]
omit hB in
theorem e4k {C : Nat → Nat → Rat} (hC : ∀ i k, ∃ z : Int, C i k = z) {t : Nat} (h : (gproc n C t).cs.length = n) : ∀ s, (gproc n C (t + s)).cs = (gproc n C t).cs
 | 0 => rfl
 | s + 1 => by
  have ih := e4k hC h s
  have hl := (b8f (n := n) hC (t + s + 1)).len
  rcases a1H (fun p => (gproc n C (t + s)).g p (t + s)) (gproc n C (t + s)).cs.length n with ⟨p, hf, h1, h2, h3, _⟩ | ⟨hf, h4⟩
  ·rw [ih, h] at h1; omega
  ·have e : gproc n C (t + s + 1) = gproc n C (t + s) := a3u hf
   show (gproc n C (t + s + 1)).cs = _
   rw [e, ih]
variable (hd : det n B ≠ 0)
include hd
theorem f0o : (gproc n (b8L n B) (2 * n)).cs.length = n ∧ ∀ i, i < n → (gproc n (b8L n B) (2 * n)).cs.getD i 0 = i := by
 have h1 : (gproc n (b8L n B) n).cs.length = n := (e6A (d2A hB)).2 (by rw [e7c]; exact hd)
 have h2 := e4k (d2A (n := n) hB) h1 n
 rw [show n + n = 2 * n by omega] at h2
 rw [h2]
 exact ⟨h1, b9S n h1⟩
theorem d7H {i c : Nat} (hi : i < n) (hc : c < n) : (a7Y n (b8L n B) (2 * n)).M i (n + c) * det n B = det n (a0N B i fun r => if r = c then 1 else 0) := by
 obtain ⟨h1, h2⟩ := f0o hB hd
 have hcr := e4l (A := B) (fun j => (a7Y n (b8L n B) (2 * n)).M j (n + c)) hi n (Nat.le_refl n)
 rw [if_pos hi] at hcr
 rw [← hcr]
 refine a1z fun r k hr hk => ?_
 unfold a0N
 by_cases e : k = i
 ·rw [if_pos e, if_pos e]
  have := e2x (n := n) (d2A (n := n) hB) (t := 2 * n) (a := r) (k := n + c) hr (by omega)
  rw [h1] at this
  have e1 : b8L n B r (n + c) = if r = c then 1 else 0 := by
   unfold b8L
   rw [if_neg (by omega), if_pos (by omega), show n + c - n = c by omega]
  rw [e1] at this
  show _ = if r = c then (1 : Rat) else 0
  rw [this]
  refine a1n fun j hj => ?_
  rw [h2 j hj]
  have : b8L n B r j = B r j := by unfold b8L; rw [if_pos hj]
  rw [this]
 ·rw [if_neg e, if_neg e]
end
end Go.Abs
namespace Go.Abs
def Sg (G : Nat → Nat → Rat) (k i j : Nat) : Rat := a2R G (List.range k) i j
def Dg (G : Nat → Nat → Rat) (k : Nat) : Rat := a7q G (List.range k)
def Pv (G : Nat → Nat → Rat) (k : Nat) : Prop := Piv G (List.range k)
theorem c7O (G : Nat → Nat → Rat) (i j : Nat) : Sg G 0 i j = G i j := c6N G i j
theorem d8q (G : Nat → Nat → Rat) : Dg G 0 = 1 := rfl
theorem f0D (G : Nat → Nat → Rat) : Pv G 0 := trivial
section
variable {G : Nat → Nat → Rat} {k : Nat}
theorem d2J {i : Nat} (j : Nat) (hi : k < i) : Sg G (k + 1) i j = Sg G k i j - Sg G k i k / Sg G k k k * Sg G k k j := by
 have := d0x G (List.range k) k (i := i) (k := j) (by simpa using hi)
 simp only [List.length_range] at this
 unfold Sg
 rw [List.range_succ, this]
theorem a9W (h : Pv G k) : Dg G (k + 1) = Dg G k * Sg G k k k := by
 have := d0t h k
 simp only [List.length_range] at this
 unfold Dg Sg
 rw [List.range_succ, this]
theorem f0E (h : Pv G k) (h1 : Sg G k k k ≠ 0) : Pv G (k + 1) := by
 unfold Pv
 rw [List.range_succ]
 exact d1K h (by rw [List.length_range]; exact h1)
theorem d6a (hs : ∀ i j, G i j = G j i) : ∀ k i j, k ≤ i → k ≤ j → Sg G k i j = Sg G k j i
 | 0, i, j, _, _ => by rw [c7O, c7O, hs]
 | k + 1, i, j, hi, hj => by
  rw [d2J j hi, d2J i hj, d6a hs k i j (by omega) (by omega), d6a hs k k j (by omega) (by omega), d6a hs k k i (by omega) (by omega)]
  rw [Rat.div_def, Rat.div_def]
  grind
def ug (G : Nat → Nat → Rat) (k i j : Nat) : Rat := Dg G k * Sg G k i j
theorem e8t (i j : Nat) : ug G 0 i j = G i j := by unfold ug; rw [d8q, c7O, Rat.one_mul]
theorem e8v (h : Pv G k) : ug G k k k = Dg G (k + 1) := (a9W h).symm
theorem f0R (hs : ∀ i j, G i j = G j i) {i j : Nat} (hi : k ≤ i) (hj : k ≤ j) : ug G k i j = ug G k j i := by unfold ug; rw [d6a hs k i j hi hj]
theorem f0S (h : Pv G k) (hB : ∀ i k, ∃ z : Int, G i k = z) {i : Nat} (j : Nat) (hi : k ≤ i) : ∃ z : Int, ug G k i j = z := d5t h hB j (by simpa using hi)
theorem e5h {e : Nat} (h : Pv G k) (hB : Bd e G) (hk : k + 1 ≤ LB) {i : Nat} (j : Nat) (hi : k ≤ i) : ∃ z : Int, ug G k i j = z ∧ z.natAbs ≤ LB ^ ((k + 1) * (e + 1)) := by
 have := c6O h hB (by simpa using hk) j (i := i) (by simpa using hi)
 rw [List.length_range] at this
 exact this
theorem e7G {e : Nat} (hB : Bd e G) (hk : k ≤ LB) : ∃ z : Int, Dg G k = z ∧ z.natAbs ≤ LB ^ (k * (e + 1)) := by
 have := c6E hB (List.range k) (by simpa using hk)
 rw [List.length_range] at this
 exact this
theorem e8u (h : Pv G k) (h1 : Sg G k k k ≠ 0) {i : Nat} (j : Nat) (hi : k < i) : Dg G k * ug G (k + 1) i j = Dg G (k + 1) * ug G k i j - ug G k i k * ug G k k j := by
 unfold ug
 rw [a9W h, d2J j hi]
 generalize Sg G k k k = p at *
 rw [Rat.div_def]
 have : p⁻¹ * p = 1 := Rat.inv_mul_cancel p h1
 grind
def gd (G : Nat → Nat → Rat) : Nat → Nat
 | 0 => 0
 | n + 1 => if gd G n = n ∧ 0 < Dg G (n + 1) then n + 1 else gd G n
theorem b9U (G : Nat → Nat → Rat) (n : Nat) : gd G (n + 1) = if gd G n = n ∧ 0 < Dg G (n + 1) then n + 1 else gd G n := rfl
theorem e9y (G : Nat → Nat → Rat) : ∀ n, gd G n ≤ n
 | 0 => Nat.le_refl _
 | n + 1 => by
  rw [b9U]
  split
  ·exact Nat.le_refl _
  ·have := e9y G n; omega
theorem a2Q : ∀ {n : Nat}, gd G n = n → ∀ i, i ≤ n → Pv G i ∧ 0 < Dg G i
 | 0, _, i, hi => by
  have : i = 0 := by omega
  subst this
  exact ⟨f0D G, by rw [d8q]; decide⟩
 | n + 1, h, i, hi => by
  have hg := e9y G n
  rw [b9U] at h
  split at h
  ·rename_i hc
   obtain ⟨h1, h2⟩ := hc
   by_cases hin : i ≤ n
   ·exact a2Q h1 i hin
   ·have : i = n + 1 := by omega
    subst this
    obtain ⟨p1, p2⟩ := a2Q h1 n (Nat.le_refl _)
    refine ⟨f0E p1 fun e => ?_, h2⟩
    rw [a9W p1, e, Rat.mul_zero] at h2
    exact absurd h2 (by decide)
  ·omega
theorem e3M {n : Nat} (h : gd G (n + 1) ≠ n + 1) (m : Nat) : gd G (n + 1 + m) = gd G n := by
 induction m with
 | zero =>
  show gd G (n + 1) = gd G n
  rw [b9U] at h ⊢
  split at h
  ·exact absurd rfl h
  ·rename_i hc; rw [if_neg hc]
 | succ m ih =>
  show gd G (n + 1 + m + 1) = gd G n
  have := e9y G n
  rw [b9U, if_neg (fun hc => by have := hc.1; omega), ih]
theorem e5p {n : Nat} (h : gd G n = n) : (0 < Dg G (n + 1)) ↔ 0 < Sg G n n n := by
 obtain ⟨p1, p2⟩ := a2Q h n (Nat.le_refl _)
 rw [a9W p1]
 constructor
 ·intro h1
  by_cases h2 : 0 < Sg G n n n
  ·exact h2
  ·exfalso
   have h3 : Sg G n n n ≤ 0 := Rat.not_lt.1 h2
   have := Rat.mul_le_mul_of_nonneg_left h3 (Rat.le_of_lt p2)
   rw [Rat.mul_zero] at this
   exact absurd h1 (Rat.not_lt.2 this)
 ·intro h1
  exact Rat.mul_pos p2 h1
def mug (G : Nat → Nat → Rat) (i j : Nat) : Rat := Sg G j i j / Sg G j j j
theorem e5X (hs : ∀ i j, G i j = G j i) (h1 : Sg G k k k ≠ 0) {i j : Nat} (hi : k < i) (hj : k < j) : Sg G (k + 1) i j = Sg G k i j - mug G j k * mug G i k * Sg G k k k := by
 rw [d2J j hi, d6a hs k k j (Nat.le_refl _) (by omega)]
 unfold mug
 rw [Rat.div_def, Rat.div_def]
 generalize Sg G k k k = p at *
 have : p⁻¹ * p = 1 := Rat.inv_mul_cancel p h1
 grind
theorem f2w : Dg G k = det k G := by
 unfold Dg a7q
 rw [List.length_range]
 refine a1z fun r c hr hc => ?_
 unfold a1j colm
 rw [List.length_range, if_pos hc]
 simp [hc]
end
end Go.Abs
namespace Go.Abs
open Go.Proofs
noncomputable abbrev Pr : Program := Try.prog
abbrev a3Z : FuncId := 3
abbrev a5w : FuncId := 4
abbrev a5t : FuncId := 5
abbrev a3w : FuncId := 6
abbrev c3x : FuncId := 7
abbrev b5y : FuncId := 8
abbrev a1b : FuncId := 9
abbrev a9T : FuncId := 10
abbrev a9V : FuncId := 11
abbrev a9K : FuncId := 12
abbrev a0A : FuncId := 13
abbrev a6m : FuncId := 14
abbrev b8T : FuncId := 15
abbrev b5x : FuncId := 16
abbrev a1I : FuncId := 17
abbrev a2h : FuncId := 18
abbrev d2L : FuncId := 19
abbrev c0k : FuncId := 20
abbrev c0m : FuncId := 21
abbrev a7I : FuncId := 22
abbrev b2x : FuncId := 23
abbrev a9S : FuncId := 24
abbrev b5D : FuncId := 25
abbrev a9J : FuncId := 26
abbrev b2y : FuncId := 27
abbrev a0w : FuncId := 28
abbrev b8S : FuncId := 29
abbrev a4l : FuncId := 30
abbrev a4k : FuncId := 31
abbrev a6Q : FuncId := 32
abbrev b5E : FuncId := 33
abbrev a2G : FuncId := 34
abbrev a2W : FuncId := 35
abbrev a6P : FuncId := 36
abbrev a7G : FuncId := 37
abbrev a4z : FuncId := 38
abbrev a5v : FuncId := 39
abbrev a8m : FuncId := 40
abbrev a1L : FuncId := 41
abbrev a6l : FuncId := 42
abbrev a6R : FuncId := 43
abbrev a1Z : FuncId := 44
abbrev a3X : FuncId := 45
abbrev a9R : FuncId := 46
abbrev a7H : FuncId := 47
abbrev a5u : FuncId := 48
abbrev a1V : FuncId := 49
abbrev a2a : FuncId := 50
abbrev b2S : FuncId := 51
abbrev a9L : FuncId := 52
abbrev a9M : FuncId := 53
abbrev a4j : FuncId := 54
abbrev b5v : FuncId := 55
abbrev a7F : FuncId := 56
abbrev a4i : FuncId := 57
abbrev a9P : FuncId := 58
abbrev a3g : FuncId := 59
abbrev a9O : FuncId := 60
abbrev c0l : FuncId := 61
abbrev a8g : FuncId := 62
abbrev a5A : FuncId := 63
abbrev b2z : FuncId := 64
abbrev a4A : FuncId := 65
abbrev a5B : FuncId := 66
abbrev b5r : FuncId := 67
abbrev b2U : FuncId := 68
abbrev c0j : FuncId := 69
abbrev c0i : FuncId := 70
abbrev b8R : FuncId := 71
abbrev a1a : FuncId := 72
abbrev a8j : FuncId := 73
abbrev a3x : FuncId := 74
abbrev b5t : FuncId := 75
abbrev b5w : FuncId := 76
abbrev b5u : FuncId := 77
abbrev a2E : FuncId := 78
abbrev a8l : FuncId := 79
abbrev a8k : FuncId := 80
abbrev c7R : FuncId := 81
abbrev a6O : FuncId := 82
abbrev a0R : FuncId := 83
abbrev a2F : FuncId := 84
abbrev b5s : FuncId := 85
abbrev a9U : FuncId := 86
abbrev a0u : FuncId := 87
abbrev a1v : FuncId := 88
abbrev c7S : FuncId := 89
abbrev a8i : FuncId := 90
abbrev b5C : FuncId := 91
abbrev a1D : FuncId := 92
abbrev b8Q : FuncId := 93
abbrev a9Q : FuncId := 94
abbrev b8P : FuncId := 95
abbrev b2T : FuncId := 96
abbrev b5B : FuncId := 97
abbrev a4m : FuncId := 98
abbrev a8h : FuncId := 99
abbrev a9N : FuncId := 100
abbrev b5z : FuncId := 101
abbrev b5A : FuncId := 102
def e5o : ByteArray := ⟨#[0, 1, 2, 2, 3, 3, 3, 3, 4, 4, 4, 4, 4, 4, 4, 4, 5, 5, 5, 5, 5, 5, 5, 5, 5, 5, 5, 5, 5, 5, 5, 5, 6, 6, 6, 6, 6, 6, 6, 6, 6, 6, 6, 6, 6, 6, 6, 6, 6, 6, 6, 6, 6, 6, 6, 6, 6, 6, 6, 6, 6, 6, 6, 6, 7, 7, 7, 7, 7, 7, 7, 7, 7, 7, 7, 7, 7, 7, 7, 7, 7, 7, 7, 7, 7, 7, 7, 7, 7, 7, 7, 7, 7, 7, 7, 7, 7, 7, 7, 7, 7, 7, 7, 7, 7, 7, 7, 7, 7, 7, 7, 7, 7, 7, 7, 7, 7, 7, 7, 7, 7, 7, 7, 7, 7, 7, 7, 7, 8, 8, 8, 8, 8, 8, 8, 8, 8, 8, 8, 8, 8, 8, 8, 8, 8, 8, 8, 8, 8, 8, 8, 8, 8, 8, 8, 8, 8, 8, 8, 8, 8, 8, 8, 8, 8, 8, 8, 8, 8, 8, 8, 8, 8, 8, 8, 8, 8, 8, 8, 8, 8, 8, 8, 8, 8, 8, 8, 8, 8, 8, 8, 8, 8, 8, 8, 8, 8, 8, 8, 8, 8, 8, 8, 8, 8, 8, 8, 8, 8, 8, 8, 8, 8, 8, 8, 8, 8, 8, 8, 8, 8, 8, 8, 8, 8, 8, 8, 8, 8, 8, 8, 8, 8, 8, 8, 8, 8, 8, 8, 8, 8, 8, 8, 8, 8, 8, 8, 8, 8, 8, 8, 8, 8, 8, 8, 8]⟩
end Go.Abs

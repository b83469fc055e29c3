/- Part 4 of the proof of ElimNulls: L12, L15, Num. -/
import Derived.Test.YtkljokmnimblnaaElimNullsK3
import Derived.Test.YtkljokmnimblnaaProg
namespace Go.Abs
section
variable {n : Nat} {B : Nat → Nat → Rat}
variable (hB : ∀ i k, ∃ z : Int, B i k = z)
include hB
/-- The entries at the a1c. -/
theorem c6D : ∀ t i s, i < (gproc n B t).cs.length → s < (gproc n B t).cs.length → (a0m n B t).M i ((gproc n B t).cs.getD s 0) = if i = s then 1 else 0
  | 0, _, _, h, _ => absurd h (Nat.not_lt_zero _)
  | t + 1, i, s, hi, hs => by
    have hok := b1P (n := n) hB t
    have hrn := (a9i (n := n) hB t).len
    rcases a1P (fun p => (gproc n B t).g p t) (gproc n B t).cs.length n with ⟨p, hf, h1, h2, h3, _⟩ | ⟨hf, h4⟩
    · have e : gproc n B (t + 1) = _ := a0T hf
      have ej : a0m n B (t + 1) = _ := a7I (j := a0m n B t) (c := t) (n := n) (p := p) (by rw [a0M]; exact hf)
      rw [a0M] at ej
      rw [e] at hi hs ⊢
      simp only [a1T] at hi hs
      rw [ej]
      show jel (gproc n B t).cs.length t (a0E p (gproc n B t).cs.length (a0m n B t).M) i (((gproc n B t).cs ++ [t]).getD s 0) = _
      have low : ∀ a k, (gproc n B t).cs.length ≤ a → (a0m n B t).M a k = (gproc n B t).g a k := fun a k h => by rw [hok.low a k (by rw [a0M]; exact h), a0M]
      have hold : ∀ s, s < (gproc n B t).cs.length → ((gproc n B t).cs ++ [t]).getD s 0 = (gproc n B t).cs.getD s 0 := fun s hs => by
        simp [List.getD_eq_getElem?_getD, List.getElem?_append_left hs]
      have hnew : ((gproc n B t).cs ++ [t]).getD (gproc n B t).cs.length 0 = t := by simp [List.getD_eq_getElem?_getD]
      have ih := fun i s => c6D t i s
      have hlt : ∀ s, s < (gproc n B t).cs.length → (gproc n B t).cs.getD s 0 < t := fun s hs => a2M hs
      have hz : ∀ s, s < (gproc n B t).cs.length → (a0m n B t).M p ((gproc n B t).cs.getD s 0) = 0 := fun s hs => by
        rw [low p _ h1]; exact d7q hB t p _ h1 h2 (hlt s hs)
      have hp0 : (a0m n B t).M p t ≠ 0 := by rw [low p t h1]; exact h3
      have htop : ∀ k, a0E p (gproc n B t).cs.length (a0m n B t).M (gproc n B t).cs.length k = (a0m n B t).M p k := fun k => by
        unfold a0E
        by_cases e : (gproc n B t).cs.length = p
        · rw [if_pos e, e]
        · rw [if_neg e, if_pos rfl]
      generalize (gproc n B t).cs.length = r at *
      unfold jel
      by_cases hir : i = r
      · rw [if_pos hir, htop, htop]
        by_cases hsr : s = r
        · subst hir; subst hsr
          rw [hnew, if_pos rfl]
          rw [Rat.div_def, Rat.mul_inv_cancel _ hp0]
        · rw [hold s (by omega), hz s (by omega), if_neg (by omega)]
          grind
      · rw [if_neg hir, htop, htop]
        have hM : ∀ k, a0E p r (a0m n B t).M i k = (a0m n B t).M i k := fun k => by
          unfold a0E
          rw [if_neg (by omega), if_neg hir]
        rw [hM, hM]
        by_cases hsr : s = r
        · subst hsr
          rw [hnew, if_neg hir, Rat.div_def, Rat.mul_inv_cancel _ hp0]
          grind
        · rw [hold s (by omega), hz s (by omega), ih i s (by omega) (by omega)]
          grind
    · have e : gproc n B (t + 1) = _ := a2f hf
      have ej : a0m n B (t + 1) = _ := a7J (j := a0m n B t) (c := t) (n := n) (by rw [a0M]; exact hf)
      rw [e] at hi hs ⊢
      rw [ej]
      exact c6D t i s hi hs
end
end Go.Abs
namespace Go.Abs
/-- All entries multiplied. -/
def a1x (s : Rat) (B : Nat → Nat → Rat) : Nat → Nat → Rat := fun i k => s * B i k
section
variable {s : Rat} (hs : s ≠ 0)
include hs
theorem d8r (M : Nat → Nat → Rat) : a3F (a1x s M) = a1x s (a3F M) := by
  funext i k
  simp only [a3F, a1x]
  by_cases h0 : M 0 0 = 0
  · rw [h0]; simp; grind
  · generalize M (i + 1) (k + 1) = a
    generalize M (i + 1) 0 = b
    generalize M 0 (k + 1) = d
    generalize M 0 0 = x at *
    have : s * x ≠ 0 := by intro h; rcases Rat.mul_eq_zero.1 h with h | h; exact hs h; exact h0 h
    grind
theorem e2S : ∀ (r : Nat) (M : Nat → Nat → Rat), SS r (a1x s M) = a1x s (SS r M)
  | 0, _ => rfl
  | r + 1, M => by
    show SS r (a3F (a1x s M)) = a1x s (SS r (a3F M))
    rw [d8r hs, e2S r]
omit hs in
theorem c8Y (B : Nat → Nat → Rat) (cs : List Nat) : a1c (a1x s B) cs = a1x s (a1c B cs) := rfl
theorem b9y (B : Nat → Nat → Rat) (cs : List Nat) (i k : Nat) : a1p (a1x s B) cs i k = s * a1p B cs i k := by
  unfold a1p; rw [c8Y, e2S hs]; rfl
omit hs in
theorem d1C (f : Nat → Rat) (s : Rat) : ∀ n, sumR (fun i => s * f i) n = s * sumR f n
  | 0 => by simp only [sumR]; grind
  | n + 1 => by simp only [sumR]; rw [d1C f s n]; grind
omit hs in
theorem d9Z (s : Rat) (B : Nat → Nat → Rat) (p r : Nat) : a0E p r (a1x s B) = a1x s (a0E p r B) := by
  funext i k; unfold a0E a1x
  by_cases h1 : i = p
  · simp only [h1, if_true]
  · by_cases h2 : i = r
    · subst h2; simp only [h1, if_false, if_true]
    · simp only [h1, h2, if_false]
omit hs in
theorem b7Q {f g : Nat → Rat} {r n : Nat} (h : ∀ p, r ≤ p → p < n → (f p = 0 ↔ g p = 0)) : a1w f r n = a1w g r n := by
  unfold a1w
  have key : ∀ l : List Nat, (∀ p ∈ l, p < n) → l.find? (fun p => decide (r ≤ p) && decide (f p ≠ 0)) = l.find? (fun p => decide (r ≤ p) && decide (g p ≠ 0)) := by
    intro l
    induction l with
    | nil => intro _; rfl
    | cons a l ih =>
      intro hl
      have e : (decide (r ≤ a) && decide (f a ≠ 0)) = (decide (r ≤ a) && decide (g a ≠ 0)) := by
        by_cases hr : r ≤ a
        · have := h a hr (hl a (by simp))
          simp [hr, this]
        · simp [hr]
      simp only [List.find?_cons, e]
      rw [ih fun p hp => hl p (by simp [hp])]
  exact key _ fun p hp => List.mem_range.1 hp
omit hs in
theorem a6p (hs : s ≠ 0) (x : Rat) : s * x = 0 ↔ x = 0 :=
  ⟨fun h => by rcases Rat.mul_eq_zero.1 h with h | h; exact absurd h hs; exact h, fun h => by rw [h]; grind⟩
theorem a2g (n : Nat) (B : Nat → Nat → Rat) : ∀ t, (gproc n (a1x s B) t).cs = (gproc n B t).cs ∧ (gproc n (a1x s B) t).odd = (gproc n B t).odd ∧ (gproc n (a1x s B) t).B = a1x s (gproc n B t).B
  | 0 => ⟨rfl, rfl, rfl⟩
  | t + 1 => by
    obtain ⟨h1, h2, h3⟩ := a2g n B t
    have hf : a1w (fun p => (gproc n (a1x s B) t).g p t) (gproc n (a1x s B) t).cs.length n = a1w (fun p => (gproc n B t).g p t) (gproc n B t).cs.length n := by
      rw [h1]
      refine b7Q fun p _ _ => ?_
      show a1p _ _ p t = 0 ↔ a1p _ _ p t = 0
      rw [h1, h3, b9y hs, a6p hs]
    show (a4N n (gproc n (a1x s B) t) t).cs = (a4N n (gproc n B t) t).cs ∧ (a4N n (gproc n (a1x s B) t) t).odd = (a4N n (gproc n B t) t).odd ∧ (a4N n (gproc n (a1x s B) t) t).B = a1x s (a4N n (gproc n B t) t).B
    cases hc : a1w (fun p => (gproc n B t).g p t) (gproc n B t).cs.length n with
    | none => rw [a2f hc, a2f (hf.trans hc)]; exact ⟨h1, h2, h3⟩
    | some p =>
      rw [a0T hc, a0T (hf.trans hc)]
      refine ⟨?_, ?_, ?_⟩
      · show _ ++ [t] = _ ++ [t]; rw [h1]
      · show (if p = _ then _ else _) = (if p = _ then _ else _); rw [h1, h2]
      · show a0E p _ _ = a1x s (a0E p _ _); rw [h1, h3, d9Z]
theorem e5K (n : Nat) (B : Nat → Nat → Rat) (t i k : Nat) : (gproc n (a1x s B) t).g i k = s * (gproc n B t).g i k := by
  obtain ⟨h1, _, h3⟩ := a2g hs n B t
  show a1p _ _ i k = s * a1p _ _ i k
  rw [h1, h3, b9y hs]
theorem b7R (n : Nat) (B : Nat → Nat → Rat) (t : Nat) : a1w (fun p => (gproc n (a1x s B) t).g p t) (gproc n (a1x s B) t).cs.length n = a1w (fun p => (gproc n B t).g p t) (gproc n B t).cs.length n := by
  rw [(a2g hs n B t).1]
  exact b7Q fun p _ _ => by rw [e5K hs, a6p hs]
/-- The rows that have a head are the same; the others are multiplied. -/
theorem d4u (n : Nat) (B : Nat → Nat → Rat) : ∀ t i k, (a0m n (a1x s B) t).M i k = if i < (gproc n B t).cs.length then (a0m n B t).M i k else s * (a0m n B t).M i k
  | 0, i, k => by rw [if_neg (by show ¬ i < 0; omega)]; rfl
  | t + 1, i, k => by
    have ih := d4u n B t
    have hcs := (a2g hs n B t).1
    show (b9u n (a0m n (a1x s B) t) t).M i k = if i < (a4N n (gproc n B t) t).cs.length then (b9u n (a0m n B t) t).M i k else s * (b9u n (a0m n B t) t).M i k
    cases hc : a1w (fun p => (gproc n B t).g p t) (gproc n B t).cs.length n with
    | none =>
      rw [a7J (j := a0m n (a1x s B) t) (by rw [a0M]; exact (b7R hs n B t).trans hc), a7J (j := a0m n B t) (by rw [a0M]; exact hc), a2f hc]
      exact ih i k
    | some p =>
      rw [a7I (j := a0m n (a1x s B) t) (p := p) (by rw [a0M]; exact (b7R hs n B t).trans hc), a7I (j := a0m n B t) (p := p) (by rw [a0M]; exact hc), a0T hc]
      simp only [a0M, hcs, a1T]
      have hp : (gproc n B t).cs.length ≤ p := by
        rcases a1P (fun p => (gproc n B t).g p t) (gproc n B t).cs.length n with ⟨q, h1, h2, _⟩ | ⟨h1, _⟩
        · rw [hc] at h1; cases h1; exact h2
        · rw [hc] at h1; cases h1
      generalize (gproc n B t).cs.length = r at *
      have hsw : ∀ a b, a0E p r (a0m n (a1x s B) t).M a b = if a < r then a0E p r (a0m n B t).M a b else s * a0E p r (a0m n B t).M a b := by
        intro a b
        unfold a0E
        by_cases e1 : a = p
        · rw [if_pos e1, if_pos e1, if_neg (by omega), ih, if_neg (by omega)]
        · rw [if_neg e1, if_neg e1]
          by_cases e2 : a = r
          · rw [if_pos e2, if_pos e2, if_neg (by omega), ih, if_neg (by omega)]
          · rw [if_neg e2, if_neg e2, ih]
      generalize a0E p r (a0m n (a1x s B) t).M = X at *
      generalize a0E p r (a0m n B t).M = Y at *
      unfold jel
      have hrr : ∀ b, X r b = s * Y r b := fun b => by rw [hsw, if_neg (by omega)]
      by_cases e : i = r
      · rw [if_pos e, if_pos e, if_pos (by omega), hrr, hrr]
        by_cases h0 : Y r t = 0
        · rw [h0]; simp; grind
        · generalize Y r k = a
          generalize Y r t = b at *
          have : s * b ≠ 0 := fun h => h0 ((a6p hs b).1 h)
          grind
      · rw [if_neg e, if_neg e, hrr, hrr, hsw, hsw]
        have hq : s * Y r k / (s * Y r t) = Y r k / Y r t := by
          by_cases h0 : Y r t = 0
          · rw [h0, Rat.mul_zero, Rat.div_def, Rat.div_def, Rat.inv_zero, Rat.mul_zero, Rat.mul_zero]
          · generalize Y r k = a
            generalize Y r t = b at *
            have : s * b ≠ 0 := fun h => h0 ((a6p hs b).1 h)
            grind
        rw [hq]
        by_cases h : i < r
        · rw [if_pos h, if_pos h, if_pos (by omega)]
        · rw [if_neg h, if_neg h, if_neg (by omega)]
          generalize Y r k / Y r t = q
          grind
theorem e2a (n : Nat) (B : Nat → Nat → Rat) : ∀ t, dv n (a1x s B) t = s ^ t * dv n B t
  | 0 => by rw [d6j, d6j]; simp
  | t + 1 => by
    have ih := e2a n B t
    have hcs := (a2g hs n B t).1
    rcases a1P (fun p => (gproc n B t).g p t) (gproc n B t).cs.length n with ⟨p, h1, h2, _⟩ | ⟨h1, _⟩
    · rw [d1b h1 h2, d1b ((b7R hs n B t).trans h1) (by rw [hcs]; exact h2), hcs, ih, e5K hs, Rat.pow_succ]
      generalize (gproc n B t).g p t = x
      generalize dv n B t = d
      generalize s ^ t = y
      split <;> grind
    · rw [d6k h1, d6k ((b7R hs n B t).trans h1)]; grind
omit hs in
theorem d7B (s : Rat) : ∀ (n : Nat) (M : Nat → Nat → Rat), det n (a1x s M) = s ^ n * det n M
  | 0, M => by simp [det]
  | n + 1, M => by
    simp only [det]
    rw [← d1C]
    refine a1V fun i _ => ?_
    have e := d7B s n fun r c => M (skip i r) (c + 1)
    have e2 : (fun r c => a1x s M (skip i r) (c + 1)) = a1x s fun r c => M (skip i r) (c + 1) := rfl
    rw [e2, e, Rat.pow_succ]
    simp only [a1x]
    generalize det n (fun r c => M (skip i r) (c + 1)) = d
    generalize s ^ n = y
    generalize M i 0 = m
    generalize sg i = g
    grind
theorem e2N (n : Nat) (B : Nat → Nat → Rat) (t a b : Nat) : Zg (gproc n (a1x s B) t) a b = s ^ (((gproc n B t).cs.take a).length + 1) * Zg (gproc n B t) a b := by
  obtain ⟨h1, _, h3⟩ := a2g hs n B t
  unfold Zg
  rw [h1, h3, b9y hs]
  unfold a4c
  rw [c8Y, d7B, Rat.pow_succ]
  generalize s ^ ((gproc n B t).cs.take a).length = y
  grind
end
end Go.Abs
namespace Go.Abs
open Go.Proofs
noncomputable abbrev Pr : Program := Try.prog
abbrev a7V : FuncId := 10
abbrev a6L : FuncId := 15
abbrev b4W : FuncId := 19
abbrev a6K : FuncId := 21
abbrev b9O : FuncId := 23
abbrev b4X : FuncId := 30
abbrev b9M : FuncId := 34
abbrev a7P : FuncId := 36
abbrev a3h : FuncId := 38
abbrev a5Z : FuncId := 39
abbrev a4G : FuncId := 40
abbrev a2b : FuncId := 44
abbrev b9N : FuncId := 48
abbrev b1G : FuncId := 49
abbrev a4t : FuncId := 50
abbrev a9v : FuncId := 51
abbrev a1a : FuncId := 52
abbrev b1D : FuncId := 53
abbrev b1E : FuncId := 54
abbrev b4V : FuncId := 57
abbrev a7O : FuncId := 60
abbrev a1K : FuncId := 63
abbrev a3j : FuncId := 64
abbrev a5o : FuncId := 65
abbrev a5Y : FuncId := 70
abbrev b4N : FuncId := 71
abbrev a2N : FuncId := 72
abbrev a1i : FuncId := 73
abbrev a7S : FuncId := 77
abbrev a4F : FuncId := 78
abbrev a5U : FuncId := 79
abbrev a4g : FuncId := 80
abbrev a5W : FuncId := 81
abbrev b9L : FuncId := 82
abbrev a9D : FuncId := 85
abbrev a5u : FuncId := 86
abbrev a3D : FuncId := 87
abbrev a6H : FuncId := 88
abbrev a9w : FuncId := 89
abbrev b4Q : FuncId := 90
abbrev a6I : FuncId := 91
abbrev a7T : FuncId := 92
abbrev a1C : FuncId := 93
abbrev a5X : FuncId := 94
abbrev a1o : FuncId := 95
abbrev a2O : FuncId := 96
abbrev a9x : FuncId := 97
abbrev a3E : FuncId := 98
abbrev a1b : FuncId := 99
abbrev a5V : FuncId := 100
abbrev b9K : FuncId := 101
abbrev b2b : FuncId := 102
abbrev a0u : FuncId := 103
abbrev b8F : FuncId := 104
abbrev a3i : FuncId := 105
abbrev b4O : FuncId := 106
abbrev a2C : FuncId := 107
abbrev a4h : FuncId := 108
abbrev a1D : FuncId := 109
abbrev b4P : FuncId := 110
abbrev a0A : FuncId := 111
abbrev a4i : FuncId := 112
abbrev a9A : FuncId := 113
abbrev a3b : FuncId := 114
abbrev a2c : FuncId := 115
abbrev b1F : FuncId := 116
abbrev c6F : FuncId := 117
abbrev a7U : FuncId := 118
abbrev c6E : FuncId := 119
abbrev a7R : FuncId := 120
abbrev b4U : FuncId := 121
abbrev a1I : FuncId := 122
abbrev b8E : FuncId := 123
abbrev a9C : FuncId := 124
abbrev b8D : FuncId := 125
abbrev b4R : FuncId := 126
abbrev a9B : FuncId := 127
abbrev a3c : FuncId := 128
abbrev a9z : FuncId := 129
abbrev a9y : FuncId := 130
abbrev b4S : FuncId := 131
abbrev a2E : FuncId := 132
abbrev a0U : FuncId := 133
abbrev a2D : FuncId := 134
abbrev b4T : FuncId := 135
abbrev a7Q : FuncId := 136
abbrev a6J : FuncId := 137
def e3k : ByteArray := ⟨#[0, 1, 2, 2, 3, 3, 3, 3, 4, 4, 4, 4, 4, 4, 4, 4, 5, 5, 5, 5, 5, 5, 5, 5, 5, 5, 5, 5, 5, 5, 5, 5, 6, 6, 6, 6, 6, 6, 6, 6, 6, 6, 6, 6, 6, 6, 6, 6, 6, 6, 6, 6, 6, 6, 6, 6, 6, 6, 6, 6, 6, 6, 6, 6, 7, 7, 7, 7, 7, 7, 7, 7, 7, 7, 7, 7, 7, 7, 7, 7, 7, 7, 7, 7, 7, 7, 7, 7, 7, 7, 7, 7, 7, 7, 7, 7, 7, 7, 7, 7, 7, 7, 7, 7, 7, 7, 7, 7, 7, 7, 7, 7, 7, 7, 7, 7, 7, 7, 7, 7, 7, 7, 7, 7, 7, 7, 7, 7, 8, 8, 8, 8, 8, 8, 8, 8, 8, 8, 8, 8, 8, 8, 8, 8, 8, 8, 8, 8, 8, 8, 8, 8, 8, 8, 8, 8, 8, 8, 8, 8, 8, 8, 8, 8, 8, 8, 8, 8, 8, 8, 8, 8, 8, 8, 8, 8, 8, 8, 8, 8, 8, 8, 8, 8, 8, 8, 8, 8, 8, 8, 8, 8, 8, 8, 8, 8, 8, 8, 8, 8, 8, 8, 8, 8, 8, 8, 8, 8, 8, 8, 8, 8, 8, 8, 8, 8, 8, 8, 8, 8, 8, 8, 8, 8, 8, 8, 8, 8, 8, 8, 8, 8, 8, 8, 8, 8, 8, 8, 8, 8, 8, 8, 8, 8, 8, 8, 8, 8, 8, 8, 8, 8, 8, 8, 8, 8]⟩
end Go.Abs

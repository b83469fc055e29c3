/- Part 4 of the proof of ElimGoes: L12, L14, L15, Num. -/
import Derived.Test.YtkljokmnimblnaaElimGoesK3
import Derived.Test.YtkljokmnimblnaaProg
namespace Go.Abs
theorem c6X {f : Nat → Rat} {r : Nat} : ∀ {n : Nat}, r ≤ n → (∀ j, r ≤ j → j < n → f j = 0) → sumR f n = sumR f r
  | 0, h, _ => by rw [show r = 0 by omega]
  | n + 1, h, h0 => by
    by_cases e : r = n + 1
    · rw [e]
    · show sumR f n + f n = _
      rw [c6X (n := n) (by omega) fun j h1 h2 => h0 j h1 (by omega), h0 n (by omega) (by omega)]
      grind
section
variable {n : Nat} {B : Nat → Nat → Rat}
/-- Some of the columns, in any order: the exchanges of rows. -/
theorem c8N (f : Nat → Nat) : ∀ t, det n (fun a c => (gproc n B t).B a (f c)) = if (gproc n B t).odd then -det n (fun a c => B a (f c)) else det n (fun a c => B a (f c))
  | 0 => rfl
  | t + 1 => by
    have ih := c8N f t
    rcases a0v (fun p => (gproc n B t).g p t) (gproc n B t).cs.length n with ⟨p, hf, h1, h2, h3, _⟩ | ⟨hf, h4⟩
    · have e : gproc n B (t + 1) = _ := a0s hf
      rw [e]
      show det n (fun a c => a0q p (gproc n B t).cs.length (gproc n B t).B a (f c)) = if (if p = (gproc n B t).cs.length then (gproc n B t).odd else !(gproc n B t).odd) = true then _ else _
      have e2 : (fun a c => a0q p (gproc n B t).cs.length (gproc n B t).B a (f c)) = a0q p (gproc n B t).cs.length fun a c => (gproc n B t).B a (f c) := by
        funext a c
        unfold a0q
        split
        · rfl
        · split <;> rfl
      rw [e2]
      by_cases hp : p = (gproc n B t).cs.length
      · rw [if_pos hp, hp, c1l]; exact ih
      · rw [if_neg hp, b7H hp h2 (by omega), ih]
        cases (gproc n B t).odd <;> simp <;> grind
    · have e : gproc n B (t + 1) = _ := a0L hf
      rw [e]; exact ih
theorem c8O : ∀ t a, a < n → ∃ a', a' < n ∧ ∀ k, (gproc n B t).B a' k = B a k
  | 0, a, h => ⟨a, h, fun _ => rfl⟩
  | t + 1, a, h => by
    obtain ⟨a1, h1, h2⟩ := c8O t a h
    rcases a0v (fun p => (gproc n B t).g p t) (gproc n B t).cs.length n with ⟨p, hf, g1, g2, g3, _⟩ | ⟨hf, h4⟩
    · have e : gproc n B (t + 1) = _ := a0s hf
      rw [e]
      refine ⟨if a1 = p then (gproc n B t).cs.length else if a1 = (gproc n B t).cs.length then p else a1, ?_, fun k => ?_⟩
      · split
        · omega
        · split <;> omega
      · rw [← h2 k]
        show a0q p (gproc n B t).cs.length (gproc n B t).B _ k = _
        unfold a0q
        by_cases e1 : a1 = p
        · rw [if_pos e1]
          by_cases e2 : (gproc n B t).cs.length = p
          · rw [if_pos e2, e1, e2]
          · rw [if_neg e2, if_pos rfl, e1]
        · rw [if_neg e1]
          by_cases e2 : a1 = (gproc n B t).cs.length
          · rw [if_pos e2, if_pos rfl, e2]
          · rw [if_neg e2, if_neg e1, if_neg e2]
    · have e : gproc n B (t + 1) = _ := a0L hf
      rw [e]; exact ⟨a1, h1, h2⟩
variable (hB : ∀ i k, ∃ z : Int, B i k = z)
include hB
/-- Every row, over the columns gone through, from its entries at the a0C. -/
theorem b3a {t a k : Nat} (ha : a < n) (hk : k < t) : B a k = sumR (fun i => B a ((gproc n B t).cs.getD i 0) * (a0g n B t).M i k) (gproc n B t).cs.length := by
  obtain ⟨a', h1, h2⟩ := c8O (n := n) (B := B) t a ha
  have hok := a7F (n := n) hB t
  have hu := hok.up a' k
  rw [a0J] at hu
  have hz : (if (gproc n B t).cs.length ≤ a' then (a0g n B t).M a' k else 0) = 0 := by
    split
    · rename_i h
      rw [hok.low a' k (by rw [a0J]; exact h), a0J]
      exact c2N hB t a' k h h1 hk
    · rfl
  rw [hz] at hu
  rw [← h2 k, hu]
  have : sumR (fun i => (gproc n B t).B a' ((gproc n B t).cs.getD i 0) * (a0g n B t).M i k) (gproc n B t).cs.length = sumR (fun i => B a ((gproc n B t).cs.getD i 0) * (a0g n B t).M i k) (gproc n B t).cs.length := a0p fun i _ => by rw [h2]
  rw [this]; grind
/-- The entries at the a0C. -/
theorem b5G : ∀ t i s, i < (gproc n B t).cs.length → s < (gproc n B t).cs.length → (a0g n B t).M i ((gproc n B t).cs.getD s 0) = if i = s then 1 else 0
  | 0, _, _, h, _ => absurd h (Nat.not_lt_zero _)
  | t + 1, i, s, hi, hs => by
    have hok := a7F (n := n) hB t
    have hrn := (a3v (n := n) hB t).len
    rcases a0v (fun p => (gproc n B t).g p t) (gproc n B t).cs.length n with ⟨p, hf, h1, h2, h3, _⟩ | ⟨hf, h4⟩
    · have e : gproc n B (t + 1) = _ := a0s hf
      have ej : a0g n B (t + 1) = _ := a6T (j := a0g n B t) (c := t) (n := n) (p := p) (by rw [a0J]; exact hf)
      rw [a0J] at ej
      rw [e] at hi hs ⊢
      simp only [a1t] at hi hs
      rw [ej]
      show jel (gproc n B t).cs.length t (a0q p (gproc n B t).cs.length (a0g n B t).M) i (((gproc n B t).cs ++ [t]).getD s 0) = _
      have low : ∀ a k, (gproc n B t).cs.length ≤ a → (a0g n B t).M a k = (gproc n B t).g a k := fun a k h => by rw [hok.low a k (by rw [a0J]; exact h), a0J]
      have hold : ∀ s, s < (gproc n B t).cs.length → ((gproc n B t).cs ++ [t]).getD s 0 = (gproc n B t).cs.getD s 0 := fun s hs => by
        simp [List.getD_eq_getElem?_getD, List.getElem?_append_left hs]
      have hnew : ((gproc n B t).cs ++ [t]).getD (gproc n B t).cs.length 0 = t := by simp [List.getD_eq_getElem?_getD]
      have ih := fun i s => b5G t i s
      have hlt : ∀ s, s < (gproc n B t).cs.length → (gproc n B t).cs.getD s 0 < t := fun s hs => a1m hs
      have hz : ∀ s, s < (gproc n B t).cs.length → (a0g n B t).M p ((gproc n B t).cs.getD s 0) = 0 := fun s hs => by
        rw [low p _ h1]; exact c2N hB t p _ h1 h2 (hlt s hs)
      have hp0 : (a0g n B t).M p t ≠ 0 := by rw [low p t h1]; exact h3
      have htop : ∀ k, a0q p (gproc n B t).cs.length (a0g n B t).M (gproc n B t).cs.length k = (a0g n B t).M p k := fun k => by
        unfold a0q
        by_cases e : (gproc n B t).cs.length = p
        · rw [if_pos e, e]
        · rw [if_neg e, if_pos rfl]
      generalize (gproc n B t).cs.length = r at *
      unfold jel
      by_cases hir : i = r
      · rw [if_pos hir, htop, htop]
        by_cases hsr : s = r
        · subst hir; subst hsr
          rw [hnew, if_pos rfl]
          rw [Rat.div_def, Rat.mul_inv_cancel _ hp0]
        · rw [hold s (by omega), hz s (by omega), if_neg (by omega)]
          grind
      · rw [if_neg hir, htop, htop]
        have hM : ∀ k, a0q p r (a0g n B t).M i k = (a0g n B t).M i k := fun k => by
          unfold a0q
          rw [if_neg (by omega), if_neg hir]
        rw [hM, hM]
        by_cases hsr : s = r
        · subst hsr
          rw [hnew, if_neg hir, Rat.div_def, Rat.mul_inv_cancel _ hp0]
          grind
        · rw [hold s (by omega), hz s (by omega), ih i s (by omega) (by omega)]
          grind
    · have e : gproc n B (t + 1) = _ := a0L hf
      have ej : a0g n B (t + 1) = _ := a6U (j := a0g n B t) (c := t) (n := n) (by rw [a0J]; exact hf)
      rw [e] at hi hs ⊢
      rw [ej]
      exact b5G t i s hi hs
/-- All rows independent: in the turned matrix every one of the columns is a head. -/
theorem c6V {m : Nat} {T : Nat → Nat → Rat} (hT : ∀ i k, ∃ z : Int, T i k = z) (hTB : ∀ i k, i < m → k < n → T i k = B k i) (hr : (gproc n B m).cs.length = n) : (gproc m T n).cs.length = n := by
  have hle := a6W m T n
  refine Classical.byContradiction fun hne => ?_
  have hlt : (gproc m T n).cs.length < n := by omega
  have hd0 := a4F (a3v (n := n) hB m).piv
  unfold a3z at hd0
  rw [hr] at hd0
  have e1 : det n (a0C (gproc n B m).B (gproc n B m).cs) = det n fun a c => (gproc n B m).B a ((gproc n B m).cs.getD c 0) := by
    refine a0D fun r c _ hc => ?_
    unfold a0C colm
    rw [if_pos (by omega)]
  rw [e1, c8N fun c => (gproc n B m).cs.getD c 0] at hd0
  have hd1 : det n (fun a c => B a ((gproc n B m).cs.getD c 0)) ≠ 0 := by
    intro h
    rw [h] at hd0
    apply hd0
    split
    · grind
    · rfl
  rw [← b7G n] at hd1
  apply hd1
  have e2 : det n (fun i k => B k ((gproc n B m).cs.getD i 0)) = det n (mulR n (fun i t => if t < (gproc m T n).cs.length then T ((gproc n B m).cs.getD i 0) ((gproc m T n).cs.getD t 0) else 0) (a0g m T n).M) := by
    refine a0D fun i k hi hk => ?_
    have hci : (gproc n B m).cs.getD i 0 < m := a1m (by omega)
    rw [← hTB _ _ hci hk, b3a hT hci hk]
    unfold mulR
    rw [c6X (r := (gproc m T n).cs.length) hle fun j h1 h2 => by show (if j < (gproc m T n).cs.length then _ else _) * _ = (0 : Rat); rw [if_neg (by omega)]; grind]
    exact a0p fun j hj => by show _ = (if j < (gproc m T n).cs.length then _ else _) * _; rw [if_pos hj]
  rw [e2, d4p, a5w hlt fun r => by rw [if_neg (Nat.lt_irrefl _)]]
  grind
end
end Go.Abs
namespace Go.Abs
section
variable {n : Nat} {B : Nat → Nat → Rat}
theorem b8t : ∀ t a, a < n → ∃ a', a' < n ∧ ∀ k, (gproc n B t).B a k = B a' k
  | 0, a, h => ⟨a, h, fun _ => rfl⟩
  | t + 1, a, h => by
    rcases a0v (fun p => (gproc n B t).g p t) (gproc n B t).cs.length n with ⟨p, hf, g1, g2, g3, _⟩ | ⟨hf, h4⟩
    · have e : gproc n B (t + 1) = _ := a0s hf
      rw [e]
      obtain ⟨b, _, hb, hbb⟩ : ∃ b, True ∧ b < n ∧ ∀ k, a0q p (gproc n B t).cs.length (gproc n B t).B a k = (gproc n B t).B b k := by
        by_cases e1 : a = p
        · exact ⟨(gproc n B t).cs.length, trivial, by omega, fun k => by unfold a0q; rw [if_pos e1]⟩
        · by_cases e2 : a = (gproc n B t).cs.length
          · exact ⟨p, trivial, g2, fun k => by unfold a0q; rw [if_neg e1, if_pos e2]⟩
          · exact ⟨a, trivial, h, fun k => by unfold a0q; rw [if_neg e1, if_neg e2]⟩
      obtain ⟨a', h1, h2⟩ := b8t t b hb
      exact ⟨a', h1, fun k => by rw [← h2 k]; exact hbb k⟩
    · have e : gproc n B (t + 1) = _ := a0L hf
      rw [e]
      exact b8t t a h
variable (hB : ∀ i k, ∃ z : Int, B i k = z)
include hB
/-- As many a0C as a minor that is not 0 has rows. -/
theorem c8V {c r : Nat} {f g : Nat → Nat} (hf : ∀ i, i < r → f i < n) (hg : ∀ i, i < r → g i < c) (hd : det r (fun i k => B (f i) (g k)) ≠ 0) : r ≤ (gproc n B c).cs.length := by
  refine Classical.byContradiction fun hne => hd ?_
  have hlt : (gproc n B c).cs.length < r := by omega
  have e2 : det r (fun i k => B (f i) (g k)) = det r (mulR r (fun i t => if t < (gproc n B c).cs.length then B (f i) ((gproc n B c).cs.getD t 0) else 0) fun t k => (a0g n B c).M t (g k)) := by
    refine a0D fun i k hi hk => ?_
    rw [b3a hB (hf i hi) (hg k hk)]
    unfold mulR
    rw [c6X (r := (gproc n B c).cs.length) (n := r) (by omega) fun j h1 h2 => by show (if j < (gproc n B c).cs.length then _ else _) * _ = (0 : Rat); rw [if_neg (by omega)]; grind]
    exact a0p fun j hj => by show _ = (if j < (gproc n B c).cs.length then _ else _) * _; rw [if_pos hj]
  rw [e2, d4p, a5w hlt fun r => by rw [if_neg (Nat.lt_irrefl _)]]
  grind
/-- And such a minor is there. -/
theorem d6o (c : Nat) : ∃ f g : Nat → Nat, (∀ i, i < (gproc n B c).cs.length → f i < n) ∧ (∀ i, i < (gproc n B c).cs.length → g i < c) ∧ det (gproc n B c).cs.length (fun i k => B (f i) (g k)) ≠ 0 := by
  have hok := a3v (n := n) hB c
  have hl := hok.len
  have hex : ∀ a, ∃ a', a < n → a' < n ∧ ∀ k, (gproc n B c).B a k = B a' k := fun a => by
    by_cases h : a < n
    · obtain ⟨a', h1, h2⟩ := b8t (n := n) (B := B) c a h
      exact ⟨a', fun _ => ⟨h1, h2⟩⟩
    · exact ⟨0, fun h' => absurd h' h⟩
  refine ⟨fun a => Classical.choose (hex a), fun k => (gproc n B c).cs.getD k 0, fun i hi => (Classical.choose_spec (hex i) (by omega)).1, fun i hi => a1m hi, ?_⟩
  have h0 := a4F hok.piv
  unfold a3z at h0
  have e1 : det (gproc n B c).cs.length (a0C (gproc n B c).B (gproc n B c).cs) = det (gproc n B c).cs.length fun i k => B (Classical.choose (hex i)) ((gproc n B c).cs.getD k 0) := by
    refine a0D fun r k hr hk => ?_
    unfold a0C colm
    rw [if_pos hk]
    exact (Classical.choose_spec (hex r) (by omega)).2 _
  rw [e1] at h0
  exact h0
/-- The columns' rank is not below the rows'. -/
theorem b6a {m : Nat} {T : Nat → Nat → Rat} (hT : ∀ i k, ∃ z : Int, T i k = z) (hTB : ∀ i k, i < m → k < n → T i k = B k i) : (gproc n B m).cs.length ≤ (gproc m T n).cs.length := by
  obtain ⟨f, g, hf, hg, hd⟩ := d6o hB m
  refine c8V hT (f := g) (g := f) hg hf ?_
  rw [← b7G] at hd
  intro h
  apply hd
  rw [← h]
  exact a0D fun i k hi hk => (hTB _ _ (hg i hi) (hf k hk)).symm
theorem d2D {m : Nat} {T : Nat → Nat → Rat} (hT : ∀ i k, ∃ z : Int, T i k = z) (hTB : ∀ i k, i < m → k < n → T i k = B k i) : (gproc m T n).cs.length = (gproc n B m).cs.length :=
  Nat.le_antisymm (b6a hT hB fun i k hi hk => (hTB k i hk hi).symm) (b6a hB hT hTB)
end
end Go.Abs
namespace Go.Abs
/-- All entries multiplied. -/
def a0Z (s : Rat) (B : Nat → Nat → Rat) : Nat → Nat → Rat := fun i k => s * B i k
section
variable {s : Rat} (hs : s ≠ 0)
include hs
theorem d0s (M : Nat → Nat → Rat) : a2H (a0Z s M) = a0Z s (a2H M) := by
  funext i k
  simp only [a2H, a0Z]
  by_cases h0 : M 0 0 = 0
  · rw [h0]; simp; grind
  · generalize M (i + 1) (k + 1) = a
    generalize M (i + 1) 0 = b
    generalize M 0 (k + 1) = d
    generalize M 0 0 = x at *
    have : s * x ≠ 0 := by intro h; rcases Rat.mul_eq_zero.1 h with h | h; exact hs h; exact h0 h
    grind
theorem d4Y : ∀ (r : Nat) (M : Nat → Nat → Rat), SS r (a0Z s M) = a0Z s (SS r M)
  | 0, _ => rfl
  | r + 1, M => by
    show SS r (a2H (a0Z s M)) = a0Z s (SS r (a2H M))
    rw [d0s hs, d4Y r]
omit hs in
theorem c2L (B : Nat → Nat → Rat) (cs : List Nat) : a0C (a0Z s B) cs = a0Z s (a0C B cs) := rfl
theorem b5w (B : Nat → Nat → Rat) (cs : List Nat) (i k : Nat) : a1c (a0Z s B) cs i k = s * a1c B cs i k := by
  unfold a1c; rw [c2L, d4Y hs]; rfl
omit hs in
theorem a8C (f : Nat → Rat) (s : Rat) : ∀ n, sumR (fun i => s * f i) n = s * sumR f n
  | 0 => by simp only [sumR]; grind
  | n + 1 => by simp only [sumR]; rw [a8C f s n]; grind
omit hs in
theorem d1X (s : Rat) (B : Nat → Nat → Rat) (p r : Nat) : a0q p r (a0Z s B) = a0Z s (a0q p r B) := by
  funext i k; unfold a0q a0Z
  by_cases h1 : i = p
  · simp only [h1, if_true]
  · by_cases h2 : i = r
    · subst h2; simp only [h1, if_false, if_true]
    · simp only [h1, h2, if_false]
omit hs in
theorem b3D {f g : Nat → Rat} {r n : Nat} (h : ∀ p, r ≤ p → p < n → (f p = 0 ↔ g p = 0)) : a1r f r n = a1r g r n := by
  unfold a1r
  have key : ∀ l : List Nat, (∀ p ∈ l, p < n) → l.find? (fun p => decide (r ≤ p) && decide (f p ≠ 0)) = l.find? (fun p => decide (r ≤ p) && decide (g p ≠ 0)) := by
    intro l
    induction l with
    | nil => intro _; rfl
    | cons a l ih =>
      intro hl
      have e : (decide (r ≤ a) && decide (f a ≠ 0)) = (decide (r ≤ a) && decide (g a ≠ 0)) := by
        by_cases hr : r ≤ a
        · have := h a hr (hl a (by simp))
          simp [hr, this]
        · simp [hr]
      simp only [List.find?_cons, e]
      rw [ih fun p hp => hl p (by simp [hp])]
  exact key _ fun p hp => List.mem_range.1 hp
omit hs in
theorem a5N (hs : s ≠ 0) (x : Rat) : s * x = 0 ↔ x = 0 :=
  ⟨fun h => by rcases Rat.mul_eq_zero.1 h with h | h; exact absurd h hs; exact h, fun h => by rw [h]; grind⟩
theorem a1M (n : Nat) (B : Nat → Nat → Rat) : ∀ t, (gproc n (a0Z s B) t).cs = (gproc n B t).cs ∧ (gproc n (a0Z s B) t).odd = (gproc n B t).odd ∧ (gproc n (a0Z s B) t).B = a0Z s (gproc n B t).B
  | 0 => ⟨rfl, rfl, rfl⟩
  | t + 1 => by
    obtain ⟨h1, h2, h3⟩ := a1M n B t
    have hf : a1r (fun p => (gproc n (a0Z s B) t).g p t) (gproc n (a0Z s B) t).cs.length n = a1r (fun p => (gproc n B t).g p t) (gproc n B t).cs.length n := by
      rw [h1]
      refine b3D fun p _ _ => ?_
      show a1c _ _ p t = 0 ↔ a1c _ _ p t = 0
      rw [h1, h3, b5w hs, a5N hs]
    show (a4G n (gproc n (a0Z s B) t) t).cs = (a4G n (gproc n B t) t).cs ∧ (a4G n (gproc n (a0Z s B) t) t).odd = (a4G n (gproc n B t) t).odd ∧ (a4G n (gproc n (a0Z s B) t) t).B = a0Z s (a4G n (gproc n B t) t).B
    cases hc : a1r (fun p => (gproc n B t).g p t) (gproc n B t).cs.length n with
    | none => rw [a0L hc, a0L (hf.trans hc)]; exact ⟨h1, h2, h3⟩
    | some p =>
      rw [a0s hc, a0s (hf.trans hc)]
      refine ⟨?_, ?_, ?_⟩
      · show _ ++ [t] = _ ++ [t]; rw [h1]
      · show (if p = _ then _ else _) = (if p = _ then _ else _); rw [h1, h2]
      · show a0q p _ _ = a0Z s (a0q p _ _); rw [h1, h3, d1X]
theorem e1H (n : Nat) (B : Nat → Nat → Rat) (t i k : Nat) : (gproc n (a0Z s B) t).g i k = s * (gproc n B t).g i k := by
  obtain ⟨h1, _, h3⟩ := a1M hs n B t
  show a1c _ _ i k = s * a1c _ _ i k
  rw [h1, h3, b5w hs]
theorem c5V (n : Nat) (B : Nat → Nat → Rat) (t : Nat) : a1r (fun p => (gproc n (a0Z s B) t).g p t) (gproc n (a0Z s B) t).cs.length n = a1r (fun p => (gproc n B t).g p t) (gproc n B t).cs.length n := by
  rw [(a1M hs n B t).1]
  exact b3D fun p _ _ => by rw [e1H hs, a5N hs]
/-- The rows that have a head are the same; the others are multiplied. -/
theorem c6z (n : Nat) (B : Nat → Nat → Rat) : ∀ t i k, (a0g n (a0Z s B) t).M i k = if i < (gproc n B t).cs.length then (a0g n B t).M i k else s * (a0g n B t).M i k
  | 0, i, k => by rw [if_neg (by show ¬ i < 0; omega)]; rfl
  | t + 1, i, k => by
    have ih := c6z n B t
    have hcs := (a1M hs n B t).1
    show (b5q n (a0g n (a0Z s B) t) t).M i k = if i < (a4G n (gproc n B t) t).cs.length then (b5q n (a0g n B t) t).M i k else s * (b5q n (a0g n B t) t).M i k
    cases hc : a1r (fun p => (gproc n B t).g p t) (gproc n B t).cs.length n with
    | none =>
      rw [a6U (j := a0g n (a0Z s B) t) (by rw [a0J]; exact (c5V hs n B t).trans hc), a6U (j := a0g n B t) (by rw [a0J]; exact hc), a0L hc]
      exact ih i k
    | some p =>
      rw [a6T (j := a0g n (a0Z s B) t) (p := p) (by rw [a0J]; exact (c5V hs n B t).trans hc), a6T (j := a0g n B t) (p := p) (by rw [a0J]; exact hc), a0s hc]
      simp only [a0J, hcs, a1t]
      have hp : (gproc n B t).cs.length ≤ p := by
        rcases a0v (fun p => (gproc n B t).g p t) (gproc n B t).cs.length n with ⟨q, h1, h2, _⟩ | ⟨h1, _⟩
        · rw [hc] at h1; cases h1; exact h2
        · rw [hc] at h1; cases h1
      generalize (gproc n B t).cs.length = r at *
      have hsw : ∀ a b, a0q p r (a0g n (a0Z s B) t).M a b = if a < r then a0q p r (a0g n B t).M a b else s * a0q p r (a0g n B t).M a b := by
        intro a b
        unfold a0q
        by_cases e1 : a = p
        · rw [if_pos e1, if_pos e1, if_neg (by omega), ih, if_neg (by omega)]
        · rw [if_neg e1, if_neg e1]
          by_cases e2 : a = r
          · rw [if_pos e2, if_pos e2, if_neg (by omega), ih, if_neg (by omega)]
          · rw [if_neg e2, if_neg e2, ih]
      generalize a0q p r (a0g n (a0Z s B) t).M = X at *
      generalize a0q p r (a0g n B t).M = Y at *
      unfold jel
      have hrr : ∀ b, X r b = s * Y r b := fun b => by rw [hsw, if_neg (by omega)]
      by_cases e : i = r
      · rw [if_pos e, if_pos e, if_pos (by omega), hrr, hrr]
        by_cases h0 : Y r t = 0
        · rw [h0]; simp; grind
        · generalize Y r k = a
          generalize Y r t = b at *
          have : s * b ≠ 0 := fun h => h0 ((a5N hs b).1 h)
          grind
      · rw [if_neg e, if_neg e, hrr, hrr, hsw, hsw]
        have hq : s * Y r k / (s * Y r t) = Y r k / Y r t := by
          by_cases h0 : Y r t = 0
          · rw [h0, Rat.mul_zero, Rat.div_def, Rat.div_def, Rat.inv_zero, Rat.mul_zero, Rat.mul_zero]
          · generalize Y r k = a
            generalize Y r t = b at *
            have : s * b ≠ 0 := fun h => h0 ((a5N hs b).1 h)
            grind
        rw [hq]
        by_cases h : i < r
        · rw [if_pos h, if_pos h, if_pos (by omega)]
        · rw [if_neg h, if_neg h, if_neg (by omega)]
          generalize Y r k / Y r t = q
          grind
omit hs in
theorem c4l (s : Rat) : ∀ (n : Nat) (M : Nat → Nat → Rat), det n (a0Z s M) = s ^ n * det n M
  | 0, M => by simp [det]
  | n + 1, M => by
    simp only [det]
    rw [← a8C]
    refine a0p fun i _ => ?_
    have e := c4l s n fun r c => M (skip i r) (c + 1)
    have e2 : (fun r c => a0Z s M (skip i r) (c + 1)) = a0Z s fun r c => M (skip i r) (c + 1) := rfl
    rw [e2, e, Rat.pow_succ]
    simp only [a0Z]
    generalize det n (fun r c => M (skip i r) (c + 1)) = d
    generalize s ^ n = y
    generalize M i 0 = m
    generalize sg i = g
    grind
theorem d4U (n : Nat) (B : Nat → Nat → Rat) (t a b : Nat) : Zg (gproc n (a0Z s B) t) a b = s ^ (((gproc n B t).cs.take a).length + 1) * Zg (gproc n B t) a b := by
  obtain ⟨h1, _, h3⟩ := a1M hs n B t
  unfold Zg
  rw [h1, h3, b5w hs]
  unfold a3z
  rw [c2L, c4l, Rat.pow_succ]
  generalize s ^ ((gproc n B t).cs.take a).length = y
  grind
end
end Go.Abs
namespace Go.Abs
open Go.Proofs
noncomputable abbrev Pr : Program := Try.prog
abbrev a4w : FuncId := 13
abbrev a5z : FuncId := 14
abbrev a2F : FuncId := 20
abbrev a7e : FuncId := 23
abbrev b5K : FuncId := 24
abbrev a8f : FuncId := 33
abbrev a7d : FuncId := 34
abbrev a3N : FuncId := 36
abbrev a1f : FuncId := 38
abbrev a8h : FuncId := 39
abbrev a0H : FuncId := 41
abbrev b5J : FuncId := 43
abbrev a0U : FuncId := 44
abbrev a8e : FuncId := 45
abbrev b2M : FuncId := 46
abbrev a4O : FuncId := 47
abbrev a4U : FuncId := 48
abbrev a3g : FuncId := 49
abbrev a2f : FuncId := 50
abbrev a4P : FuncId := 55
abbrev a7f : FuncId := 56
abbrev a6G : FuncId := 58
abbrev b5H : FuncId := 59
abbrev a2Q : FuncId := 60
abbrev a2x : FuncId := 64
abbrev a6e : FuncId := 67
abbrev a3O : FuncId := 70
abbrev a8b : FuncId := 71
abbrev a0T : FuncId := 73
abbrev a8d : FuncId := 76
abbrev a7b : FuncId := 77
abbrev a1S : FuncId := 78
abbrev b5I : FuncId := 82
abbrev a6H : FuncId := 83
abbrev a4N : FuncId := 84
abbrev a8g : FuncId := 85
abbrev a4S : FuncId := 86
abbrev a5y : FuncId := 92
abbrev a2E : FuncId := 96
abbrev b0p : FuncId := 101
abbrev a4T : FuncId := 102
abbrev a0n : FuncId := 103
abbrev b4z : FuncId := 104
abbrev a1n : FuncId := 109
abbrev c0E : FuncId := 117
abbrev a7c : FuncId := 118
abbrev c0D : FuncId := 119
abbrev a7a : FuncId := 120
abbrev b2L : FuncId := 121
abbrev a1v : FuncId := 122
abbrev b4y : FuncId := 123
abbrev a8c : FuncId := 124
abbrev b4x : FuncId := 125
abbrev a6Z : FuncId := 136
def d5o : ByteArray := ⟨#[0, 1, 2, 2, 3, 3, 3, 3, 4, 4, 4, 4, 4, 4, 4, 4, 5, 5, 5, 5, 5, 5, 5, 5, 5, 5, 5, 5, 5, 5, 5, 5, 6, 6, 6, 6, 6, 6, 6, 6, 6, 6, 6, 6, 6, 6, 6, 6, 6, 6, 6, 6, 6, 6, 6, 6, 6, 6, 6, 6, 6, 6, 6, 6, 7, 7, 7, 7, 7, 7, 7, 7, 7, 7, 7, 7, 7, 7, 7, 7, 7, 7, 7, 7, 7, 7, 7, 7, 7, 7, 7, 7, 7, 7, 7, 7, 7, 7, 7, 7, 7, 7, 7, 7, 7, 7, 7, 7, 7, 7, 7, 7, 7, 7, 7, 7, 7, 7, 7, 7, 7, 7, 7, 7, 7, 7, 7, 7, 8, 8, 8, 8, 8, 8, 8, 8, 8, 8, 8, 8, 8, 8, 8, 8, 8, 8, 8, 8, 8, 8, 8, 8, 8, 8, 8, 8, 8, 8, 8, 8, 8, 8, 8, 8, 8, 8, 8, 8, 8, 8, 8, 8, 8, 8, 8, 8, 8, 8, 8, 8, 8, 8, 8, 8, 8, 8, 8, 8, 8, 8, 8, 8, 8, 8, 8, 8, 8, 8, 8, 8, 8, 8, 8, 8, 8, 8, 8, 8, 8, 8, 8, 8, 8, 8, 8, 8, 8, 8, 8, 8, 8, 8, 8, 8, 8, 8, 8, 8, 8, 8, 8, 8, 8, 8, 8, 8, 8, 8, 8, 8, 8, 8, 8, 8, 8, 8, 8, 8, 8, 8, 8, 8, 8, 8, 8, 8]⟩
end Go.Abs

/- Part 9 of the proof of BookRests: K23, K24, K25, O1, O2, O3. -/
import Derived.Test.YtclecbomkhgflaaGreatDoorBookRestsK8
import Derived.Test.YtclecbomkhgflaaGreatDoorRows
import Derived.OpenShut
import Derived.ChangeArms
import Derived.Carry
import Derived.WalkKit
import Derived.ProofKit
import Derived.JoinedCond
set_option linter.unusedVariables false
set_option linter.unusedSimpArgs false
namespace Go.Abs
open Go.Proofs
structure GoodM (l : List (List ZI)) : Prop where
 len : l.length ≤ 12
 row : ∀ r ∈ l, r.length ≤ 12 ∧ Vok 4194304 r
 rect : Rect l
 can : CanM l
 put : putE l = 0
structure GoodB (B : Bk) : Prop where
 ok : B.Ok
 n : B.ks.length ≤ 64
 key : ∀ k ∈ B.ks, a2x k = true
 mat : ∀ l ∈ B.ls, GoodM l
theorem d4K {α : Type} (f : α → Nat) (c : Nat) : ∀ l : List α, (∀ x ∈ l, f x ≤ c) → (l.map f).sum ≤ l.length * c
 | [], _ => by simp
 | x :: l, h => by
  have h1 := h x (by simp)
  have h2 := d4K f c l fun y hy => h y (by simp [hy])
  simp only [List.map_cons, List.sum_cons, List.length_cons, Nat.add_mul, Nat.one_mul]
  omega
theorem c5m {k : List UInt8} (h : a2x k = true) : k.length ≤ 32 := by
 unfold a2x at h
 rw [Bool.and_eq_true, decide_eq_true_eq] at h
 exact h.1.2.1
theorem d4D {r : List ZI} (h : r.length ≤ 12 ∧ Vok 4194304 r) : (txV r).length ≤ 503316540 := by
 unfold txV
 have h1 := d1H (fun i => decI (zg r i)) [32] r.length
 have h2 := d4K (fun x : List UInt8 => x.length + [32].length) 41943045 (tx r.length fun i => decI (zg r i)) fun x hx => by
  obtain ⟨i, _, rfl⟩ := List.mem_map.1 hx
  have := e0g (h.2.abs i)
  simp only [List.length_singleton]
  omega
 rw [b5A] at h2
 have h3 := h.1
 have : r.length * 41943045 ≤ 12 * 41943045 := Nat.mul_le_mul_right _ h3
 omega
theorem d9L {B : Bk} (hB : B.Ok) (k : List UInt8) : getL B k ∈ B.ls ∨ getL B k = [] := by
 unfold getL Bk.get?
 cases hk : ix B.ks k with
 | none => exact .inr rfl
 | some i =>
  left
  have hi : i < B.ls.length := by rw [hB.l2, ← hB.l1]; exact d6o hk
  simp only [Option.map_some, Option.getD_some]
  rw [List.getD_eq_getElem?_getD, List.getElem?_eq_getElem hi]
  exact List.getElem_mem hi
theorem d6W {α : Type} (f : α → List UInt8) (c : Nat) (l : List α) (h : ∀ x ∈ l, (f x).length ≤ c) : (l.flatMap f).length ≤ l.length * c := by
 rw [List.length_flatMap]
 exact d4K (fun x => (f x).length) c l h
theorem d6F {B : Bk} (h : GoodB B) : TxOk B := by
 have hg : ∀ k, (getL B k).length ≤ 12 ∧ ∀ r ∈ getL B k, r.length ≤ 12 ∧ Vok 4194304 r := fun k => by
  rcases d9L h.ok k with h1 | h1
  ·exact ⟨(h.mat _ h1).len, (h.mat _ h1).row⟩
  ·rw [h1]; exact ⟨by simp, fun r hr => nomatch hr⟩
 refine ⟨by rw [← h.ok.l1]; exact Nat.le_trans h.n (by omega), fun k => ⟨by have := (hg k).1; omega, fun r hr => ⟨((hg k).2 r hr).2.mono (by omega), by have := d4D ((hg k).2 r hr); omega⟩⟩, fun k hk => by have := c5m (h.key k hk); omega, ?_⟩
 unfold c0U a3D
 have hl : ∀ k ∈ a0S B, (latT k (getL B k)).length ≤ 6039798600 := fun k hk => by
  have h1 := c5m (h.key k (c5l hk))
  have h2 : (a6K (getL B k)).length ≤ 12 * 503316542 := by
   unfold a6K
   refine Nat.le_trans (d6W rowT 503316542 (getL B k) fun r hr => ?_) (Nat.mul_le_mul_right _ (hg k).1)
   have := d4D ((hg k).2 r hr)
   simp only [rowT, List.length_cons, List.length_append, List.length_nil]
   omega
  have e1 : sLat.length = 8 := rfl
  have e2 : sEnd.length = 4 := rfl
  generalize hR : (a6K (getL B k)).length = n at h2
  have e3 : (latT k (getL B k)).length = 8 + k.length + 1 + (n + 4) := by unfold latT; simp only [List.length_append, List.length_cons, List.length_nil, e1, e2, hR]
  rw [e3]
  omega
 have h4 := d6W (fun k => latT k (getL B k)) 6039798600 (a0S B) hl
 have h5 : (a0S B).length ≤ 64 := by unfold a0S; rw [b5F]; exact h.n
 have : (a0S B).length * 6039798600 ≤ 64 * 6039798600 := Nat.mul_le_mul_right _ h5
 omega
theorem d6I {m : List (List ZI)} (h : putE m = 0) (hm : Mok 4194304 m) : GoodM (a8z m) := by
 obtain ⟨h1, h2, h3, h4, h5⟩ := d8W h
 refine ⟨by rw [a9q]; exact h1, fun r hr => ?_, (c1i m).2 h3, e0o m, by rw [d8Z]; exact h⟩
 obtain ⟨i, hi, rfl⟩ := List.mem_iff_getElem.1 hr
 have e : (a8z m)[i] = mg (a8z m) i := (b0c hi).symm
 rw [a9q] at hi
 rw [e, d0a]
 have hr' := hm.get hi
 rw [← b0c hi] at hr'
 refine ⟨by rw [a0J, b0c hi]; exact h4 _ (List.getElem_mem hi), e1o hr'.len fun k _ => hr'.abs k⟩
theorem e0u : GoodB bk0 := ⟨d7I, by simp [bk0], (fun k hk => nomatch hk), (fun l hl => nomatch hl)⟩
theorem e4J {B : Bk} (k : List UInt8) (l : List (List ZI)) : (B.put k l).ks = (match ix B.ks k with
  | some _ => B.ks
  | none => B.ks ++ [k]) ∧ ∀ x ∈ (B.put k l).ls, x ∈ B.ls ∨ x = l := by
 unfold Bk.put
 cases ix B.ks k with
 | some i => exact ⟨rfl, fun x hx => List.mem_or_eq_of_mem_set hx⟩
 | none => exact ⟨rfl, fun x hx => by simpa using hx⟩
theorem d9K {B : Bk} (h : GoodB B) {k : List UInt8} (hk : (B.get? k).isSome = true ∨ (a2x k = true ∧ B.ks.length < 64)) {m : List (List ZI)} (hm : Mok 4194304 m) : GoodB (putB B k m) := by
 unfold putB
 split
 ·rename_i h0
  obtain ⟨e1, e2⟩ := e4J (B := B) k (a8z m)
  have hks : (B.put k (a8z m)).ks = B.ks ∨ ((B.put k (a8z m)).ks = B.ks ++ [k] ∧ a2x k = true ∧ B.ks.length < 64) := by
   rw [e1]
   cases hx : ix B.ks k with
   | some i => exact .inl rfl
   | none =>
    right
    rcases hk with hk | hk
    ·unfold Bk.get? at hk; rw [hx] at hk; cases hk
    ·exact ⟨rfl, hk⟩
  refine ⟨h.ok.put _ _, ?_, ?_, fun l hl => ?_⟩
  ·rcases hks with e | ⟨e, _, h2⟩
   ·rw [e]; exact h.n
   ·rw [e]; simp; omega
  ·rcases hks with e | ⟨e, h1, _⟩
   ·rw [e]; exact h.key
   ·rw [e]
    intro x hx
    rcases List.mem_append.1 hx with hx | hx
    ·exact h.key x hx
    ·simp at hx; subst hx; exact h1
  ·rcases e2 l hl with hl | rfl
   ·exact h.mat l hl
   ·exact d6I h0 hm
 ·exact h
theorem d6G {s s' : RS} (hI : RInv s) (hg : GoodB s.B) (hin : s.inn = true → a2x s.nm = true ∧ s.B.ks.length < 64) {line : List UInt8} (e : a2P s line = .inl s') : GoodB s'.B ∧ (s'.inn = true → a2x s'.nm = true ∧ s'.B.ks.length < 64) := by
 unfold a2P at e
 split at e
 ·cases e; exact ⟨hg, hin⟩
 ·split at e
  ·rename_i hi
   split at e
   ·split at e
    ·cases e
     exact ⟨d9K hg (.inr (hin hi)) (hI.mok.mono (by omega)), by intro h; cases h⟩
    ·cases e
   ·split at e
    ·cases e; exact ⟨hg, fun _ => hin hi⟩
    ·cases e
  ·split at e
   ·rename_i h0
    cases e
    unfold outE at h0
    split at h0
    ·cases h0
    ·have := c4f h0
     exact ⟨hg, fun _ => ⟨this.1, this.2.2⟩⟩
   ·cases e
theorem d1K : ∀ (ls : List (List UInt8)) (s s' : RS) (n n' : Nat), RInv s → GoodB s.B → (s.inn = true → a2x s.nm = true ∧ s.B.ks.length < 64) → (∀ l ∈ ls, l.length ≤ 262144) → s.m.length + ls.length < 2097152 → runR s n ls = .inl (s', n') → GoodB s'.B
 | [], s, s', n, n', _, hg, _, _, _, h => by simp only [runR] at h; cases h; exact hg
 | line :: ls, s, s', n, n', hI, hg, hin, hl, hm, h => by
  simp only [runR] at h
  cases hs : a2P s line with
  | inr e => rw [hs] at h; cases h
  | inl s1 =>
   rw [hs] at h
   simp only [List.length_cons] at hm
   obtain ⟨i1, i2⟩ := c7D hI (hl line (by simp)) (by omega) hs
   obtain ⟨g1, g2⟩ := d6G hI hg hin hs
   exact d1K ls s1 s' (n + 1) n' i1 g1 g2 (fun l hl' => hl l (by simp [hl'])) (by omega) h
theorem c5y : ∀ (n : Nat) (l : List UInt8), l.length ≤ n → (b0f n l).length ≤ l.length ∧ ∀ x ∈ b0f n l, x.length ≤ l.length
 | 0, l, _ => ⟨by simp [b0f], fun x hx => by simp [b0f] at hx⟩
 | n + 1, l, h => by
  simp only [b0f]
  by_cases hl : l = []
  ·rw [if_pos hl]; exact ⟨by simp, fun x hx => nomatch hx⟩
  ·rw [if_neg hl]
   have h1 := c6P 10 hl
   obtain ⟨h2, h3⟩ := c5y n (cutB 10 l) (by omega)
   refine ⟨by rw [List.length_cons]; omega, fun x hx => ?_⟩
   rcases List.mem_cons.1 hx with rfl | hx
   ·exact d7u 10 l
   ·have := h3 x hx; omega
theorem d6H {text : List UInt8} {B : Bk} (h : b1K text = .inl B) : GoodB B := by
 unfold b1K at h
 split at h
 ·cases h
 ·rename_i hl
  cases hr : runR rs0 0 (a2y text) with
  | inr p => rw [hr] at h; cases h
  | inl p =>
   obtain ⟨s, n⟩ := p
   rw [hr] at h
   have hf : (if s.inn = true then (.inr (n + 1, 4) : Sum Bk (Nat × Int)) else .inl s.B) = .inl B := h
   obtain ⟨l1, l2⟩ := c5y text.length text (Nat.le_refl _)
   split at hf
   ·cases hf
   ·cases hf
    exact d1K (a2y text) rs0 s 0 n d5p e0u (by intro h; cases h) (fun x hx => by have := l2 x hx; omega) (by unfold a2y; simp [rs0]; omega) hr
end Go.Abs
namespace Go.Abs
open Go.Proofs
theorem e3u {a : List UInt8} (h : 10 ∉ a) (b : List UInt8) : cutA 10 (a ++ 10 :: b) = a ∧ cutB 10 (a ++ 10 :: b) = b := by
 induction a with
 | nil => simp [cutA, cutB]
 | cons x a ih =>
  simp only [List.mem_cons, not_or] at h
  obtain ⟨i1, i2⟩ := ih h.2
  have hx : (x != 10) = true := by simp; exact fun e => h.1 e.symm
  unfold cutA cutB at *
  simp only [List.cons_append, List.takeWhile_cons, List.dropWhile_cons, hx, if_true]
  exact ⟨by rw [i1], i2⟩
theorem c8N : ∀ (l : List UInt8), 10 ∈ l → l = cutA 10 l ++ 10 :: cutB 10 l ∧ 10 ∉ cutA 10 l
 | [], h => nomatch h
 | x :: l, h => by
  by_cases hx : x = 10
  ·subst hx; simp [cutA, cutB]
  ·have hx' : (x != 10) = true := by simpa using hx
   have hl : 10 ∈ l := by
    rcases List.mem_cons.1 h with h | h
    ·exact absurd h.symm hx
    ·exact h
   obtain ⟨h1, h2⟩ := c8N l hl
   unfold cutA cutB at *
   simp only [List.takeWhile_cons, List.dropWhile_cons, hx', if_true, List.cons_append]
   refine ⟨by rw [← h1], ?_⟩
   simp only [List.mem_cons, not_or]
   exact ⟨fun e => hx e.symm, h2⟩
theorem b3u {a : List UInt8} (h : 10 ∉ a) (b : List UInt8) : a2y (a ++ 10 :: b) = a :: a2y b := by
 obtain ⟨h1, h2⟩ := e3u h b
 rw [c2L (by simp), h1, h2]
theorem c2K : ∀ (n : Nat) (a b : List UInt8), a.length ≤ n → a2y ((a ++ [10]) ++ b) = a2y (a ++ [10]) ++ a2y b
 | n, a, b, hn => by
  by_cases h : 10 ∈ a
  ·obtain ⟨h1, h2⟩ := c8N a h
   generalize cutA 10 a = x at h1 h2
   generalize cutB 10 a = y at h1
   subst h1
   have hlen : y.length < n := by simp at hn; omega
   match n, hlen with
   | n + 1, hlen =>
    have e1 : ((x ++ 10 :: y) ++ [10]) ++ b = x ++ 10 :: ((y ++ [10]) ++ b) := by simp
    have e2 : (x ++ 10 :: y) ++ [10] = x ++ 10 :: (y ++ [10]) := by simp
    rw [e1, e2, b3u h2, b3u h2, c2K n y b (by omega)]
    rfl
  ·have e1 : (a ++ [10]) ++ b = a ++ 10 :: b := by simp
   have e2 : a ++ [10] = a ++ 10 :: [] := rfl
   rw [e1, b3u h, e2, b3u h]
   rfl
theorem c9G : ∀ (l1 l2 : List (List UInt8)) (s : RS) (n : Nat), runR s n (l1 ++ l2) = match runR s n l1 with
  | .inl (s', n') => runR s' n' l2
  | .inr p => .inr p
 | [], l2, s, n => rfl
 | x :: l1, l2, s, n => by
  simp only [List.cons_append, runR]
  cases a2P s x with
  | inr e => rfl
  | inl s1 => exact c9G l1 l2 s1 (n + 1)
theorem d5o : ∀ (l : List (List UInt8)) (s s' : RS) (n n' k : Nat), runR s n l = .inl (s', n') → runR s (n + k) l = .inl (s', n' + k)
 | [], s, s', n, n', k, h => by simp only [runR] at h ⊢; cases h; rfl
 | x :: l, s, s', n, n', k, h => by
  simp only [runR] at h ⊢
  cases hx : a2P s x with
  | inr e => rw [hx] at h; cases h
  | inl s1 =>
   rw [hx] at h
   have := d5o l s1 s' (n + 1) n' k h
   rw [show n + 1 + k = n + k + 1 from by omega] at this
   exact this
theorem d8N {A B remark : List UInt8} (hA : A = [] ∨ ∃ a, A = a ++ [10]) (hr : 10 ∉ remark) {s : RS} {n : Nat} (h : runR rs0 0 (a2y (A ++ B)) = .inl (s, n)) : ∃ n', runR rs0 0 (a2y (A ++ [35] ++ remark ++ [10, 10] ++ B)) = .inl (s, n') := by
 have e0 : a2y ([35] ++ remark ++ [10, 10] ++ B) = (35 :: remark) :: [] :: a2y B := by
  have : [35] ++ remark ++ [10, 10] ++ B = (35 :: remark) ++ 10 :: ([] ++ 10 :: B) := by simp
  rw [this, b3u (by simp only [List.mem_cons, not_or]; exact ⟨by decide, hr⟩), b3u (by simp)]
 have s1 : ∀ t : RS, a2P t (35 :: remark) = .inl t := fun t => by unfold a2P; rw [if_pos (.inr rfl)]
 have s2 : ∀ t : RS, a2P t [] = .inl t := fun t => by unfold a2P; rw [if_pos (.inl rfl)]
 have key : ∀ (t : RS) (k : Nat), runR t k (a2y B) = .inl (s, n) → runR t k (a2y ([35] ++ remark ++ [10, 10] ++ B)) = .inl (s, n + 2) := fun t k hk => by
  rw [e0]
  simp only [runR, s1, s2]
  exact d5o _ _ _ _ _ 2 hk
 rcases hA with rfl | ⟨a, rfl⟩
 ·exact ⟨n + 2, key rs0 0 h⟩
 ·have e1 : (a ++ [10]) ++ [35] ++ remark ++ [10, 10] ++ B = (a ++ [10]) ++ ([35] ++ remark ++ [10, 10] ++ B) := by simp
  rw [e1, c2K a.length a _ (Nat.le_refl _), c9G]
  rw [c2K a.length a _ (Nat.le_refl _), c9G] at h
  cases h2 : runR rs0 0 (a2y (a ++ [10])) with
  | inr p => rw [h2] at h; cases h
  | inl p =>
   obtain ⟨t, k⟩ := p
   rw [h2] at h
   exact ⟨n + 2, key t k h⟩
theorem d5t {A B remark : List UInt8} (hA : A = [] ∨ ∃ a, A = a ++ [10]) (hr : 10 ∉ remark) (hl : (A ++ B).length + remark.length + 3 ≤ 262144) {K : Bk} (h : b1K (A ++ B) = .inl K) : b1K (A ++ [35] ++ remark ++ [10, 10] ++ B) = .inl K := by
 unfold b1K at h ⊢
 rw [if_neg (by omega)] at h
 rw [if_neg (by simp at hl ⊢; omega)]
 cases h1 : runR rs0 0 (a2y (A ++ B)) with
 | inr p => rw [h1] at h; cases h
 | inl p =>
  obtain ⟨s, n⟩ := p
  rw [h1] at h
  obtain ⟨n', h2⟩ := d8N hA hr h1
  rw [h2]
  have hf : (if s.inn = true then (.inr (n + 1, 4) : Sum Bk (Nat × Int)) else .inl s.B) = .inl K := h
  show (if s.inn = true then (.inr (n' + 1, 4) : Sum Bk (Nat × Int)) else .inl s.B) = .inl K
  split at hf
  ·cases hf
  ·rename_i hi
   rw [if_neg hi]; exact hf
theorem d8r {s : RS} {line : List UInt8} {e : Int} (h : a2P s line = .inr e) : e ≠ 0 := by
 unfold a2P at h
 split at h
 ·cases h
 ·split at h
  ·split at h
   ·split at h
    ·cases h
    ·rename_i h0; cases h; exact h0
   ·split at h
    ·cases h
    ·cases h; decide
  ·split at h
   ·cases h
   ·rename_i h0; cases h; exact h0
theorem d5n : ∀ (l : List (List UInt8)) (s : RS) (n k : Nat) (e : Int), runR s n l = .inr (k, e) → e ≠ 0
 | [], s, n, k, e, h => by simp only [runR] at h; cases h
 | x :: l, s, n, k, e, h => by
  simp only [runR] at h
  cases hx : a2P s x with
  | inl s1 => rw [hx] at h; exact d5n l s1 (n + 1) k e h
  | inr e' => rw [hx] at h; cases h; exact d8r hx
theorem d8R {text : List UInt8} {k : Nat} {e : Int} (h : b1K text = .inr (k, e)) : e ≠ 0 := by
 unfold b1K at h
 split at h
 ·cases h; decide
 ·cases h1 : runR rs0 0 (a2y text) with
  | inr p =>
   rw [h1] at h
   cases h
   exact d5n _ _ _ _ _ h1
  | inl p =>
   obtain ⟨s, n⟩ := p
   rw [h1] at h
   have hf : (if s.inn = true then (.inr (n + 1, 4) : Sum Bk (Nat × Int)) else .inl s.B) = .inr (k, e) := h
   split at hf
   ·cases hf; decide
   ·cases hf
theorem d8Q {text : List UInt8} {B : Bk} (h : b1K text = .inl B) : text.length ≤ 262144 := by
 unfold b1K at h
 split at h
 ·cases h
 ·omega
def cutS (text : List UInt8) (r : Int) : Nat → Nat × Nat
 | 0 => (0, 0)
 | i + 1 => if text.getD i 0 = 10 ∧ ((cutS text r i).2 : Int) ≤ r then (i + 1, (cutS text r i).2 + 1) else cutS text r i
theorem d0L (text : List UInt8) (r : Int) : ∀ i, (cutS text r i).1 ≤ i ∧ (cutS text r i).2 ≤ i
 | 0 => ⟨Nat.le_refl _, Nat.le_refl _⟩
 | i + 1 => by
  have := d0L text r i
  simp only [cutS]
  split
  ·simp only; omega
  ·omega
theorem d7t (text : List UInt8) (r : Int) : ∀ i, (cutS text r i).1 = 0 ∨ ∃ j, (cutS text r i).1 = j + 1 ∧ text.getD j 0 = 10
 | 0 => .inl rfl
 | i + 1 => by
  simp only [cutS]
  split
  ·rename_i h; exact .inr ⟨i, rfl, h.1⟩
  ·exact d7t text r i
theorem e1F {text : List UInt8} {c : Nat} (h : c = 0 ∨ ∃ j, c = j + 1 ∧ text.getD j 0 = 10) : text.take c = [] ∨ ∃ a, text.take c = a ++ [10] := by
 rcases h with rfl | ⟨j, rfl, hj⟩
 ·exact .inl rfl
 ·right
  have hlt : j < text.length := by
   rcases Nat.lt_or_ge j text.length with h | h
   ·exact h
   ·rw [List.getD_eq_getElem?_getD, List.getElem?_eq_none h] at hj; cases hj
  refine ⟨text.take j, ?_⟩
  rw [List.take_succ_eq_append_getElem hlt]
  congr 2
  rw [List.getD_eq_getElem?_getD, List.getElem?_eq_getElem hlt] at hj
  exact hj
end Go.Abs
namespace Go.Abs
open Go.Proofs
noncomputable abbrev rsX (H : Heap) : Cx := ⟨Pr, fun _ k => k == 11, a5Q, 108, [.tmp 6], H.length⟩
abbrev rsTl : List AItem := [.code (.seq (.seq (.region a1A false) (.cond (.t 51) (.seq (.region a2b false) (.ret)) (.skip))) (.seq (.region a3B false) (.seq (.region a3A false) (.seq (.seq (.region a3z false) (.block 2 (.loop a3P))) (.seq (.region a1Y true) (.seq (.region a1X false) (.ret)))))))]
theorem c1g {H G : Heap} {text remark : List UInt8} {at' : Int} {b : AV} {e : Int} (hb : ∃ c, isnV true false G b = some (.bool c) ∧ (e = 0 ∨ c = true)) (hr : remark.length ≤ 140737488355328) {R : AV → Heap → Prop} (hR : R (.bool true) G)
  (h : 10 ∉ remark → Safe (rsX H) rsTl [(0, strU text), (1, strU remark), (2, .int .u16 at'), (7, b), (9, .int .i64 e)] G R) :
  Safe (rsX H) (.inLoop a8y :: .inBlock 0 :: rsTl) [(0, strU text), (1, strU remark), (2, .int .u16 at'), (7, b), (9, .int .i64 e), (10, .int .i64 0)] G R := by
 obtain ⟨c, hc, hec⟩ := hb
 refine Safe.loopP remark.length (fun i => [(0, strU text), (1, strU remark), (2, .int .u16 at'), (7, b), (9, .int .i64 e), (10, .int .i64 (i : Nat))]) (fun _ => G) (fun i => ∀ j, j < i → remark.getD j 0 ≠ 10) rfl rfl (fun j hj => absurd hj (by omega)) (fun i hi ho ih => ?_) (fun ho => ?_)
 ·have hlt : ((i : Int) < (remark.length : Int)) = True := eq_true (by omega)
  have hiw : IntKind.wrap .i64 ((i : Int) + 1) = ((i + 1 : Nat) : Int) := by rw [a0e] <;> omega
  have hix := b3x remark .i64 hi
  refine Safe.inLoop ?_
  refine Safe.rg rfl ?_
  simp only [a3N, a0p, hlt, E3, a0b, a0c, a0d, a0a, seval]
  refine Safe.cd rfl ?_
  simp only [E3, a0b, a0c, a0d, a0a, seval]
  by_cases h10 : remark.getD i 0 = 10
  ·have e1 : (((remark.getD i 0).toNat : Int) = 10) = True := eq_true (by rw [h10]; rfl)
   refine Safe.rg rfl ?_
   simp only [a3M, hix, e1, E3, a0b, a0c, a0d, a0a, seval]
   refine Safe.cd rfl ?_
   simp only [E3, a0b, a0c, a0d, a0a, seval]
   by_cases h0 : e = 0
   ·subst h0
    refine Safe.rg rfl ?_
    simp only [a3L, hc, E3, a0b, a0c, a0d, a0a, seval]
    refine Safe.rt rfl ?_
    simp only [E3, a0b, a0c, a0d, a0a, seval]
    exact hR
   ·have hne : (e = 0) = False := eq_false h0
    have hct : c = true := hec.resolve_left h0
    subst hct
    refine Safe.rg rfl ?_
    simp only [a3L, hc, hne, E3, a0b, a0c, a0d, a0a, seval]
    refine Safe.rt rfl ?_
    simp only [E3, a0b, a0c, a0d, a0a, seval]
    exact hR
  ·have e1 : (((remark.getD i 0).toNat : Int) = 10) = False := eq_false (fun h => h10 (by
    have h2 : (remark.getD i 0).toNat = 10 := by omega
    exact UInt8.toNat_inj.1 h2))
   refine Safe.rg rfl ?_
   simp only [a3M, hix, e1, E3, a0b, a0c, a0d, a0a, seval]
   refine Safe.cd rfl ?_
   simp only [E3, a0b, a0c, a0d, a0a, seval]
   refine Safe.rg rfl ?_
   simp only [a8u, hiw, E3, a0b, a0c, a0d, a0a, seval]
   refine Safe.keep [0, 1, 2, 7, 9, 10] ?_
   simp only [E3, a0b, a0c, a0d, a0a, seval]
   exact ih fun j hj => by
    rcases Nat.lt_or_ge j i with h | h
    ·exact ho j h
    ·have : j = i := by omega
     subst this; exact h10
 ·have hlt : ((remark.length : Int) < (remark.length : Int)) = False := eq_false (by omega)
  refine Safe.inLoop ?_
  refine Safe.rg rfl ?_
  simp only [a3N, a0p, hlt, E3, a0b, a0c, a0d, a0a, seval]
  refine Safe.cd rfl ?_
  simp only [E3, a0b, a0c, a0d, a0a, seval]
  refine Safe.keep [0, 1, 2, 7, 9] ?_
  simp only [E3, a0b, a0c, a0d, a0a, seval]
  refine Safe.exit rfl (h fun hm => ?_)
  obtain ⟨j, hj, hj2⟩ := List.mem_iff_getElem.1 hm
  exact ho j hj (by rw [List.getD_eq_getElem?_getD, List.getElem?_eq_getElem hj]; exact hj2)
abbrev rsT2 : List AItem := [.code (.seq (.region a1Y true) (.seq (.region a1X false) (.ret)))]
theorem c7P {H G : Heap} {text remark : List UInt8} {at' : Int} (hat : 0 ≤ at' ∧ at' < 65536) {b : AV} (ht : text.length ≤ 262144) {R : AV → Heap → Prop}
  (h : Safe (rsX H) rsT2 [(0, strU text), (1, strU remark), (7, b), (11, .int .i64 (cutS text (at' % 20) text.length).1)] G R) :
  Safe (rsX H) (.inLoop a3P :: .inBlock 2 :: rsT2) [(0, strU text), (1, strU remark), (2, .int .u16 at'), (7, b), (11, .int .i64 0), (12, .int .i64 0), (13, .int .i64 0)] G R := by
 have hmod : 0 ≤ at' % 20 ∧ at' % 20 < 20 := ⟨Int.emod_nonneg _ (by decide), Int.emod_lt_of_pos _ (by decide)⟩
 have hrem : binV .rem (.int .u16 at') (.int .u16 20) = some (.int .u16 (at' % 20)) := by
  simp only [binV, a5b, ↓reduceIte]
  rw [if_neg (by decide), Int.tmod_eq_emod_of_nonneg hat.1]
 have hw64 : IntKind.wrap .i64 (at' % 20) = at' % 20 := by rw [a0e] <;> omega
 refine Safe.loopN text.length (fun i => [(0, strU text), (1, strU remark), (2, .int .u16 at'), (7, b), (11, .int .i64 (cutS text (at' % 20) i).1), (12, .int .i64 (cutS text (at' % 20) i).2), (13, .int .i64 (i : Nat))]) (fun _ => G) rfl rfl (fun i hi ih => ?_) ?_
 ·have hlt : ((i : Int) < (text.length : Int)) = True := eq_true (by omega)
  have hiw : IntKind.wrap .i64 ((i : Int) + 1) = ((i + 1 : Nat) : Int) := by rw [a0e] <;> omega
  have hix := b3x text .i64 hi
  obtain ⟨c1, c2⟩ := d0L text (at' % 20) i
  refine Safe.inLoop ?_
  refine Safe.rg rfl ?_
  simp only [a3y, a0p, hlt, E3, a0b, a0c, a0d, a0a, seval]
  refine Safe.cd rfl ?_
  simp only [E3, a0b, a0c, a0d, a0a, seval]
  by_cases h10 : text.getD i 0 = 10
  ·have e1 : (((text.getD i 0).toNat : Int) = 10) = True := eq_true (by rw [h10]; rfl)
   by_cases hs : ((cutS text (at' % 20) i).2 : Int) ≤ at' % 20
   ·have e2 : (((cutS text (at' % 20) i).2 : Int) ≤ at' % 20) = True := eq_true hs
    have hcs : cutS text (at' % 20) (i + 1) = (i + 1, (cutS text (at' % 20) i).2 + 1) := by simp only [cutS]; rw [if_pos ⟨h10, hs⟩]
    have hw2 : IntKind.wrap .i64 (((cutS text (at' % 20) i).2 : Int) + 1) = (((cutS text (at' % 20) i).2 + 1 : Nat) : Int) := by rw [a0e] <;> omega
    rw [hcs] at ih
    refine Safe.rg rfl ?_
    simp only [a2a, hix, e1, hrem, hw64, e2, E3, a0b, a0c, a0d, a0a, seval]
    refine Safe.cd rfl ?_
    simp only [E3, a0b, a0c, a0d, a0a, seval]
    refine Safe.rg rfl ?_
    simp only [a7q, hiw, E3, a0b, a0c, a0d, a0a, seval]
    refine Safe.rg rfl ?_
    simp only [a7p, hw2, E3, a0b, a0c, a0d, a0a, seval]
    refine Safe.rg rfl ?_
    simp only [a1Z, hiw, E3, a0b, a0c, a0d, a0a, seval]
    refine Safe.keep [0, 1, 2, 7, 11, 12, 13] ?_
    simp only [E3, a0b, a0c, a0d, a0a, seval]
    exact ih
   ·have e2 : (((cutS text (at' % 20) i).2 : Int) ≤ at' % 20) = False := eq_false hs
    have hcs : cutS text (at' % 20) (i + 1) = cutS text (at' % 20) i := by simp only [cutS]; rw [if_neg fun h => hs h.2]
    rw [hcs] at ih
    refine Safe.rg rfl ?_
    simp only [a2a, hix, e1, hrem, hw64, e2, E3, a0b, a0c, a0d, a0a, seval]
    refine Safe.cd rfl ?_
    simp only [E3, a0b, a0c, a0d, a0a, seval]
    refine Safe.rg rfl ?_
    simp only [a1Z, hiw, E3, a0b, a0c, a0d, a0a, seval]
    refine Safe.keep [0, 1, 2, 7, 11, 12, 13] ?_
    simp only [E3, a0b, a0c, a0d, a0a, seval]
    exact ih
  ·have e1 : (((text.getD i 0).toNat : Int) = 10) = False := eq_false (fun h => h10 (by
    have h2 : (text.getD i 0).toNat = 10 := by omega
    exact UInt8.toNat_inj.1 h2))
   have hcs : cutS text (at' % 20) (i + 1) = cutS text (at' % 20) i := by simp only [cutS]; rw [if_neg fun h => h10 h.1]
   rw [hcs] at ih
   refine Safe.rg rfl ?_
   simp only [a2a, hix, e1, E3, a0b, a0c, a0d, a0a, seval]
   refine Safe.cd rfl ?_
   simp only [E3, a0b, a0c, a0d, a0a, seval]
   refine Safe.rg rfl ?_
   simp only [a1Z, hiw, E3, a0b, a0c, a0d, a0a, seval]
   refine Safe.keep [0, 1, 2, 7, 11, 12, 13] ?_
   simp only [E3, a0b, a0c, a0d, a0a, seval]
   exact ih
 ·have hlt : ((text.length : Int) < (text.length : Int)) = False := eq_false (by omega)
  refine Safe.inLoop ?_
  refine Safe.rg rfl ?_
  simp only [a3y, a0p, hlt, E3, a0b, a0c, a0d, a0a, seval]
  refine Safe.cd rfl ?_
  simp only [E3, a0b, a0c, a0d, a0a, seval]
  refine Safe.keep [0, 1, 7, 11] ?_
  simp only [E3, a0b, a0c, a0d, a0a, seval]
  exact Safe.exit rfl h
theorem c3P (text remark : List UInt8) (at' : Int) (hat : 0 ≤ at' ∧ at' < 65536) (hr : remark.length ≤ 140737488355328) : a0g Pr a5Q [strU text, strU remark, .int .u16 at'] (.bool true) := by
 refine a0g.intro b4V b4U (Nat.le_of_ble_eq_true rfl) (.bool _) fun H hH => ?_
 refine Safe.rg rfl ?_
 simp only [a8x, E3, a0b, a0c, a0d, a0a, seval]
 refine Safe.rg rfl ?_
 simp only [a8w, E3, a0b, a0c, a0d, a0a, seval]
 first | refine (b7Y).acall ?_ | refine (b7Y).dcall ?_ | refine (b7Y).dgcall ?_
 try simp only [E3, a0b, a0c, a0d, a0a, seval]
 refine Safe.cd rfl ?_
 simp only [E3, a0b, a0c, a0d, a0a, seval]
 refine Safe.heq (a1J H) ?_
 refine Safe.rg rfl ?_
 simp only [a8v, E3, a0b, a0c, a0d, a0a, seval]
 refine (c9J H text).mono fun r' H' hr' => ?_
 cases hv : b1K text with
 | inr p =>
  obtain ⟨n, e⟩ := p
  rw [hv] at hr'
  obtain ⟨rfl, L, rfl⟩ := hr'
  have hne : (e = 0) = False := eq_false (d8R hv)
  have hnil : isnV true false (hap H L) nilP = some (.bool true) := rfl
  simp only [E3, a0b, a0c, a0d, a0a, seval]
  refine Safe.rg rfl ?_
  simp only [a3O, E3, a0b, a0c, a0d, a0a, seval]
  refine Safe.lp rfl ?_
  refine Safe.keep [0, 1, 2, 7, 9, 10] ?_
  simp only [E3, a0b, a0c, a0d, a0a, seval]
  refine c1g ⟨true, hnil, .inr rfl⟩ hr ⟨rfl, L, rfl⟩ fun _ => ?_
  refine Safe.rg rfl ?_
  simp only [a1A, hne, E3, a0b, a0c, a0d, a0a, seval]
  refine Safe.cd rfl ?_
  simp only [E3, a0b, a0c, a0d, a0a, seval]
  refine Safe.rg rfl ?_
  simp only [a2b, hne, hnil, E3, a0b, a0c, a0d, a0a, seval]
  refine Safe.rt rfl ?_
  simp only [E3, a0b, a0c, a0d, a0a, seval]
  exact ⟨_, rfl⟩
 | inl B =>
  rw [hv] at hr'
  obtain ⟨rfl, rfl, hB⟩ := hr'
  have hlen := d8Q hv
  have hgood := d6H hv
  have hisn := d6q (c8X (H := H) hB)
  simp only [E3, a0b, a0c, a0d, a0a, seval]
  refine Safe.rg rfl ?_
  simp only [a3O, E3, a0b, a0c, a0d, a0a, seval]
  refine Safe.lp rfl ?_
  refine Safe.keep [0, 1, 2, 7, 9, 10] ?_
  simp only [E3, a0b, a0c, a0d, a0a, seval]
  refine c1g ⟨false, hisn false, .inl rfl⟩ hr ⟨rfl, _, rfl⟩ fun hno => ?_
  have hw1 : IntKind.wrap .i64 ((text.length : Int) + (remark.length : Int)) = ((text.length + remark.length : Nat) : Int) := by rw [a0e] <;> omega
  have hw2 : IntKind.wrap .i64 (((text.length + remark.length : Nat) : Int) + 3) = ((text.length + remark.length + 3 : Nat) : Int) := by rw [a0e] <;> omega
  by_cases hbig : 262144 < text.length + remark.length + 3
  ·have hgt : (((text.length + remark.length + 3 : Nat) : Int) > 262144) = True := eq_true (by omega)
   refine Safe.rg rfl ?_
   simp only [a1A, a0p, hw1, hw2, hgt, E3, a0b, a0c, a0d, a0a, seval]
   refine Safe.cd rfl ?_
   simp only [E3, a0b, a0c, a0d, a0a, seval]
   refine Safe.rg rfl ?_
   simp only [a2b, E3, a0b, a0c, a0d, a0a, seval]
   refine Safe.rt rfl ?_
   simp only [E3, a0b, a0c, a0d, a0a, seval]
   exact ⟨_, rfl⟩
  ·have hgt : (((text.length + remark.length + 3 : Nat) : Int) > 262144) = False := eq_false (by omega)
   refine Safe.rg rfl ?_
   simp only [a1A, a0p, hw1, hw2, hgt, E3, a0b, a0c, a0d, a0a, seval]
   refine Safe.cd rfl ?_
   simp only [E3, a0b, a0c, a0d, a0a, seval]
   refine Safe.rg rfl ?_
   simp only [a3B, E3, a0b, a0c, a0d, a0a, seval]
   refine Safe.rg rfl ?_
   simp only [a3A, E3, a0b, a0c, a0d, a0a, seval]
   refine Safe.rg rfl ?_
   simp only [a3z, E3, a0b, a0c, a0d, a0a, seval]
   refine Safe.lp rfl ?_
   refine Safe.keep [0, 1, 2, 7, 11, 12, 13] ?_
   simp only [E3, a0b, a0c, a0d, a0a, seval]
   refine c7P hat hlen ?_
   obtain ⟨c1, _⟩ := d0L text (at' % 20) text.length
   have hA := e1F (d7t text (at' % 20) text.length)
   generalize (cutS text (at' % 20) text.length).1 = c at c1 hA
   have htl : (text.take c).length = c := by rw [List.length_take]; omega
   have hdl : (text.drop c).length = text.length - c := by rw [List.length_drop]
   have q1 := c0c text c c1
   have q2 := c0b text c c1
   have a1 := a4d (text.take c) [35] (by simp; omega)
   have a2 := a4d (text.take c ++ [35]) remark (by simp; omega)
   have a3 := a4d (text.take c ++ [35] ++ remark) [10, 10] (by simp; omega)
   have a4 := a4d (text.take c ++ [35] ++ remark ++ [10, 10]) (text.drop c) (by simp; omega)
   have hrd : b1K (text.take c ++ [35] ++ remark ++ [10, 10] ++ text.drop c) = .inl B := d5t hA hno (by rw [List.take_append_drop]; omega) (by rw [List.take_append_drop]; exact hv)
   have hread := c9J (hap H (bkL H B)) (text.take c ++ [35] ++ remark ++ [10, 10] ++ text.drop c)
   rw [hrd] at hread
   refine Safe.rg rfl ?_
   simp only [a1Y, q1, q2, a1, a2, a3, a4, show AV.str ⟨#[35]⟩ = strU [35] from rfl, show AV.str ⟨#[10, 10]⟩ = strU [10, 10] from rfl, d0C, E3, a0b, a0c, a0d, a0a, seval]
   refine ⟨_, _, hread.mono fun r' H' hr' => ⟨hr'.1, hr'.2.1⟩, ?_⟩
   simp only [E3, a0b, a0c, a0d, a0a, seval]
   refine Safe.heq (c6E H (bkL H B) (bkL (hap H (bkL H B)) B)).symm ?_
   have hin2 := c8X (H := hap H (bkL H B)) hB
   have hin1 := (c8X (H := H) hB).hap (bkL (hap H (bkL H B)) B)
   have ht2 := c9y hin2 (d6F hgood)
   have ht1 := c9y hin1 (d6F hgood)
   have his := d6q hin2 true
   have he : binV .eql (strU (c0U B)) (strU (c0U B)) = some (.bool true) := by rw [a2w]; simp
   refine Safe.keep [7, 14, 16] ?_
   simp only [E3, a0b, a0c, a0d, a0a, seval]
   generalize hG2 : hap (hap H (bkL H B)) (bkL (hap H (bkL H B)) B) = G2 at *
   refine Safe.rg rfl ?_
   simp only [a1X, his, E3, a0b, a0c, a0d, a0a, seval]
   refine ht2.acall ?_
   simp only [E3, a0b, a0c, a0d, a0a, seval]
   refine ht1.acall ?_
   simp only [he, E3, a0b, a0c, a0d, a0a, seval]
   refine Safe.rt rfl ?_
   simp only [E3, a0b, a0c, a0d, a0a, seval]
   exact ⟨_, by rw [← hG2, c6E]⟩
end Go.Abs
namespace Go.Abs
open Go.ChangeShapes Go.WideShapes
open Go.Proofs.YtclecbomkhgflaaGreatDoor.Rows (uptoBulk uptoBulkAll)
section
variable {K : Type} {enc : TypeId × Value → K} {P : Program} {w : World} {base : Nat} {sp : Nat → Bool} {held : Bool}
theorem e2w {φ : Nat → Option Nat} {b : Nat} : ¬ (Emb.mk φ [] w).Mut b := by
 rintro ⟨id, blk, h, _⟩; simp at h
theorem e2G (φ : Nat → Option Nat) (w : World) : HOk ⟨φ, [], w⟩ := ⟨fun id b _ h => by simp at h, fun id b h => by simp at h, fun id b _ h => by simp at h, fun id b h => by simp at h, fun i j b c _ h => by simp at h⟩
structure Stands (w : World) (cs : List Value) (a : AV) : Prop where
 one : ∀ c ∈ cs, c.oneCell' = true
 len : cs.length = a.cells.length
 rep : ∀ (φ : Nat → Option Nat) (k : Nat) v c, cs[k]? = some v → a.cells[k]? = some c → Rep ⟨φ, [], w⟩ v c
structure Types (P : Program) (tm tv tz tb tn te : TypeId) : Prop where
 mat : P.underlying tm = some (.slice tv)
 vec : P.underlying tv = some (.slice tz)
 num : ∃ fs f0 f1, P.underlying tz = some (.struct fs) ∧ fs.toList = [f0, f1] ∧ (f0.type = tb ∧ f0.offset = 0) ∧ (f1.type = tn ∧ f1.offset = 1)
 bool : P.underlying tb = some .bool
 nat : P.underlying tn = some (.slice te)
 u32 : P.underlying te = some (.int .u32)
 cv : P.cellsOf tv = 1
 cz : P.cellsOf tz = 2
 cb : P.cellsOf tb = 1
 cn : P.cellsOf tn = 1
 ce : P.cellsOf te = 1
variable {tm tv tz tb tn te : TypeId}
end
end Go.Abs
namespace Go.Abs
open Go.ChangeShapes Go.WideShapes Go.RowKit
theorem d6h {P : Program} {f : FuncId} {ss : List AV} {r : Bool} (hp : a0g P f ss (.bool r)) {args : Array Value} {W : World} (hl : args.size = ss.length) (hr : ∀ (k : Nat) v a, args.toList[k]? = some v → ss[k]? = some a → Rep ⟨fun _ => none, [], W⟩ v a) :
  Calls P f args W fun e W' => e = .returned (.bool r) ∧ Below W.heap.size W W' := by
 have h := (hp []).2 (fun _ => none) W args.toList (e2G _ _) (by simpa using hl) hr
 rw [Array.toArray_toList] at h
 refine h.mono ?_
 rintro e w' ⟨v, r', φ', H', rfl, ⟨rfl, rfl⟩, q1, q2, q3, q4⟩
 refine ⟨by rw [a1N q2], q4.os, q4.tape, q4.output, q4.size, fun k hk => q4.keep k hk e2w⟩
theorem Below.trodAll {K : Type} {enc : TypeId × Value → K} {P : Program} (hl : laidOutB P = true) {W W' : World} (hb : Below W.heap.size W W') : ∀ {ts : List TypeId} {vs : List Value} {ds : List (DataW K)} {ps : List MemPlace}, (ts.all fun t => P.readableRec t && decide (t < P.types.size)) = true →
  DataW.TrodAll enc P W 0 (fun _ => true) true ts vs ds ps → (∀ x ∈ ps, x.block < W.heap.size) → DataW.TrodAll enc P W' 0 (fun b => decide (b < W.heap.size)) true ts vs ds ps
 | [], [], [], _, _, h, _ => h
 | t :: ts, v :: vs, d :: ds, _, hts, ⟨p, q, h1, h2, e⟩, hlt => by
  simp only [List.all_cons, Bool.and_eq_true, decide_eq_true_eq] at hts
  exact ⟨p, q, Go.RowKit.Below.trod hl hts.1.1 hts.1.2 h1 hb (fun x hx => hlt x (by rw [e]; exact List.mem_append_left _ hx)), Below.trodAll hl hb (by simpa using hts.2) h2 (fun x hx => hlt x (by rw [e]; exact List.mem_append_right _ hx)), e⟩
 | [], _ :: _, _, _, _, h, _ => by simp [DataW.TrodAll] at h
 | [], [], _ :: _, _, _, h, _ => by simp [DataW.TrodAll] at h
 | _ :: _, [], _, _, _, h, _ => by simp [DataW.TrodAll] at h
 | _ :: _, _ :: _, [], _, _, h, _ => by simp [DataW.TrodAll] at h
theorem d8M {K : Type} {enc : TypeId × Value → K} {P : Program} {f : Func} {s : ChangeSpec} {fresh handsOn : Bool} {W W' : World} {args : Array Value} {ds gs : List (DataW K)} {before : List MemPlace} {tb : TypeId}
  (hW : DataW.Whole enc P f.params.toList s.vars false W args.toList ds gs before) (hv : s.vars = []) (hfn : s.fn K ds = { results := [.lit (.bool true)], args := ds }) (ht : f.resultTypes = #[tb]) (htb : P.underlying tb = some .bool)
  (hl : laidOutB P = true) (hts : (f.params.toList.all fun t => P.readableRec t && decide (t < P.types.size)) = true) (hb : Below W.heap.size W W') :
  s.post enc P f false fresh handsOn false W args (.bool true) W' := by
 have hW0 := hW
 obtain ⟨p, q, hA, hV, rfl, hz, hn⟩ := hW
 rw [hv] at hV
 obtain ⟨rfl, rfl⟩ := trodVars_none hV
 have hlt : ∀ x ∈ p, x.block < W.heap.size := fun x hx => by simpa using hW0.lt x (by simpa using hx)
 have hA' := Below.trodAll (enc := enc) hl hb hts hA hlt
 refine ⟨ds, [], p ++ [], [], p, [], hW0, ?_, ?_, ?_, ?_, by simp⟩
 ·rw [List.append_nil, hfn, ht]
  exact trodAll_cons_mk (shut_bool htb true) trodAll_mk0
 ·rw [List.append_nil, hfn]; exact hA'
 ·rw [List.append_nil, hfn, hv]; rfl
 ·refine ⟨hb.os, hb.output, fun i hi => ?_⟩
  have := (World.keptBut_refl W (fun x => x ∈ p ++ [] ∧ (x ∈ [] ∨ x ∈ p ∨ x ∈ []))).2.2 i hi
  rw [hb.block i hi]
  exact this
end Go.Abs
namespace Go.Abs
open Go.ChangeShapes Go.WideShapes Go.RowKit
open Go.Proofs.YtclecbomkhgflaaGreatDoor.Rows (uptoBulk uptoBulkAll)
section
variable {K : Type} {enc : TypeId × Value → K} {P : Program} {w : World} {base : Nat} {sp : Nat → Bool} {held : Bool} {tm tv tz tb tn te : TypeId} {v : Value} {fuel : Nat} {x : DataW K × List MemPlace} {b1 : Nat}
theorem c8O {c : Value} (h : v.cells.toList = [c]) (hn : ∀ cs, v ≠ .agg cs) : v = c := by
 cases v with
 | agg cs => exact absurd rfl (hn cs)
 | _ => exact (List.cons.inj h).1
end
end Go.Abs

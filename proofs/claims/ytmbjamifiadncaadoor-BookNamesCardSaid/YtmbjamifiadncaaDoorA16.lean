/- Counted loops. -/
import Derived.Test.YtmbjamifiadncaaDoorA15
import Derived.Test.YtmbjamifiadncaaDoorA20
set_option linter.unusedVariables false
set_option linter.unusedSimpArgs false
namespace Go.Abs
section
variable {x : Cx} {l : ACode} {todo : List AItem} {R : AV → Heap → Prop}

/-- The structural steps. -/
def stl : Nat → List AItem → List AItem
  | 0, k => k
  | n + 1, .code (.seq a b) :: k => stl n (.code a :: .code b :: k)
  | n + 1, .code .skip :: k => stl n k
  | n + 1, .code (.block id a) :: k => stl n (.code a :: .inBlock id :: k)
  | n + 1, .inBlock _ :: k => stl n k
  | n + 1, .code (.scope a) :: k => stl n (.code a :: .inScope a :: k)
  | n + 1, .inScope _ :: k => stl n k
  | n + 1, .code (.exit id) :: k => match aexit id k with
    | some k' => stl n k'
    | none => .code (.exit id) :: k
  | n + 1, .code (.label _) :: k => stl n k
  | n + 1, .code (.goto l) :: k => match agoto l k with
    | some k' => stl n k'
    | none => .code (.goto l) :: k
  | _, k => k
theorem Safe.stl {env : Env} {H : Heap} : ∀ (n : Nat) (k : List AItem), Safe x (stl n k) env H R → Safe x k env H R := by
  intro n
  induction n with
  | zero => intro k h; cases k <;> exact h
  | succ n ih =>
    intro k h
    unfold Abs.stl at h
    split at h
    · rename_i h0; cases h0
    · rename_i h0; cases h0; exact Safe.seq (ih _ h)
    · rename_i h0; cases h0; exact Safe.skip (ih _ h)
    · rename_i h0; cases h0; exact Safe.block (ih _ h)
    · rename_i h0; cases h0; exact Safe.inBlock (ih _ h)
    · rename_i h0; cases h0; exact Safe.scope (ih _ h)
    · rename_i h0; cases h0; exact Safe.inScope (ih _ h)
    · rename_i h0; cases h0
      split at h
      · rename_i he; exact Safe.exit he (ih _ h)
      · exact h
    · rename_i h0; cases h0; exact Safe.label (ih _ h)
    · rename_i h0; cases h0
      split at h
      · rename_i he; exact Safe.goto he (ih _ h)
      · exact h
    · exact h
theorem Safe.rg {env : Env} {H : Heap} {k k' : List AItem} {b : Bool} {l : List AIns} (e : Abs.stl 40 k = .code (.region l b) :: k')
    (h : if b = true then dops x.P x.n0 l (fun env' H' => Safe x k' env' H' R) env H else aops x.P x.n0 l (fun env' H' => Safe x k' env' H' R) env H) : Safe x k env H R := by
  refine Safe.stl 40 k ?_
  rw [e]
  cases b
  · exact Safe.region h
  · exact Safe.regionD h
theorem Safe.rx {env : Env} {H : Heap} {k k' : List AItem} {p s1 s2 : List AIns} {sd : List (Nat × Nat)} (e : Abs.stl 40 k = .code (.regionX p s1 s2 sd) :: k') (hs : sdOk sd env)
    (h : dops x.P x.n0 p (fun env' H' => dops x.P x.n0 s1 (fun env' H' => Safe x k' env' H' R) env' H' ∧ dops x.P x.n0 s2 (fun env' H' => Safe x k' env' H' R) env' H') env H) : Safe x k env H R := by
  refine Safe.stl 40 k ?_
  rw [e]
  exact Safe.regionX hs h
theorem Safe.cd {env : Env} {H : Heap} {k k' : List AItem} {s : Src} {a b : ACode} (e : Abs.stl 40 k = .code (.cond s a b) :: k')
    (h : gcond (s.ev env) fun c => if c then Safe x (.code a :: k') env H R else Safe x (.code b :: k') env H R) : Safe x k env H R := by
  refine Safe.stl 40 k ?_
  rw [e]
  exact Safe.cond h
theorem Safe.lp {env : Env} {H : Heap} {k k' : List AItem} {a : ACode} (e : Abs.stl 40 k = .code (.loop a) :: k') (h : Safe x (.inLoop a :: k') env H R) : Safe x k env H R := by
  refine Safe.stl 40 k ?_
  rw [e]
  exact Safe.loop h
theorem Safe.rt {env : Env} {H : Heap} {k k' : List AItem} (e : Abs.stl 40 k = .code .ret :: k') (h : gret (resL env H x.rs) fun r => R r H) : Safe x k env H R := by
  refine Safe.stl 40 k ?_
  rw [e]
  exact Safe.retn h

theorem Safe.loopP (n : Nat) (E : Nat → Env) (G : Nat → Heap) (P : Nat → Prop) {env : Env} {H : Heap} (he : env = E 0) (hG : H = G 0) (h0 : P 0)
    (step : ∀ i, i < n → P i → (P (i + 1) → Safe x (.inLoop l :: todo) (E (i + 1)) (G (i + 1)) R) → Safe x (.inLoop l :: todo) (E i) (G i) R)
    (last : P n → Safe x (.inLoop l :: todo) (E n) (G n) R) : Safe x (.inLoop l :: todo) env H R := by
  subst he; subst hG
  have key : ∀ k i, i + k = n → P i → Safe x (.inLoop l :: todo) (E i) (G i) R := by
    intro k
    induction k with
    | zero => intro i hi hp; rw [show i = n by omega] at hp ⊢; exact last hp
    | succ k ih => intro i hi hp; exact step i (by omega) hp fun hp' => ih (i + 1) (by omega) hp'
  exact key n 0 (by omega) h0

theorem Safe.loopN (n : Nat) (E : Nat → Env) (G : Nat → Heap) {env : Env} {H : Heap} (he : env = E 0) (hG : H = G 0)
    (step : ∀ i, i < n → Safe x (.inLoop l :: todo) (E (i + 1)) (G (i + 1)) R → Safe x (.inLoop l :: todo) (E i) (G i) R)
    (last : Safe x (.inLoop l :: todo) (E n) (G n) R) : Safe x (.inLoop l :: todo) env H R :=
  Safe.loopP n E G (fun _ => True) he hG trivial (fun i hi _ ih => step i hi (ih trivial)) fun _ => last

/-- A loop that counts down. -/
theorem Safe.loopD (n : Nat) (E : Nat → Env) (G : Nat → Heap) {env : Env} {H : Heap} (he : env = E n) (hG : H = G n)
    (step : ∀ i, i < n → Safe x (.inLoop l :: todo) (E i) (G i) R → Safe x (.inLoop l :: todo) (E (i + 1)) (G (i + 1)) R)
    (last : Safe x (.inLoop l :: todo) (E 0) (G 0) R) : Safe x (.inLoop l :: todo) env H R := by
  subst he; subst hG
  have key : ∀ i, i ≤ n → Safe x (.inLoop l :: todo) (E i) (G i) R := by
    intro i
    induction i with
    | zero => intro _; exact last
    | succ i ih => intro hi; exact step i (by omega) (ih (by omega))
  exact key n (Nat.le_refl _)

/-- A loop with a measure. -/
theorem Safe.loopW {α : Type} (μ : α → Nat) (E : α → Env) (G : α → Heap) (P : α → Prop) (a0 : α) {env : Env} {H : Heap} (he : env = E a0) (hG : H = G a0) (h0 : P a0)
    (step : ∀ a, P a → (∀ b, P b → μ b < μ a → Safe x (.inLoop l :: todo) (E b) (G b) R) → Safe x (.inLoop l :: todo) (E a) (G a) R) : Safe x (.inLoop l :: todo) env H R := by
  subst he; subst hG
  have key : ∀ k a, μ a ≤ k → P a → Safe x (.inLoop l :: todo) (E a) (G a) R := by
    intro k
    induction k with
    | zero => intro a ha hp; exact step a hp fun b hb hlt => absurd hlt (by omega)
    | succ k ih => intro a ha hp; exact step a hp fun b hb hlt => ih b (by omega) hb
  exact key (μ a0) a0 (Nat.le_refl _) h0

theorem take_map_succ {α β : Type} (f : α → β) (l : List α) {i : Nat} (h : i < l.length) : (l.take (i + 1)).map f = (l.take i).map f ++ [f l[i]] := by
  rw [List.take_succ_eq_append_getElem h, List.map_append]; rfl
theorem take_succ {α : Type} (l : List α) {i : Nat} (h : i < l.length) : l.take (i + 1) = l.take i ++ [l[i]] := List.take_succ_eq_append_getElem h
theorem take_len {α : Type} (l : List α) {i : Nat} (h : i ≤ l.length) : (l.take i).length = i := by rw [List.length_take]; omega
end
end Go.Abs

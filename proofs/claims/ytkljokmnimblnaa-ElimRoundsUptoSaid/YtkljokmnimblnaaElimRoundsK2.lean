/- Part 2 of the proof of ElimRounds: A9, A10, A11, A12, A20, A13, A14, A15, A16, A17, A19, A22, A23. -/
import Derived.Test.YtkljokmnimblnaaElimRoundsK1
set_option linter.unusedVariables false
set_option linter.unusedSimpArgs false
namespace Go.Abs
inductive AItem where
  | code (c : ACode)
  | inBlock (id : Nat)
  | inLoop (c : ACode)
  | inScope (c : ACode)
inductive ResV where
  | tmp (t : Nat)
  | cell (t : Nat) (n : Option Nat)
/-- A function in its program. -/
structure Cx where
  P : Program
  mu : Nat → Nat → Bool
  f : FuncId
  nt : Nat
  rs : List ResV
  n0 : Nat
def a4p (x : Cx) : AItem → Item → Prop
  | .code ac, .code c => a0B x.P x.mu x.nt c = some ac
  | .inBlock i, .inBlock j => i = j
  | .inLoop ac, .inLoop c => a0B x.P x.mu x.nt c = some ac
  | .inScope ac, .inScope c => a0B x.P x.mu x.nt c = some ac
  | _, _ => False
def a2F (x : Cx) : List AItem → List Item → Prop
  | [], [] => True
  | a :: as, b :: bs => a4p x a b ∧ a2F x as bs
  | _, _ => False
def cres (P : Program) : List ResultVar → Option (List ResV)
  | [] => some []
  | .tmp t :: r => (cres P r).map (.tmp t :: ·)
  | .cell a t :: r => match P.underlying t with
    | some d => if a9g d then (match a2h P t with
        | some n => (cres P r).map (.cell a (some n) :: ·)
        | none => none) else (cres P r).map (.cell a none :: ·)
    | none => none
def resL (env : Env) (H : Heap) : List ResV → Option (List AV)
  | [] => some []
  | .tmp t :: r => (resL env H r).map (look env t :: ·)
  | .cell t n :: r => (b6h H n (look env t)).bind fun a => (resL env H r).map (a :: ·)
def b3E : List AV → AV
  | [a] => a
  | as => .tup as
def Cx.Good (x : Cx) : Prop := ∃ fn, x.P.funcs[x.f]? = some fn ∧ cres x.P fn.results.toList = some x.rs
def Safe (x : Cx) (todo : List AItem) (env : Env) (H : Heap) (R : AV → Heap → Prop) : Prop :=
  ∀ (φ : Nat → Option Nat) (w : World) (tmps : Array Value) (b : Frame) (k : List Item) (cs : List Frame), x.Good → x.n0 ≤ H.length → b.fn = x.f → b.kind = .normal → a2F x todo k → tmps.size = x.nt →
    HOk ⟨φ, H, w⟩ → a0z ⟨φ, H, w⟩ env tmps →
    ∃ v w' fr r φ' H', R r H' ∧ HOk ⟨φ', H', w'⟩ ∧ Rep ⟨φ', H', w'⟩ v r ∧ x.n0 ≤ H'.length ∧ Ext (· < x.n0) ⟨φ, H, w⟩ ⟨φ', H', w'⟩ ∧
      Steps x.P (lone (b.at ⟨tmps, []⟩ k) cs w) (lone fr cs w') ∧ fr.fn = x.f ∧ fr.leaving x.P w' (.returned v)
section
variable {x : Cx} {todo : List AItem} {env : Env} {H : Heap} {R : AV → Heap → Prop}
theorem a0F {a : AItem} {k : List Item} (h : a2F x (a :: todo) k) : ∃ b k', k = b :: k' ∧ a4p x a b ∧ a2F x todo k' := by
  cases k with
  | nil => simp [a2F] at h
  | cons b k' => exact ⟨b, k', rfl, h.1, h.2⟩
/-- One step of the machine that leaves variables and memory alone. -/
theorem Safe.one {todo' : List AItem} (hs : ∀ k, a2F x todo k → ∃ k', a2F x todo' k' ∧ ∀ (b : Frame) (tmps : Array Value) (cs : List Frame) (w : World), step x.P (lone (b.at ⟨tmps, []⟩ k) cs w) = .next (lone (b.at ⟨tmps, []⟩ k') cs w))
    (h : Safe x todo' env H R) : Safe x todo env H R := by
  intro φ w tmps b k cs hg hn hb hk ht hsz hok he
  obtain ⟨k', ht', hst⟩ := hs k ht
  obtain ⟨v, w', fr, r, φ', H', q1, q2, q3, q4, q5, q6, q7⟩ := h φ w tmps b k' cs hg hn hb hk ht' hsz hok he
  exact ⟨v, w', fr, r, φ', H', q1, q2, q3, q4, q5, .head (hst b tmps cs w) q6, q7⟩
section inv
variable {P : Program} {mu : Nat → Nat → Bool} {nt : Nat} {c : Code}
theorem c6u {ops : Array Oper} {l : List AIns} {b : List (Nat × Nat × AIns × AIns)} {a : ACode} (h : d3R P ops l b = some a) : ∃ k sd, xchk P ops l k sd = true ∧ a = .regionX (l.take k) (l.drop k) (c4Y (l.drop k)) sd := by
  unfold d3R d5u at h
  split at h
  · rename_i hk; cases h; exact ⟨_, _, hk, rfl⟩
  · cases h
theorem c0a {id : Nat} {ops : Array Oper} {draw : Bool} {a : ACode} (h : a0B P mu nt (.region id ops draw) = some a) : ∃ l, b2a P mu nt id ops 0 ops.toList = some l ∧
    ((a = .region l draw ∧ (draw = true → dchk P ops l = true)) ∨ (draw = true ∧ ∃ k sd, xchk P ops l k sd = true ∧ a = .regionX (l.take k) (l.drop k) (c4Y (l.drop k)) sd)) := by
  simp only [a0B] at h
  split at h
  · rename_i l' h1
    refine ⟨l', h1, ?_⟩
    split at h
    · rename_i hd
      subst hd
      split at h
      · rename_i hk
        cases h
        exact .inl ⟨rfl, fun _ => hk⟩
      · obtain ⟨k, sd, h2, h3⟩ := c6u h
        exact .inr ⟨rfl, k, sd, h2, h3⟩
    · rename_i hd
      cases h
      cases draw
      · exact .inl ⟨rfl, by simp⟩
      · simp at hd
  · cases h
theorem a8M {id : Nat} {ops : Array Oper} {draw : Bool} {a : ACode} (h : a0B P mu nt (.region id ops draw) = some a) (hr : ∀ l d, a ≠ .region l d) (hx : ∀ p s1 s2 sd, a ≠ .regionX p s1 s2 sd) : False := by
  obtain ⟨l, _, ⟨h1, _⟩ | ⟨_, k, sd, _, h1⟩⟩ := c0a h
  · exact hr _ _ h1
  · exact hx _ _ _ _ h1
theorem d0A (h : a0B P mu nt c = some .skip) : c = .skip := by
  cases c
  case region => exact (a8M h (by simp) (by simp)).elim
  case skip => rfl
  all_goals simp only [a0B] at h <;> first | (exfalso; revert h; (repeat' split) <;> simp; done) | (exfalso; simp at h; done)
theorem c8g {l : Nat} (h : a0B P mu nt c = some (.label l)) : c = .label l := by
  cases c
  case region => exact (a8M h (by simp) (by simp)).elim
  all_goals simp only [a0B] at h <;> first | (cases h; rfl) | (exfalso; revert h; (repeat' split) <;> simp; done) | (exfalso; simp at h; done)
theorem d0C {l : Nat} (h : a0B P mu nt c = some (.goto l)) : c = .goto l := by
  cases c
  case region => exact (a8M h (by simp) (by simp)).elim
  all_goals simp only [a0B] at h <;> first | (cases h; rfl) | (exfalso; revert h; (repeat' split) <;> simp; done) | (exfalso; simp at h; done)
theorem d3e (h : a0B P mu nt c = some .ret) : c = .ret := by
  cases c
  case region => exact (a8M h (by simp) (by simp)).elim
  all_goals simp only [a0B] at h <;> first | rfl | (exfalso; revert h; (repeat' split) <;> simp; done) | (exfalso; simp at h; done)
theorem d0D {id : Nat} (h : a0B P mu nt c = some (.exit id)) : c = .exit id := by
  cases c
  case region => exact (a8M h (by simp) (by simp)).elim
  all_goals simp only [a0B] at h <;> first | (cases h; rfl) | (exfalso; revert h; (repeat' split) <;> simp; done) | (exfalso; simp at h; done)
theorem d3d {a b : ACode} (h : a0B P mu nt c = some (.seq a b)) : ∃ a' b', c = .seq a' b' ∧ a0B P mu nt a' = some a ∧ a0B P mu nt b' = some b := by
  cases c
  case region => exact (a8M h (by simp) (by simp)).elim
  case seq a' b' =>
    simp only [a0B] at h
    split at h
    · rename_i h1 h2; cases h; exact ⟨_, _, rfl, h1, h2⟩
    · simp at h
  all_goals simp only [a0B] at h <;> first | (exfalso; revert h; (repeat' split) <;> simp; done) | (exfalso; simp at h; done)
theorem d0E {s : Src} {a b : ACode} (h : a0B P mu nt c = some (.cond s a b)) : ∃ o a' b', c = .cond o a' b' ∧ a0G o = some s ∧ a0B P mu nt a' = some a ∧ a0B P mu nt b' = some b := by
  cases c
  case region => exact (a8M h (by simp) (by simp)).elim
  case cond o a' b' =>
    simp only [a0B] at h
    split at h
    · rename_i h0 h1 h2; cases h; exact ⟨_, _, _, rfl, h0, h1, h2⟩
    · simp at h
  all_goals simp only [a0B] at h <;> first | (exfalso; revert h; (repeat' split) <;> simp; done) | (exfalso; simp at h; done)
theorem c8h {id : Nat} {a : ACode} (h : a0B P mu nt c = some (.block id a)) : ∃ a', c = .block id a' ∧ a0B P mu nt a' = some a := by
  cases c
  case region => exact (a8M h (by simp) (by simp)).elim
  case block i a' =>
    simp only [a0B, Option.map_eq_some_iff] at h
    obtain ⟨a1, h1, h2⟩ := h
    cases h2; exact ⟨_, rfl, h1⟩
  all_goals simp only [a0B] at h <;> first | (exfalso; revert h; (repeat' split) <;> simp; done) | (exfalso; simp at h; done)
theorem d0B {a : ACode} (h : a0B P mu nt c = some (.loop a)) : ∃ a', c = .loop a' ∧ a0B P mu nt a' = some a := by
  cases c
  case region => exact (a8M h (by simp) (by simp)).elim
  case loop a' =>
    simp only [a0B, Option.map_eq_some_iff] at h
    obtain ⟨a1, h1, h2⟩ := h
    cases h2; exact ⟨_, rfl, h1⟩
  all_goals simp only [a0B] at h <;> first | (exfalso; revert h; (repeat' split) <;> simp; done) | (exfalso; simp at h; done)
theorem c8e {a : ACode} (h : a0B P mu nt c = some (.scope a)) : ∃ a', c = .scope a' ∧ a0B P mu nt a' = some a := by
  cases c
  case region => exact (a8M h (by simp) (by simp)).elim
  case scope a' =>
    simp only [a0B, Option.map_eq_some_iff] at h
    obtain ⟨a1, h1, h2⟩ := h
    cases h2; exact ⟨_, rfl, h1⟩
  all_goals simp only [a0B] at h <;> first | (exfalso; revert h; (repeat' split) <;> simp; done) | (exfalso; simp at h; done)
theorem b9j {l : List AIns} {d : Bool} (h : a0B P mu nt c = some (.region l d)) : ∃ id ops, c = .region id ops d ∧ b2a P mu nt id ops 0 ops.toList = some l ∧ (d = true → dchk P ops l = true) := by
  cases c
  case region id ops draw =>
    obtain ⟨l', h0, ⟨h1, h2⟩ | ⟨_, k, sd, _, h1⟩⟩ := c0a h
    · cases h1; exact ⟨_, _, rfl, h0, h2⟩
    · cases h1
  all_goals simp only [a0B] at h <;> first | (exfalso; revert h; (repeat' split) <;> simp; done) | (exfalso; simp at h; done)
theorem c3f {p s1 s2 : List AIns} {sd : List (Nat × Nat)} (h : a0B P mu nt c = some (.regionX p s1 s2 sd)) : ∃ id ops l k, c = .region id ops true ∧ b2a P mu nt id ops 0 ops.toList = some l ∧ xchk P ops l k sd = true ∧ p = l.take k ∧ s1 = l.drop k ∧ s2 = c4Y (l.drop k) := by
  cases c
  case region id ops draw =>
    obtain ⟨l', h0, ⟨h1, h2⟩ | ⟨rfl, k, sd', h2, h1⟩⟩ := c0a h
    · cases h1
    · cases h1; exact ⟨_, _, _, _, rfl, h0, h2, rfl, rfl, rfl⟩
  all_goals simp only [a0B] at h <;> first | (exfalso; revert h; (repeat' split) <;> simp; done) | (exfalso; simp at h; done)
end inv
theorem a0T {c : ACode} {b : Item} (h : a4p x (.code c) b) : ∃ c', b = .code c' ∧ a0B x.P x.mu x.nt c' = some c := by
  cases b <;> first | exact ⟨_, rfl, h⟩ | (simp [a4p] at h; done)
theorem b6g {c : ACode} {b : Item} (h : a4p x (.inLoop c) b) : ∃ c', b = .inLoop c' ∧ a0B x.P x.mu x.nt c' = some c := by
  cases b <;> first | exact ⟨_, rfl, h⟩ | (simp [a4p] at h; done)
theorem b2d {i : Nat} {b : Item} (h : a4p x (.inBlock i) b) : b = .inBlock i := by
  cases b <;> first | (simp only [a4p] at h; subst h; rfl) | (simp [a4p] at h; done)
theorem Safe.skip (h : Safe x todo env H R) : Safe x (.code .skip :: todo) env H R := by
  refine Safe.one (fun k hk => ?_) h
  obtain ⟨b, k', rfl, h1, h2⟩ := a0F hk
  obtain ⟨c, rfl, h1⟩ := a0T h1
  obtain rfl := d0A h1
  exact ⟨k', h2, fun _ _ _ _ => step_skip⟩
theorem Safe.label {l : Nat} (h : Safe x todo env H R) : Safe x (.code (.label l) :: todo) env H R := by
  refine Safe.one (fun k hk => ?_) h
  obtain ⟨b, k', rfl, h1, h2⟩ := a0F hk
  obtain ⟨c, rfl, h1⟩ := a0T h1
  obtain rfl := c8g h1
  exact ⟨k', h2, fun _ _ _ _ => step_label⟩
theorem c5h {P : Program} {b : Frame} {a : Act} {cs : List Frame} {w : World} {c : Code} {k : List Item} : step P (lone (b.at a (.code (.scope c) :: k)) cs w) = .next (lone (b.at a (.code c :: .inScope c :: k)) cs w) :=
  step_lone_go (by simp [stepG, stepG.exec, Frame.at])
theorem c0O {P : Program} {b : Frame} {a : Act} {cs : List Frame} {w : World} {c : Code} {k : List Item} : step P (lone (b.at a (.inScope c :: k)) cs w) = .next (lone (b.at a k) cs w) :=
  step_lone_go (by simp [stepG, stepG.exec, Frame.at])
theorem b1u {c : ACode} {b : Item} (h : a4p x (.inScope c) b) : ∃ c', b = .inScope c' ∧ a0B x.P x.mu x.nt c' = some c := by
  cases b <;> first | exact ⟨_, rfl, h⟩ | (simp [a4p] at h; done)
theorem Safe.scope {a : ACode} (h : Safe x (.code a :: .inScope a :: todo) env H R) : Safe x (.code (.scope a) :: todo) env H R := by
  refine Safe.one (fun k hk => ?_) h
  obtain ⟨i, k', rfl, h1, h2⟩ := a0F hk
  obtain ⟨c, rfl, h1⟩ := a0T h1
  obtain ⟨a', rfl, g1⟩ := c8e h1
  exact ⟨.code a' :: .inScope a' :: k', ⟨g1, g1, h2⟩, fun _ _ _ _ => c5h⟩
theorem Safe.inScope {a : ACode} (h : Safe x todo env H R) : Safe x (.inScope a :: todo) env H R := by
  refine Safe.one (fun k hk => ?_) h
  obtain ⟨i, k', rfl, h1, h2⟩ := a0F hk
  obtain ⟨a', rfl, h1⟩ := b1u h1
  exact ⟨k', h2, fun _ _ _ _ => c0O⟩
theorem Safe.seq {a b : ACode} (h : Safe x (.code a :: .code b :: todo) env H R) : Safe x (.code (.seq a b) :: todo) env H R := by
  refine Safe.one (fun k hk => ?_) h
  obtain ⟨i, k', rfl, h1, h2⟩ := a0F hk
  obtain ⟨c, rfl, h1⟩ := a0T h1
  obtain ⟨a', b', rfl, g1, g2⟩ := d3d h1
  exact ⟨.code a' :: .code b' :: k', ⟨g1, g2, h2⟩, fun _ _ _ _ => step_seq⟩
theorem Safe.block {id : Nat} {a : ACode} (h : Safe x (.code a :: .inBlock id :: todo) env H R) : Safe x (.code (.block id a) :: todo) env H R := by
  refine Safe.one (fun k hk => ?_) h
  obtain ⟨i, k', rfl, h1, h2⟩ := a0F hk
  obtain ⟨c, rfl, h1⟩ := a0T h1
  obtain ⟨a', rfl, g1⟩ := c8h h1
  exact ⟨.code a' :: .inBlock id :: k', ⟨g1, rfl, h2⟩, fun _ _ _ _ => step_block⟩
theorem Safe.inBlock {id : Nat} (h : Safe x todo env H R) : Safe x (.inBlock id :: todo) env H R := by
  refine Safe.one (fun k hk => ?_) h
  obtain ⟨i, k', rfl, h1, h2⟩ := a0F hk
  obtain rfl := b2d h1
  exact ⟨k', h2, fun _ _ _ _ => step_inBlock⟩
theorem Safe.loop {a : ACode} (h : Safe x (.inLoop a :: todo) env H R) : Safe x (.code (.loop a) :: todo) env H R := by
  intro φ w tmps b k cs hg hn hb hk ht hsz hok he
  obtain ⟨i, k', rfl, h1, h2⟩ := a0F ht
  obtain ⟨c, rfl, h1⟩ := a0T h1
  obtain ⟨a', rfl, g1⟩ := d0B h1
  obtain ⟨v, w', fr, r, φ', H', q1, q2, q3, q4, q5, q6, q7⟩ := h φ w tmps b (.inLoop a' :: k') cs hg hn hb hk ⟨g1, h2⟩ hsz hok he
  refine ⟨v, w', fr, r, φ', H', q1, q2, q3, q4, q5, ?_, q7⟩
  -- both begin with the same state behind one step
  obtain ⟨n, hn'⟩ := q6
  cases n with
  | zero =>
    simp only [runN] at hn'
    cases hn'
    exfalso
    obtain ⟨_, hl⟩ := q7
    simp [Frame.leaving, Frame.at] at hl
  | succ n =>
    simp only [runN, step_inLoop] at hn'
    exact .head step_loop ⟨n, hn'⟩
theorem Safe.inLoop {a : ACode} (h : Safe x (.code a :: .inLoop a :: todo) env H R) : Safe x (.inLoop a :: todo) env H R := by
  refine Safe.one (fun k hk => ?_) h
  obtain ⟨i, k', rfl, h1, h2⟩ := a0F hk
  obtain ⟨a', rfl, h1⟩ := b6g h1
  exact ⟨.code a' :: .inLoop a' :: k', ⟨h1, h1, h2⟩, fun _ _ _ _ => step_inLoop⟩
theorem Safe.cond {s : Src} {a b : ACode} (h : c6j (s.ev env) fun c => if c then Safe x (.code a :: todo) env H R else Safe x (.code b :: todo) env H R) : Safe x (.code (.cond s a b) :: todo) env H R := by
  intro φ w tmps bf k cs hg hn hb hk ht hsz hok he
  obtain ⟨i, k', rfl, h1, h2⟩ := a0F ht
  obtain ⟨c, rfl, h1⟩ := a0T h1
  obtain ⟨o, a', b', rfl, g0, g1, g2⟩ := d0E h1
  simp only [c6j] at h
  split at h
  · rename_i c hc
    have hr := a0p he g0
    rw [hc] at hr
    have hv := a1E hr
    cases c
    · simp only [Bool.false_eq_true, if_false] at h
      obtain ⟨v, w', fr, r, φ', H', q1, q2, q3, q4, q5, q6, q7⟩ := h φ w tmps bf (.code b' :: k') cs hg hn hb hk ⟨g2, h2⟩ hsz hok he
      exact ⟨v, w', fr, r, φ', H', q1, q2, q3, q4, q5, .head (step_cond hv) (by simpa using q6), q7⟩
    · simp only [if_true] at h
      obtain ⟨v, w', fr, r, φ', H', q1, q2, q3, q4, q5, q6, q7⟩ := h φ w tmps bf (.code a' :: k') cs hg hn hb hk ⟨g1, h2⟩ hsz hok he
      exact ⟨v, w', fr, r, φ', H', q1, q2, q3, q4, q5, .head (step_cond hv) (by simpa using q6), q7⟩
  · exact h.elim
/-- Where an exit goes. -/
def b7K (id : Nat) : List AItem → Option (List AItem)
  | .inBlock i :: k => if i = id then some k else b7K id k
  | _ :: k => b7K id k
  | [] => none
theorem a8p {id : Nat} : ∀ {todo : List AItem} {k : List Item} {todo' : List AItem}, a2F x todo k → b7K id todo = some todo' → ∃ k', exitTo id k = some k' ∧ a2F x todo' k'
  | [], _, _, _, h => by simp [b7K] at h
  | a :: todo, k, todo', hr, h => by
    obtain ⟨b, k', rfl, h1, h2⟩ := a0F hr
    cases a with
    | code c =>
      obtain ⟨c', rfl, _⟩ := a0T h1
      obtain ⟨k2, g1, g2⟩ := a8p h2 (by simpa [b7K] using h)
      exact ⟨k2, by simpa [exitTo] using g1, g2⟩
    | inLoop c =>
      obtain ⟨c', rfl, _⟩ := b6g h1
      obtain ⟨k2, g1, g2⟩ := a8p h2 (by simpa [b7K] using h)
      exact ⟨k2, by simpa [exitTo] using g1, g2⟩
    | inScope c =>
      obtain ⟨c', rfl, _⟩ := b1u h1
      obtain ⟨k2, g1, g2⟩ := a8p h2 (by simpa [b7K] using h)
      exact ⟨k2, by simpa [exitTo] using g1, g2⟩
    | inBlock i =>
      obtain rfl := b2d h1
      simp only [b7K] at h
      split at h
      · rename_i hi
        cases h
        exact ⟨k', by simp [exitTo, hi], h2⟩
      · rename_i hi
        obtain ⟨k2, g1, g2⟩ := a8p h2 h
        exact ⟨k2, by simp [exitTo, hi]; exact g1, g2⟩
theorem Safe.exit {id : Nat} {todo' : List AItem} (he : b7K id todo = some todo') (h : Safe x todo' env H R) : Safe x (.code (.exit id) :: todo) env H R := by
  refine Safe.one (fun k hk => ?_) h
  obtain ⟨i, k', rfl, h1, h2⟩ := a0F hk
  obtain ⟨c, rfl, h1⟩ := a0T h1
  obtain rfl := d0D h1
  obtain ⟨k2, g1, g2⟩ := a8p h2 he
  exact ⟨k2, g2, fun _ _ _ _ => step_exit g1⟩
def b7J : ACode → Nat → Option ACode
  | .seq a b, l => match b7J a l with
    | some r => some (.seq r b)
    | none => b7J b l
  | .label m, l => if m == l then some .skip else none
  | _, _ => none
def b7I (l : Nat) : List AItem → Option (List AItem)
  | .inScope a :: k => match b7J a l with
    | some r => some (.code r :: .inScope a :: k)
    | none => b7I l k
  | _ :: k => b7I l k
  | [] => none
theorem c9l {P : Program} {mu : Nat → Nat → Bool} {nt : Nat} (l : Nat) : ∀ {c : Code} {a : ACode}, a0B P mu nt c = some a →
    (∃ r r', findLabel c l = some r ∧ b7J a l = some r' ∧ a0B P mu nt r = some r') ∨ (findLabel c l = none ∧ b7J a l = none) := by
  intro c
  induction c with
  | seq c d ih1 ih2 =>
    intro a h
    simp only [a0B] at h
    split at h
    · rename_i a1 b1 h1 h2
      cases h
      rcases ih1 h1 with ⟨r, r', f1, f2, f3⟩ | ⟨f1, f2⟩
      · exact .inl ⟨.seq r d, .seq r' b1, by simp only [findLabel, f1], by simp only [b7J, f2], by simp only [a0B, f3, h2]⟩
      · rcases ih2 h2 with ⟨r, r', g1, g2, g3⟩ | ⟨g1, g2⟩
        · exact .inl ⟨r, r', by simp only [findLabel, f1]; exact g1, by simp only [b7J, f2]; exact g2, g3⟩
        · exact .inr ⟨by simp only [findLabel, f1]; exact g1, by simp only [b7J, f2]; exact g2⟩
    · simp at h
  | label m =>
    intro a h
    simp only [a0B, Option.some.injEq] at h
    subst h
    by_cases e : (m == l) = true
    · exact .inl ⟨.skip, .skip, by simp only [findLabel]; rw [if_pos e], by simp only [b7J]; rw [if_pos e], rfl⟩
    · exact .inr ⟨by simp only [findLabel]; rw [if_neg e], by simp only [b7J]; rw [if_neg e]⟩
  | region id ops draw =>
    intro a h
    refine .inr ⟨rfl, ?_⟩
    obtain ⟨l, _, ⟨h1, _⟩ | ⟨_, k, sd, _, h1⟩⟩ := c0a h <;> subst h1 <;> rfl
  | _ =>
    intro a h
    refine .inr ⟨rfl, ?_⟩
    simp only [a0B] at h
    first
      | (cases h; rfl)
      | (split at h <;> first | (cases h; rfl) | (simp at h; done))
      | (rw [Option.map_eq_some_iff] at h; obtain ⟨_, _, rfl⟩ := h; rfl)
      | (simp at h; done)
theorem a8o {l : Nat} : ∀ {todo : List AItem} {k : List Item} {todo' : List AItem}, a2F x todo k → b7I l todo = some todo' → ∃ k', gotoIn l k = some k' ∧ a2F x todo' k'
  | [], _, _, _, h => by simp [b7I] at h
  | a :: todo, k, todo', hr, h => by
    obtain ⟨b, k', rfl, h1, h2⟩ := a0F hr
    cases a with
    | code c =>
      obtain ⟨c', rfl, _⟩ := a0T h1
      obtain ⟨k2, g1, g2⟩ := a8o h2 (by simpa [b7I] using h)
      exact ⟨k2, by simpa [gotoIn] using g1, g2⟩
    | inLoop c =>
      obtain ⟨c', rfl, _⟩ := b6g h1
      obtain ⟨k2, g1, g2⟩ := a8o h2 (by simpa [b7I] using h)
      exact ⟨k2, by simpa [gotoIn] using g1, g2⟩
    | inBlock i =>
      obtain rfl := b2d h1
      obtain ⟨k2, g1, g2⟩ := a8o h2 (by simpa [b7I] using h)
      exact ⟨k2, by simpa [gotoIn] using g1, g2⟩
    | inScope c =>
      obtain ⟨c', rfl, hc⟩ := b1u h1
      simp only [b7I] at h
      rcases c9l l hc with ⟨r, r', f1, f2, f3⟩ | ⟨f1, f2⟩
      · rw [f2] at h
        cases h
        exact ⟨.code r :: .inScope c' :: k', by simp only [gotoIn, f1], ⟨f3, hc, h2⟩⟩
      · rw [f2] at h
        obtain ⟨k2, g1, g2⟩ := a8o h2 h
        exact ⟨k2, by simp only [gotoIn, f1]; exact g1, g2⟩
theorem c6T {P : Program} {b : Frame} {a : Act} {cs : List Frame} {w : World} {l : Nat} {k k' : List Item} (h : gotoIn l k = some k') : step P (lone (b.at a (.code (.goto l) :: k)) cs w) = .next (lone (b.at a k') cs w) :=
  step_lone_go (by simp [stepG, stepG.exec, Frame.at, h])
theorem Safe.goto {l : Nat} {todo' : List AItem} (he : b7I l todo = some todo') (h : Safe x todo' env H R) : Safe x (.code (.goto l) :: todo) env H R := by
  refine Safe.one (fun k hk => ?_) h
  obtain ⟨i, k', rfl, h1, h2⟩ := a0F hk
  obtain ⟨c, rfl, h1⟩ := a0T h1
  obtain rfl := d0C h1
  obtain ⟨k2, g1, g2⟩ := a8o h2 he
  exact ⟨k2, g2, fun _ _ _ _ => c6T g1⟩
theorem Safe.region {l : List AIns} (h : aops x.P x.n0 l (fun env' H' => Safe x todo env' H' R) env H) : Safe x (.code (.region l false) :: todo) env H R := by
  intro φ w tmps b k cs hg hn hb hk ht hsz hok he
  obtain ⟨i, k', rfl, h1, h2⟩ := a0F ht
  obtain ⟨c, rfl, h1⟩ := a0T h1
  obtain ⟨id, ops, rfl, g1, _⟩ := b9j h1
  have hw := b9r (P := x.P) (nt := x.nt) (rid := id) (ops := ops) (n0 := x.n0) (K := fun env' H' => Safe x todo env' H' R) (E0 := ⟨φ, H, w⟩)
    (Q := fun e a w' => e = .normal ∧ Kc x.n0 x.nt ⟨φ, H, w⟩ (fun env' H' => Safe x todo env' H' R) a w') (fun a w h => ⟨rfl, h⟩) ops.toList 0 l g1 ⟨φ, H, w⟩ env tmps hsz hok he hn (Ext.refl _ _) h
  obtain ⟨e, a', w', ⟨rfl, φ1, env1, H1, s1, s2, s3, s4, s5, s6, s7⟩, harr⟩ := wp_region_list hw b k' cs
  have ha : a' = ⟨a'.tmps, []⟩ := by cases a'; simp at s4; simp [s4]
  rw [ha] at harr
  obtain ⟨v, w2, fr, r, φ', H', q1, q2, q3, q4, q5, q6, q7⟩ := s1 φ1 w' a'.tmps b k' cs hg s6 hb hk h2 s5 s2 s3
  exact ⟨v, w2, fr, r, φ', H', q1, q2, q3, q4, s7.trans q5, Steps.trans harr q6, q7⟩
theorem b4M {P : Program} {E : Emb} {tmps : Array Value} {env : Env} (hok : HOk E) (he : a0z E env tmps) : ∀ {rv : List ResultVar} {rs : List ResV} {as : List AV}, cres P rv = some rs → resL env E.H rs = some as →
    ∃ vs : List Value, (rv.mapM fun (r : ResultVar) => match r with
      | .tmp t => (pure (tmps.getD t undef) : Sem Value)
      | .cell a t => do loadVar t (← asAddr (tmps.getD a undef))).run P E.w = .ok vs E.w ∧ vs.length = as.length ∧ ∀ (k : Nat) v a, vs[k]? = some v → as[k]? = some a → Rep E v a
  | [], rs, as, h1, h2 => by
    simp [cres] at h1; subst h1
    simp [resL] at h2; subst h2
    exact ⟨[], rfl, rfl, fun k v a h => by simp at h⟩
  | .tmp t :: rv, rs, as, h1, h2 => by
    simp only [cres, Option.map_eq_some_iff] at h1
    obtain ⟨rs', g1, rfl⟩ := h1
    simp only [resL, Option.map_eq_some_iff] at h2
    obtain ⟨as', g2, rfl⟩ := h2
    obtain ⟨vs, q1, q2, q3⟩ := b4M hok he g1 g2
    refine ⟨tmps.getD t undef :: vs, by simp only [List.mapM_cons, Sem.run_bind, Sem.run_pure, Result.andThen_ok, q1], by simp [q2], fun k v a hk ha => ?_⟩
    cases k with
    | zero => simp only [List.getElem?_cons_zero, Option.some.injEq] at hk ha; subst hk; subst ha; exact he t
    | succ k => exact q3 k v a (by simpa using hk) (by simpa using ha)
  | .cell p t :: rv, rs, as, h1, h2 => by
    simp only [cres] at h1
    have main : ∀ (n : Option Nat) (d : TypeDesc) (rs' : List ResV), P.underlying t = some d → ((n = none ∧ a9g d = false) ∨ ∃ m, n = some m ∧ a9g d = true ∧ a2h P t = some m) → cres P rv = some rs' → rs = .cell p n :: rs' →
        ∃ vs : List Value, ((ResultVar.cell p t :: rv).mapM fun (r : ResultVar) => match r with
          | .tmp t => (pure (tmps.getD t undef) : Sem Value)
          | .cell a t => do loadVar t (← asAddr (tmps.getD a undef))).run P E.w = .ok vs E.w ∧ vs.length = as.length ∧ ∀ (k : Nat) v a, vs[k]? = some v → as[k]? = some a → Rep E v a := by
      intro n d rs' hd hn g1 hrs
      subst hrs
      simp only [resL, Option.bind_eq_some_iff, Option.map_eq_some_iff] at h2
      obtain ⟨a, ha, as', g2, rfl⟩ := h2
      obtain ⟨vs, q1, q2, q3⟩ := b4M hok he g1 g2
      obtain ⟨v, hv, hr⟩ := b1N (P := P) hok (he p) hd hn ha
      have hl : (do loadVar t (← asAddr (tmps.getD p undef)) : Sem Value).run P E.w = .ok v E.w := by
        simp only [b6h, Option.bind_eq_some_iff] at ha
        obtain ⟨cs, hat, _⟩ := ha
        obtain ⟨b, o, us, hp, _⟩ := c4G hok (he p) hat
        rw [hp] at hv ⊢
        simpa [Instr.loadAt, Instr.sureAddr, asAddr] using hv
      refine ⟨v :: vs, by simp only [List.mapM_cons, Sem.run_bind]; rw [← Sem.run_bind, hl]; simp only [Result.andThen_ok, q1, Sem.run_pure], by simp [q2], fun k v a hk ha => ?_⟩
      cases k with
      | zero => simp only [List.getElem?_cons_zero, Option.some.injEq] at hk ha; subst hk; subst ha; exact hr
      | succ k => exact q3 k v a (by simpa using hk) (by simpa using ha)
    split at h1
    · rename_i d hd
      split at h1
      · rename_i hag
        split at h1
        · rename_i n hn
          simp only [Option.map_eq_some_iff] at h1
          obtain ⟨rs', g1, rfl⟩ := h1
          exact main (some n) d rs' hd (.inr ⟨n, rfl, hag, hn⟩) g1 rfl
        · simp at h1
      · rename_i hag
        simp only [Option.map_eq_some_iff] at h1
        obtain ⟨rs', g1, rfl⟩ := h1
        exact main none d rs' hd (.inl ⟨rfl, by simpa using hag⟩) g1 rfl
    · simp at h1
theorem b9I {E : Emb} {tmps : Array Value} {env : Env} (hok : HOk E) (he : a0z E env tmps) {fn : Func} {P : Program} {rs : List ResV} {as : List AV} (h1 : cres P fn.results.toList = some rs) (h2 : resL env E.H rs = some as) :
    ∃ v, (results fn tmps).run P E.w = .ok v E.w ∧ Rep E v (b3E as) := by
  obtain ⟨vs, q1, q2, q3⟩ := b4M hok he h1 h2
  have hm : (fn.results.mapM fun (r : ResultVar) => match r with
      | .tmp t => (pure (tmps.getD t undef) : Sem Value)
      | .cell a t => do loadVar t (← asAddr (tmps.getD a undef))).run P E.w = .ok vs.toArray E.w := by
    rw [Array.mapM_eq_mapM_toList, Sem.run_map, q1]; rfl
  refine ⟨if h : vs.toArray.size = 1 then vs.toArray[0] else .tuple vs.toArray, ?_, ?_⟩
  · unfold results
    rw [Sem.run_bind]
    exact (congrArg (fun r => Result.andThen r _) hm).trans rfl
  · cases vs with
    | nil =>
      cases as with
      | nil => exact .tup [] [] rfl (fun k v a h => by simp at h)
      | cons a as => simp at q2
    | cons v vs =>
      cases vs with
      | nil =>
        cases as with
        | nil => simp at q2
        | cons a as =>
          cases as with
          | nil => exact q3 0 v a rfl rfl
          | cons b as => simp at q2
      | cons u vs =>
        cases as with
        | nil => simp at q2
        | cons a as =>
          cases as with
          | nil => simp at q2
          | cons b as =>
            rw [dif_neg (by simp)]
            exact .tup _ _ q2 q3
theorem Safe.fin (hr : ∀ (k : List Item), a2F x todo k → k = [] ∨ ∃ k', k = .code .ret :: k') {as : List AV} (h1 : resL env H x.rs = some as) (h : R (b3E as) H) : Safe x todo env H R := by
  intro φ w tmps b k cs hg hn hb hk ht hsz hok he
  obtain ⟨fn, hf, hc⟩ := hg
  obtain ⟨v, q1, q2⟩ := b9I (E := ⟨φ, H, w⟩) hok he hc h1
  rcases hr k ht with rfl | ⟨k', rfl⟩
  · exact ⟨v, w, _, b3E as, φ, H, h, hok, q2, hn, Ext.refl _ _, .one step_end, hb, rfl, rfl, hk, fn, hb ▸ hf, q1⟩
  · exact ⟨v, w, _, b3E as, φ, H, h, hok, q2, hn, Ext.refl _ _, .one step_ret, hb, rfl, rfl, hk, fn, hb ▸ hf, q1⟩
theorem Safe.ret {as : List AV} (h1 : resL env H x.rs = some as) (h : R (b3E as) H) : Safe x (.code .ret :: todo) env H R := by
  refine Safe.fin (fun k hk => ?_) h1 h
  obtain ⟨i, k', rfl, g1, g2⟩ := a0F hk
  obtain ⟨c, rfl, g1⟩ := a0T g1
  obtain rfl := d3e g1
  exact .inr ⟨k', rfl⟩
theorem Safe.done {as : List AV} (h1 : resL env H x.rs = some as) (h : R (b3E as) H) : Safe x [] env H R := by
  refine Safe.fin (fun k hk => ?_) h1 h
  cases k with
  | nil => exact .inl rfl
  | cons b k => simp [a2F] at hk
end
/-- What a function's text comes to. -/
def fchk (P : Program) (mu : Nat → Nat → Bool) (fn : Func) : Option (ACode × List ResV × Nat) :=
  if fn.name == "runtime.NumGoroutine" then none else
  match fn.body with
  | some c => match a0B P mu fn.ntmps c, cres P fn.results.toList with
    | some ac, some rs => some (ac, rs, fn.ntmps)
    | _, _ => none
  | none => none
def b3H (k : Nat) : List AV → Env
  | [] => []
  | a :: as => (k, a) :: b3H (k + 1) as
theorem b9h : ∀ (as : List AV) (k t : Nat), look (b3H k as) t = if k ≤ t then (as[t - k]?).getD .top else .top
  | [], k, t => by simp [b3H, look]
  | a :: as, k, t => by
    simp only [b3H, look]
    by_cases h : k = t
    · subst h; simp
    · rw [if_neg h, b9h as (k + 1) t]
      by_cases h' : k ≤ t
      · rw [if_pos h', if_pos (by omega)]
        obtain ⟨m, hm⟩ : ∃ m, t - k = m + 1 := ⟨t - k - 1, by omega⟩
        rw [hm, show t - (k + 1) = m by omega]; simp
      · rw [if_neg h', if_neg (by omega)]
/-- The rows of a heap name rows of it. -/
def a0U (H : Heap) : Prop := ∀ (id : Nat) blk, H[id]? = some (some blk) → ∀ a ∈ blk.flat, Ref (· < H.length) a
theorem a0n.intro {P : Program} {mu : Nat → Nat → Bool} {f : FuncId} {fn : Func} (hf : P.funcs[f]? = some fn) {ac : ACode} {rs : List ResV} {nt : Nat} (hc : fchk P mu fn = some (ac, rs, nt))
    {args : List AV} {H : Heap} {R : AV → Heap → Prop} (ha : args.length ≤ nt) (h : a0U H → Safe ⟨P, mu, f, nt, rs, H.length⟩ [.code ac] (b3H 0 args) H R) : a0n P f args H R := by
  unfold fchk at hc
  split at hc
  · simp at hc
  · rename_i hname
    split at hc
    · rename_i c hb
      split at hc
      · rename_i ac' rs' h1 h2
        cases hc
        refine ⟨⟨fn, hf, by simpa using hname, by simp [hb]⟩, fun φ w vs hok hl hr => ?_⟩
        intro cs
        let b : Frame := { (default : Frame) with fn := f, kind := .normal }
        have henter : Frame.enter P f vs.toArray .normal = b.at ⟨vs.toArray ++ Array.replicate (fn.ntmps - vs.toArray.size) undef, []⟩ [.code c] := by
          simp [Frame.enter, Frame.at, hf, hb, b]
        obtain ⟨v, w', fr, r, φ', H', q1, q2, q3, q4, q5, q6, q7, q8⟩ := h (fun id blk hl => hok.refs hl) φ w (vs.toArray ++ Array.replicate (fn.ntmps - vs.toArray.size) undef) b [.code c] cs
          ⟨fn, hf, h2⟩ (Nat.le_refl _) rfl rfl ⟨h1, trivial⟩ (by simp; omega) hok (by
            intro t
            rw [b9h]
            simp only [Nat.zero_le, if_true, Nat.sub_zero]
            rcases Nat.lt_or_ge t args.length with ht | ht
            · rw [List.getElem?_eq_getElem ht, Option.getD_some]
              have : (vs.toArray ++ Array.replicate (fn.ntmps - vs.toArray.size) undef).getD t undef = vs[t]'(by omega) := by
                rw [Array.getD_eq_getD_getElem?, Array.getElem?_append_left (by simp; omega)]
                simp [List.getElem?_eq_getElem (show t < vs.length by omega)]
              rw [this]
              exact hr t _ _ (List.getElem?_eq_getElem (by omega)) (List.getElem?_eq_getElem ht)
            · rw [List.getElem?_eq_none ht]; exact .top _)
        rw [← henter] at q6
        exact ⟨.returned v, w', fr, ⟨v, r, φ', H', rfl, q1, q2, q3, q4, q5⟩, q6, q7, q8⟩
      · simp at hc
    · simp at hc
end Go.Abs
set_option linter.unusedVariables false
set_option linter.unusedSimpArgs false
namespace Go.Abs
theorem d1F (P : Program) (n0 : Nat) (K : Env → Heap → Prop) (env : Env) (H : Heap) : aops P n0 [] K env H = K env H := rfl
theorem c9k (P : Program) (n0 : Nat) (d : Option Nat) (o : AOp) (l : List AIns) (K : Env → Heap → Prop) (env : Env) (H : Heap) :
    aops P n0 (⟨d, none, o⟩ :: l) K env H = a4w P n0 o d (aops P n0 l K) env H := rfl
theorem c9j (P : Program) (n0 : Nat) (d : Option Nat) (t : Nat) (want : Bool) (o : AOp) (l : List AIns) (K : Env → Heap → Prop) (env : Env) (H : Heap) :
    aops P n0 (⟨d, some (t, want), o⟩ :: l) K env H = a9h want (look env t) fun c => if c = want then a4w P n0 o d (aops P n0 l K) env H else aops P n0 l K (put d (.tup []) env) H := rfl
theorem d4f (P : Program) (n0 : Nat) (o : POp) (d : Option Nat) (K : Env → Heap → Prop) (env : Env) (H : Heap) : a4w P n0 (.p o) d K env H = b4Q (pv o env H) fun v => K (put d v env) H := rfl
theorem d4g (P : Program) (n0 : Nat) (o : EOp) (d : Option Nat) (K : Env → Heap → Prop) (env : Env) (H : Heap) : a4w P n0 (.e o) d K env H = b3L (ev n0 o env H) fun v env' H' => K (put d v env') H' := rfl
/-- What is to be shown of a call's answer. -/
def ares (K : Env → Heap → Prop) (d : Option Nat) (env : Env) : AV → Heap → Prop := fun r H' => K (put d r env) H'
theorem d4i (K : Env → Heap → Prop) (d : Option Nat) (env : Env) (r : AV) (H' : Heap) : ares K d env r H' = K (put d r env) H' := rfl
theorem c6y (P : Program) (n0 : Nat) (f : FuncId) (args : List Src) (d : Option Nat) (K : Env → Heap → Prop) (env : Env) (H : Heap) :
    a4w P n0 (.call f args) d K env H = a0n P f (args.map (·.ev env)) H (ares K d env) := rfl
def c1P (P : Program) (g : AV) (args : List AV) (H : Heap) (R : AV → Heap → Prop) : Prop := match g with
  | .fn f caps => a0n P f (args ++ caps) H R
  | _ => False
theorem c3F (P : Program) (n0 : Nat) (g : Src) (args : List Src) (d : Option Nat) (K : Env → Heap → Prop) (env : Env) (H : Heap) :
    a4w P n0 (.callv g args) d K env H = c1P P (g.ev env) (args.map (·.ev env)) H (ares K d env) := by
  simp only [a4w, c1P, ares]; cases g.ev env <;> rfl
theorem c8Z (P : Program) (f : FuncId) (caps args : List AV) (H : Heap) (R : AV → Heap → Prop) : c1P P (.fn f caps) args H R = a0n P f (args ++ caps) H R := rfl
theorem c5s (v : AV) (k : AV → Prop) : b4Q (some v) k = k v := rfl
theorem c5t (k : AV → Prop) : b4Q none k = False := rfl
theorem c6o (v : AV) (e : Env) (h : Heap) (k : AV → Env → Heap → Prop) : b3L (some (v, e, h)) k = k v e h := rfl
theorem c6p (k : AV → Env → Heap → Prop) : b3L none k = False := rfl
theorem c3h (want b : Bool) (k : Bool → Prop) : a9h want (.bool b) k = k b := rfl
theorem c1x (want : Bool) (k : Bool → Prop) : a9h want (.tup []) k = k (!want) := rfl
theorem c6i (b : Bool) (k : Bool → Prop) : c6j (.bool b) k = k b := rfl
theorem d5L (env : Env) (n : Nat) : (Src.t n).ev env = look env n := rfl
theorem d5M (env : Env) (a : AV) : (Src.c a).ev env = a := rfl
theorem c7Q (k : Nat) (v : AV) (r : Env) (t : Nat) : look ((k, v) :: r) t = if k = t then v else look r t := rfl
theorem d0v (t : Nat) : look [] t = .top := rfl
theorem c9Q (d : Nat) (v : AV) (env : Env) : put (some d) v env = (d, v) :: env := rfl
theorem c9R (v : AV) (env : Env) : put none v env = env := rfl
theorem c8C (k : Nat) : b3H k [] = [] := rfl
theorem c6l (k : Nat) (a : AV) (as : List AV) : b3H k (a :: as) = (k, a) :: b3H (k + 1) as := rfl
@[congr] theorem d2V {x y : Option AV} {k : AV → Prop} (h : x = y) : b4Q x k = b4Q y k := by rw [h]
@[congr] theorem d3F {x y : Option (AV × Env × Heap)} {k : AV → Env → Heap → Prop} (h : x = y) : b3L x k = b3L y k := by rw [h]
@[congr] theorem d1T {want : Bool} {x y : AV} {k : Bool → Prop} (h : x = y) : a9h want x k = a9h want y k := by rw [h]
@[congr] theorem d3k {x y : AV} {k : Bool → Prop} (h : x = y) : c6j x k = c6j y k := by rw [h]
@[congr] theorem d4q {P : Program} {n0 : Nat} {l : List AIns} {K : Env → Heap → Prop} {env env' : Env} {H H' : Heap} (h : env = env') (h' : H = H') : aops P n0 l K env H = aops P n0 l K env' H' := by rw [h, h']
@[congr] theorem d4h {P : Program} {n0 : Nat} {o : AOp} {d : Option Nat} {K : Env → Heap → Prop} {env env' : Env} {H H' : Heap} (h : env = env') (h' : H = H') : a4w P n0 o d K env H = a4w P n0 o d K env' H' := by rw [h, h']
@[congr] theorem d4n {x : Cx} {todo : List AItem} {env env' : Env} {H H' : Heap} {R : AV → Heap → Prop} (h : env = env') (h' : H = H') : Safe x todo env H R = Safe x todo env' H' R := by rw [h, h']
@[congr] theorem d2g {P : Program} {f : FuncId} {as as' : List AV} {H H' : Heap} {R : AV → Heap → Prop} (h : as = as') (h' : H = H') : a0n P f as H R = a0n P f as' H' R := by rw [h, h']
@[congr] theorem d2e {P : Program} {g g' : AV} {as as' : List AV} {H H' : Heap} {R : AV → Heap → Prop} (h : g = g') (h2 : as = as') (h' : H = H') : c1P P g as H R = c1P P g' as' H' R := by rw [h, h2, h']
section
variable (env : Env) (H : Heap)
theorem d5Q (a : Src) : pv (.mv a) env H = some (a.ev env) := rfl
def c7s (c a b : AV) : Option AV := match c with
  | .bool c => if c then some a else some b
  | _ => none
theorem d2I (c a b : Src) : pv (.pick c a b) env H = c7s (c.ev env) (a.ev env) (b.ev env) := by simp only [pv, c7s]; split <;> simp_all
theorem c5p (c : Bool) (a b : AV) : c7s (.bool c) a b = if c then some a else some b := rfl
theorem c7r (c d : Bool) : c7s (.bool c) (.bool d) (.bool false) = some (.bool (c && d)) := by cases c <;> rfl
theorem c9V (c d : Bool) : c7s (.bool c) (.bool true) (.bool d) = some (.bool (c || d)) := by cases c <;> rfl
theorem d4L (a : Src) : pv (.len a) env H = lenV H (a.ev env) := rfl
def lenS : AV → Option AV
  | .str s => some (.int .i64 s.size)
  | _ => none
theorem d2L (a : Src) : pv (.lens a) env H = lenS (a.ev env) := by simp only [pv, lenS]; split <;> simp_all
theorem d0x (s : ByteArray) : lenS (.str s) = some (.int .i64 s.size) := rfl
theorem d4O (op : BinOp) (a b : Src) : pv (.bin op a b) env H = binV op (a.ev env) (b.ev env) := rfl
def beqV (neg : Bool) (a b : AV) : Option AV := match a, b with
  | .bool x, .bool y => some (.bool (if neg then !(x == y) else (x == y)))
  | _, _ => none
theorem d4P (neg : Bool) (a b : Src) : pv (.beq neg a b) env H = beqV neg (a.ev env) (b.ev env) := by simp only [pv, beqV]; split <;> simp_all
theorem d5y (x y : Bool) : beqV false (.bool x) (.bool y) = some (.bool (x == y)) := rfl
theorem d5x (x y : Bool) : beqV true (.bool x) (.bool y) = some (.bool !(x == y)) := rfl
def unV (op : UnOp) (a : AV) : Option AV := match op, a with
  | .neg, .int k n => some (.int k (k.wrap (0 - n)))
  | .not, .bool b => some (.bool !b)
  | _, _ => none
theorem d5P (op : UnOp) (a : Src) : pv (.un op a) env H = unV op (a.ev env) := by simp only [pv, unV]; cases op <;> cases a.ev env <;> rfl
theorem d2p (k : IntKind) (n : Int) : unV .neg (.int k n) = some (.int k (k.wrap (0 - n))) := rfl
theorem d2o (b : Bool) : unV .not (.bool b) = some (.bool !b) := rfl
def d3S (k : IntKind) (a : AV) : Option AV := match a with
  | .int _ n => some (.int k (k.wrap n))
  | _ => none
theorem d2P (k : IntKind) (a : Src) : pv (.conv k a) env H = d3S k (a.ev env) := by simp only [pv, d3S]; split <;> simp_all
theorem c8O (k k' : IntKind) (n : Int) : d3S k (.int k' n) = some (.int k (k.wrap n)) := rfl
def extV (a : AV) (i : Nat) : Option AV := match a with
  | .tup vs => vs[i]?
  | _ => none
theorem d4M (a : Src) (i : Nat) : pv (.ext a i) env H = extV (a.ev env) i := by simp only [pv, extV]; split <;> simp_all
theorem d0W (vs : List AV) (i : Nat) : extV (.tup vs) i = vs[i]? := rfl
def fldV (a : AV) (off : Nat) : Option AV := match a with
  | .ro x o => some (.ro x (o + off))
  | .loc id i o => if (hrow H id).isSome then some (.loc id i (o + off)) else none
  | _ => none
theorem d2O (a : Src) (off : Nat) : pv (.fldp a off) env H = fldV H (a.ev env) off := by simp only [pv, fldV]; split <;> simp_all
theorem d3t (x : AV) (o off : Nat) : fldV H (.ro x o) off = some (.ro x (o + off)) := rfl
theorem d0R (id i o off : Nat) : fldV H (.loc id i o) off = if (hrow H id).isSome then some (.loc id i (o + off)) else none := rfl
theorem d2N (wd : Nat) (a i : Src) : pv (.idxp wd a i) env H = idxV H wd (a.ev env) (i.ev env) := rfl
def idxS (a i : AV) : Option AV := match a, i with
  | .str s, .int _ i => if 0 ≤ i ∧ i < s.size then some (.int .u8 (s.data.toList.getD i.toNat 0).toNat) else none
  | _, _ => none
theorem d2M (a i : Src) : pv (.idxs a i) env H = idxS (a.ev env) (i.ev env) := by simp only [pv, idxS]; split <;> simp_all
theorem d0F (s : ByteArray) (k : IntKind) (i : Int) : idxS (.str s) (.int k i) = if 0 ≤ i ∧ i < s.size then some (.int .u8 (s.data.toList.getD i.toNat 0).toNat) else none := rfl
theorem d2K (n : Option Nat) (a : Src) : pv (.load n a) env H = b6h H n (a.ev env) := rfl
theorem d4J (wd : Nat) (x : Src) (lo hi mx : Option Src) : pv (.slc wd x lo hi mx) env H = slcV H wd (x.ev env) (lo.map (·.ev env)) (hi.map (·.ev env)) (mx.map (·.ev env)) := rfl
theorem d2H (x : Src) (lo hi : Option Src) : pv (.slcs x lo hi) env H = slcS (x.ev env) (lo.map (·.ev env)) (hi.map (·.ev env)) := rfl
theorem d4N (z : List AV) (ps : List (Nat × Nat × Src)) : pv (.bld z ps) env H = (bldV env z ps).map .agg := rfl
theorem d2J (f : FuncId) (caps : List Src) : pv (.mkfn f caps) env H = some (.fn f (caps.map (·.ev env))) := rfl
theorem d4K (mx : Bool) (a b : Src) : pv (.mnx mx a b) env H = mnxV mx (a.ev env) (b.ev env) := rfl
theorem c4a (mx : Bool) (k k' : IntKind) (x y : Int) : mnxV mx (.int k x) (.int k' y) = some (.int k (if mx then (if y > x then y else x) else (if y < x then y else x))) := rfl
theorem d4Q (a : Src) : pv (.b2s a) env H = b2sV H (a.ev env) := rfl
theorem d1C (xs : List AV) : b2sV H (.sl 1 xs) = strB xs := rfl
theorem c2W (wd : Nat) (xs : List AV) : lenV H (.sl wd xs) = some (.int .i64 xs.length) := rfl
theorem d0w : lenV H .nil = some (.int .i64 0) := rfl
theorem b6j (id off len : Nat) (oc : Option Nat) : lenV H (.mu id off len oc) = if (hrow H id).isSome then some (.int .i64 len) else none := rfl
theorem d1t (k k' : IntKind) (x y : Int) : binV .shl (.int k x) (.int k' y) = a8F .shl k x y := rfl
theorem d1s (k k' : IntKind) (x y : Int) : binV .shr (.int k x) (.int k' y) = a8F .shr k x y := rfl
theorem c4E (k : IntKind) (x y : Int) : binV .add (.int k x) (.int k y) = some (.int k (k.wrap (x + y))) := by simp [binV, a2O]
theorem d1r (k : IntKind) (x y : Int) : binV .sub (.int k x) (.int k y) = some (.int k (k.wrap (x - y))) := by simp [binV, a2O]
theorem d1v (k : IntKind) (x y : Int) : binV .mul (.int k x) (.int k y) = some (.int k (k.wrap (x * y))) := by simp [binV, a2O]
theorem c4D (k : IntKind) (x y : Int) (h : y ≠ 0) : binV .quo (.int k x) (.int k y) = some (.int k (k.wrap (x.tdiv y))) := by simp [binV, a2O, h]
theorem c4C (k : IntKind) (x y : Int) (h : y ≠ 0) : binV .rem (.int k x) (.int k y) = some (.int k (x.tmod y)) := by simp [binV, a2O, h]
theorem d4d (k : IntKind) (x y : Int) : binV .or (.int k x) (.int k y) = some (.int k (k.wrap (BitVec.ofInt k.bits x ||| BitVec.ofInt k.bits y).toNat)) := by simp [binV, a2O]
theorem d1B (k : IntKind) (x y : Int) : binV .and (.int k x) (.int k y) = some (.int k (k.wrap (BitVec.ofInt k.bits x &&& BitVec.ofInt k.bits y).toNat)) := by simp [binV, a2O]
theorem d1q (k : IntKind) (x y : Int) : binV .xor (.int k x) (.int k y) = some (.int k (k.wrap (BitVec.ofInt k.bits x ^^^ BitVec.ofInt k.bits y).toNat)) := by simp [binV, a2O]
theorem d1A (k : IntKind) (x y : Int) : binV .eql (.int k x) (.int k y) = some (.bool (decide (x = y))) := by simp [binV, a2O]; rfl
theorem d1u (k : IntKind) (x y : Int) : binV .neq (.int k x) (.int k y) = some (.bool (decide (x ≠ y))) := by
  simp only [binV, a2O, if_true]; congr 2; by_cases h : x = y <;> simp [h]
theorem d1w (k : IntKind) (x y : Int) : binV .lss (.int k x) (.int k y) = some (.bool (decide (x < y))) := by simp [binV, a2O]
theorem d1x (k : IntKind) (x y : Int) : binV .leq (.int k x) (.int k y) = some (.bool (decide (x ≤ y))) := by simp [binV, a2O]
theorem d1y (k : IntKind) (x y : Int) : binV .gtr (.int k x) (.int k y) = some (.bool (decide (y < x))) := by simp [binV, a2O]
theorem d1z (k : IntKind) (x y : Int) : binV .geq (.int k x) (.int k y) = some (.bool (decide (y ≤ x))) := by simp [binV, a2O]
theorem c9f (x y : ByteArray) : binV .eql (.str x) (.str y) = some (.bool (x.toList == y.toList)) := rfl
theorem c9e (x y : ByteArray) : binV .neq (.str x) (.str y) = some (.bool !(x.toList == y.toList)) := rfl
theorem c7c (k : IntKind) (x y : Int) (h : 0 ≤ y) : a8F .shl k x y = some (.int k (k.wrap (x * 2 ^ (min y.toNat k.bits)))) := by simp [a8F, show ¬ y < 0 by omega]
theorem a2L (k : IntKind) (x y : Int) (h : 0 ≤ y) : a8F .shr k x y = some (.int k (x.fdiv (2 ^ (min y.toNat k.bits)))) := by simp [a8F, show ¬ y < 0 by omega]
theorem c8j (wd : Nat) (xs : List AV) (k : IntKind) (i : Int) (h0 : 0 ≤ i) (h1 : i < xs.length) : idxV H wd (.sl wd xs) (.int k i) = some (.ro (xs.getD i.toNat .top) 0) := by simp [idxV, h0, h1]
theorem b6r (wd id off len : Nat) (oc : Option Nat) (k : IntKind) (i : Int) (h0 : 0 ≤ i) (h1 : i < len) :
    idxV H wd (.mu id off len oc) (.int k i) = (hrow H id).bind fun b => if b.wd = wd then some (.loc id (off + i.toNat) 0) else none := by simp [idxV, h0, h1]
theorem c7S (n : Option Nat) (p : AV) : b6h H n p = (atV H p).bind fun cs => match n with
    | none => cs[0]?
    | some n => if n ≤ cs.length then some (.agg (cs.take n)) else none := rfl
theorem d5C (x : AV) (off : Nat) : atV H (.ro x off) = some (x.cells.drop off) := rfl
theorem b0e (id i off : Nat) : atV H (.loc id i off) = (hrow H id).bind fun b => if i < b.xs.length then some ((b.xs.getD i .top).cells.drop off) else none := rfl
end
theorem c8Y (cs : List AV) : (AV.agg cs).cells = cs := rfl
theorem c8X (k : IntKind) (n : Int) : (AV.int k n).cells = [.int k n] := rfl
theorem c6v (b : Bool) : (AV.bool b).cells = [.bool b] := rfl
theorem c8U (s : ByteArray) : (AV.str s).cells = [.str s] := rfl
theorem c8V : AV.nil.cells = [.nil] := rfl
theorem c8W (v : Value) : (AV.lit v).cells = [.lit v] := rfl
theorem d1j (wd : Nat) (xs : List AV) : (AV.sl wd xs).cells = [.sl wd xs] := rfl
theorem c4x (id off len : Nat) (oc : Option Nat) : (AV.mu id off len oc).cells = [.mu id off len oc] := rfl
theorem c1O (id i off : Nat) : (AV.loc id i off).cells = [.loc id i off] := rfl
theorem d1k (f : FuncId) (cs : List AV) : (AV.fn f cs).cells = [.fn f cs] := rfl
def hap (H L : Heap) : Heap := H ++ L
def lid (H : Heap) (i : Nat) : Nat := H.length + i
theorem a2V (H : Heap) : hap H [] = H := List.append_nil H
theorem a1r (H L : Heap) (i : Nat) : hrow (hap H L) (lid H i) = (L[i]?).join := by unfold hrow hap lid; rw [List.getElem?_append_right (by omega), Nat.add_sub_cancel_left]
theorem a5X (H L : Heap) (id : Nat) (h : id < H.length) : hrow (hap H L) id = hrow H id := by simp [hrow, hap, List.getElem?_append_left h]
theorem b6i (H L : Heap) : (hap H L).length = lid H L.length := by simp [hap, lid]
theorem a3J (H L : Heap) (i : Nat) (x : Option Blk) : (hap H L).set (lid H i) x = hap H (L.set i x) := by simp [hap, lid]
theorem b7i (H L M : Heap) : hap H L ++ M = hap H (L ++ M) := by simp [hap]
theorem a3n (H : Heap) (i : Nat) : H.length ≤ lid H i := by simp [lid]
theorem d5a (H : Heap) (i j : Nat) : (lid H i = lid H j) = (i = j) := by simp [lid]
theorem c6x {α β : Type} (a : α) (f : α → Option β) : (some a).bind f = f a := rfl
theorem join_some {α : Type} (a : Option α) : (some a).join = a := rfl
theorem Safe.weaken {x : Cx} {todo : List AItem} {env env' : Env} {H : Heap} {R : AV → Heap → Prop} (he : ∀ t, look env' t = look env t ∨ look env' t = .top) (h : Safe x todo env' H R) : Safe x todo env H R := by
  intro φ w tmps b k cs hg hn hb hk ht hsz hok hr
  refine h φ w tmps b k cs hg hn hb hk ht hsz hok (fun t => ?_)
  rcases he t with e | e
  · rw [e]; exact hr t
  · rw [e]; exact .top _
def keep (env : Env) (ts : List Nat) : Env := ts.map fun t => (t, look env t)
theorem c7P (env : Env) (ts : List Nat) (t : Nat) : look (keep env ts) t = look env t ∨ look (keep env ts) t = .top := by
  induction ts with
  | nil => exact .inr rfl
  | cons a ts ih =>
    simp only [keep, List.map_cons, look]
    split
    · rename_i h; subst h; exact .inl rfl
    · exact ih
theorem Safe.keep (ts : List Nat) {x : Cx} {todo : List AItem} {env : Env} {H : Heap} {R : AV → Heap → Prop} (h : Safe x todo (keep env ts) H R) : Safe x todo env H R := Safe.weaken (c7P env ts) h
theorem d0y (env : Env) : keep env [] = [] := rfl
theorem c8b (env : Env) (t : Nat) (ts : List Nat) : keep env (t :: ts) = (t, look env t) :: keep env ts := rfl
theorem Safe.mono {x : Cx} {todo : List AItem} {env : Env} {H : Heap} {R R' : AV → Heap → Prop} (h : Safe x todo env H R) (hr : ∀ r H', R r H' → R' r H') : Safe x todo env H R' := by
  intro φ w tmps b k cs hg hn hb hk ht hsz hok he
  obtain ⟨v, w', fr, r, φ', H', q1, q⟩ := h φ w tmps b k cs hg hn hb hk ht hsz hok he
  exact ⟨v, w', fr, r, φ', H', hr _ _ q1, q⟩
end Go.Abs
set_option linter.unusedVariables false
set_option linter.unusedSimpArgs false
namespace Go.Abs
def a1z (e e' : Env) : Prop := ∀ t, look e t = look e' t
theorem a1z.refl (e : Env) : a1z e e := fun _ => rfl
theorem a1z.symm {e e' : Env} (h : a1z e e') : a1z e' e := fun t => (h t).symm
theorem a1z.trans {a b c : Env} (h : a1z a b) (k : a1z b c) : a1z a c := fun t => (h t).trans (k t)
theorem a0j {s : Src} {e e' : Env} (h : ∀ t ∈ s.tmps, look e t = look e' t) : s.ev e = s.ev e' := by
  cases s with
  | t n => exact h n (by simp [Src.tmps])
  | c a => rfl
theorem b6A {ss : List Src} {e e' : Env} (h : ∀ t ∈ ss.flatMap Src.tmps, look e t = look e' t) : ss.map (·.ev e) = ss.map (·.ev e') :=
  List.map_congr_left fun s hs => a0j fun t ht => h t (List.mem_flatMap.2 ⟨s, hs, ht⟩)
theorem a7U {s : Option Src} {e e' : Env} (h : ∀ t ∈ c5u s, look e t = look e' t) : s.map (·.ev e) = s.map (·.ev e') := by
  cases s with
  | none => rfl
  | some s => simp only [Option.map_some]; rw [a0j (s := s) h]
theorem c1S {e e' : Env} : ∀ (ps : List (Nat × Nat × Src)) (cs : List AV), (∀ t ∈ ps.flatMap (fun p => p.2.2.tmps), look e t = look e' t) → bldV e cs ps = bldV e' cs ps
  | [], cs, h => rfl
  | (off, n, s) :: ps, cs, h => by
    have hs : s.ev e = s.ev e' := a0j fun t ht => h t (by simp [ht])
    simp only [bldV, hs]
    split
    · exact c1S ps _ fun t ht => h t (by simp only [List.flatMap_cons, List.mem_append]; exact .inr ht)
    · rfl
theorem b3T {o : POp} {e e' : Env} {H : Heap} (h : ∀ t ∈ o.reads, look e t = look e' t) : pv o e H = pv o e' H := by
  cases o <;> simp only [POp.reads, List.mem_append] at h <;> simp only [pv]
  case mv a => rw [a0j h]
  case pick c a b => rw [a0j (s := c) fun t ht => h t (.inl ht), a0j (s := a) fun t ht => h t (.inr (.inl ht)), a0j (s := b) fun t ht => h t (.inr (.inr ht))]
  case lens a => rw [a0j h]
  case len a => rw [a0j h]
  case bin op a b => rw [a0j (s := a) fun t ht => h t (.inl ht), a0j (s := b) fun t ht => h t (.inr ht)]
  case beq n a b => rw [a0j (s := a) fun t ht => h t (.inl ht), a0j (s := b) fun t ht => h t (.inr ht)]
  case un op a => rw [a0j h]
  case conv k a => rw [a0j h]
  case ext a i => rw [a0j h]
  case fldp a off => rw [a0j h]
  case idxp wd a b => rw [a0j (s := a) fun t ht => h t (.inl ht), a0j (s := b) fun t ht => h t (.inr ht)]
  case idxs a b => rw [a0j (s := a) fun t ht => h t (.inl ht), a0j (s := b) fun t ht => h t (.inr ht)]
  case load n a => rw [a0j h]
  case slc wd x lo hi mx => rw [a0j (s := x) fun t ht => h t (.inl ht), a7U (s := lo) fun t ht => h t (.inr (.inl ht)), a7U (s := hi) fun t ht => h t (.inr (.inr (.inl ht))), a7U (s := mx) fun t ht => h t (.inr (.inr (.inr ht)))]
  case slcs x lo hi => rw [a0j (s := x) fun t ht => h t (.inl ht), a7U (s := lo) fun t ht => h t (.inr (.inl ht)), a7U (s := hi) fun t ht => h t (.inr (.inr ht))]
  case bld z ps => rw [c1S ps z h]
  case mkfn f cs => rw [b6A h]
  case mnx mx a b => rw [a0j (s := a) fun t ht => h t (.inl ht), a0j (s := b) fun t ht => h t (.inr ht)]
  case b2s a => rw [a0j h]
/-- One instruction, its calls being such as only answer. -/
inductive St (P : Program) (n0 : Nat) : AIns → Env → Heap → Env → Heap → Prop where
  | skip {d t want o e H} (h : NotW (look e t) want) : St P n0 ⟨d, some (t, want), o⟩ e H (put d (.tup []) e) H
  | pure {d g o e H v} (hg : ∀ t want, g = some (t, want) → look e t = .bool want) (h : pv o e H = some v) : St P n0 ⟨d, g, .p o⟩ e H (put d v e) H
  | bsl {d g wd ps e H v} (hg : ∀ t want, g = some (t, want) → look e t = .bool want) (h : ev n0 (.bsl wd ps) e H = some (v, e, H)) : St P n0 ⟨d, g, .e (.bsl wd ps)⟩ e H (put d v e) H
  | call {d g f as e H r} (hg : ∀ t want, g = some (t, want) → look e t = .bool want) (h : ∀ L, a0n P f (as.map (·.ev e)) (H ++ L) fun r' H' => r' = r ∧ H' = H ++ L) : St P n0 ⟨d, g, .call f as⟩ e H (put d r e) H
  | callv {d g s as e H r f caps} (hg : ∀ t want, g = some (t, want) → look e t = .bool want) (hs : s.ev e = .fn f caps) (h : ∀ L, a0n P f (as.map (·.ev e) ++ caps) (H ++ L) fun r' H' => r' = r ∧ H' = H ++ L) : St P n0 ⟨d, g, .callv s as⟩ e H (put d r e) H
  | eff {d g o e H v e' H'} (hg : ∀ t want, g = some (t, want) → look e t = .bool want) (h : ev n0 o e H = some (v, e', H')) (hn : ∀ wd ps, o ≠ .bsl wd ps) : St P n0 ⟨d, g, .e o⟩ e H (put d v e') H'
/-- The instructions in the order of a list. -/
inductive Sts (P : Program) (n0 : Nat) : List AIns → Env → Heap → Env → Heap → Prop where
  | nil {e H} : Sts P n0 [] e H e H
  | cons {i l e H e1 H1 e2 H2} (h : St P n0 i e H e1 H1) (t : Sts P n0 l e1 H1 e2 H2) : Sts P n0 (i :: l) e H e2 H2
theorem a0Z (d : Option Nat) (v : AV) (e : Env) (t : Nat) : look (put d v e) t = if d = some t then v else look e t := by
  cases d with
  | none => simp [put]
  | some d =>
    simp only [put, look, Option.some.injEq]
theorem b7X {d : Option Nat} {v : AV} {e e' : Env} (h : a1z e e') : a1z (put d v e) (put d v e') := fun t => by rw [a0Z, a0Z, h t]
theorem c9J {id : Nat} {e e' : Env} (h : a1z e e') : a1z (scrub id e) (scrub id e') := fun t => by rw [a1M, a1M, h t]
/-- An effect over variables that look alike. -/
theorem d5n {n0 : Nat} {o : EOp} {e e' : Env} {H : Heap} (h : a1z e e') {v : AV} {e1 : Env} {H1 : Heap} (he : ev n0 o e H = some (v, e1, H1)) : ∃ e2, ev n0 o e' H = some (v, e2, H1) ∧ a1z e1 e2 := by
  have hs : ∀ s : Src, s.ev e = s.ev e' := fun s => a0j fun t _ => h t
  have hm : ∀ ss : List Src, ss.map (·.ev e) = ss.map (·.ev e') := fun ss => List.map_congr_left fun s _ => hs s
  cases o with
  | store n a v' =>
    simp only [ev, hs] at he ⊢
    split at he
    · rename_i id i off heq
      simp only [Option.bind_eq_some_iff] at he ⊢
      obtain ⟨b, hb, he⟩ := he
      split at he
      · rename_i hc; cases he; exact ⟨e', ⟨b, hb, by rw [if_pos hc]⟩, h⟩
      · simp at he
    · simp at he
  | box n v' =>
    simp only [ev, hs] at he ⊢
    split at he
    · rename_i hc; cases he; exact ⟨e', by rw [if_pos hc], h⟩
    · simp at he
  | bsl wd ps =>
    simp only [ev, hs, hm] at he ⊢
    split at he
    · rename_i hc; cases he; exact ⟨e', by rw [if_pos hc], h⟩
    · simp at he
  | bslm wd ps =>
    simp only [ev, hs, hm] at he ⊢
    split at he
    · rename_i hc; cases he; exact ⟨e', by rw [if_pos hc], h⟩
    · simp at he
  | mksl wd bytes z l c =>
    simp only [ev, hs] at he ⊢
    split at he
    · rename_i kl l' kc c' heq1 heq2
      split at he
      · rename_i hc; cases he; exact ⟨e', by rw [if_pos hc], h⟩
      · simp at he
    · simp at he
  | app wd bytes str a b =>
    simp only [ev, hs, Option.bind_eq_some_iff] at he ⊢
    obtain ⟨ys, hy, he⟩ := he
    split at he
    · rename_i heq
      split at he
      · rename_i hc; cases he; exact ⟨e', ⟨ys, hy, by rw [if_pos hc]⟩, h⟩
      · simp at he
    · rename_i id off len oc heq
      simp only [Option.bind_eq_some_iff] at he
      obtain ⟨r, hr, he⟩ := he
      split at he
      · rename_i hc; cases he
        refine ⟨e', ⟨ys, hy, ?_⟩, h⟩
        simp only [Option.bind_eq_some_iff]
        exact ⟨r, hr, by rw [if_pos hc]⟩
      split at he
      · rename_i hn hc; cases he
        refine ⟨scrub id e', ⟨ys, hy, ?_⟩, c9J h⟩
        simp only [Option.bind_eq_some_iff]
        exact ⟨r, hr, by rw [if_neg hn, if_pos hc]⟩
      split at he
      · rename_i hn hn2 hc; cases he
        refine ⟨e', ⟨ys, hy, ?_⟩, h⟩
        simp only [Option.bind_eq_some_iff]
        exact ⟨r, hr, by rw [if_neg hn, if_neg hn2, if_pos hc]⟩
      · simp at he
    · simp at he
  | cpy wd a b =>
    simp only [ev, hs, Option.bind_eq_some_iff] at he ⊢
    obtain ⟨ys, hy, he⟩ := he
    split at he
    · rename_i id off len oc heq
      simp only [Option.bind_eq_some_iff] at he
      obtain ⟨r, hr, he⟩ := he
      split at he
      · rename_i hc; cases he
        refine ⟨e', ⟨ys, hy, ?_⟩, h⟩
        simp only [Option.bind_eq_some_iff]
        exact ⟨r, hr, by rw [if_pos hc]⟩
      · simp at he
    · simp at he
theorem St.eqv {P : Program} {n0 : Nat} {i : AIns} {e e' : Env} {H : Heap} {e1 : Env} {H1 : Heap} (s : St P n0 i e H e1 H1) (h : a1z e e') : ∃ e2, St P n0 i e' H e2 H1 ∧ a1z e1 e2 := by
  have hs : ∀ s : Src, s.ev e = s.ev e' := fun s => a0j fun t _ => h t
  have hm : ∀ ss : List Src, ss.map (·.ev e) = ss.map (·.ev e') := fun ss => List.map_congr_left fun s _ => hs s
  cases s with
  | skip hl => exact ⟨_, .skip (by rw [← h]; exact hl), b7X h⟩
  | pure hg hp => exact ⟨_, .pure (fun t w hw => by rw [← h]; exact hg t w hw) (by rw [← b3T (fun t _ => h t)]; exact hp), b7X h⟩
  | bsl hg hp =>
    obtain ⟨e2, q1, q2⟩ := d5n h hp
    have : e2 = e' := by
      simp only [ev] at q1
      split at q1
      · cases q1; rfl
      · simp at q1
    subst this
    exact ⟨_, .bsl (fun t w hw => by rw [← h]; exact hg t w hw) q1, b7X h⟩
  | call hg hp => exact ⟨_, .call (fun t w hw => by rw [← h]; exact hg t w hw) (by rw [← hm]; exact hp), b7X h⟩
  | callv hg hf hp => exact ⟨_, .callv (fun t w hw => by rw [← h]; exact hg t w hw) (by rw [← hs]; exact hf) (by rw [← hm]; exact hp), b7X h⟩
  | eff hg hp hn =>
    obtain ⟨e2, q1, q2⟩ := d5n h hp
    exact ⟨_, .eff (fun t w hw => by rw [← h]; exact hg t w hw) q1 hn, b7X q2⟩
theorem Sts.eqv {P : Program} {n0 : Nat} {l : List AIns} {e : Env} {H : Heap} {e1 : Env} {H1 : Heap} (s : Sts P n0 l e H e1 H1) : ∀ {e' : Env}, a1z e e' → ∃ e2, Sts P n0 l e' H e2 H1 ∧ a1z e1 e2 := by
  induction s with
  | nil => exact fun h => ⟨_, .nil, h⟩
  | cons st _ ih =>
    intro e' h
    obtain ⟨e2, q1, q2⟩ := st.eqv h
    obtain ⟨e3, r1, r2⟩ := ih q2
    exact ⟨e3, .cons q1 r1, r2⟩
end Go.Abs
set_option linter.unusedVariables false
set_option linter.unusedSimpArgs false
namespace Go.Abs
section
variable {P : Program} {n0 : Nat}
theorem a8u {H L : Heap} {id : Nat} {b : Blk} (h : hrow H id = some b) : hrow (H ++ L) id = some b := by
  have := a1t h
  unfold hrow
  rw [List.getElem?_append_left (a0k this), this]; rfl
theorem b6q {H : Heap} {id : Nat} (h : (hrow H id).isSome = true) : ∃ b, hrow H id = some b := Option.isSome_iff_exists.1 h
theorem d5B {H L : Heap} {a : AV} {cs : List AV} (h : atV H a = some cs) : atV (H ++ L) a = some cs := by
  cases a <;> simp only [atV] at h ⊢ <;> first | exact h | skip
  case loc id i off =>
    simp only [Option.bind_eq_some_iff] at h ⊢
    obtain ⟨b, hb, h⟩ := h
    exact ⟨b, a8u hb, h⟩
theorem d4R {o : POp} {e : Env} {H L : Heap} {v : AV} (h : pv o e H = some v) : pv o e (H ++ L) = some v := by
  cases o <;> simp only [pv] at h ⊢ <;> first | exact h | skip
  case len a =>
    generalize a.ev e = x at h ⊢
    cases x <;> simp only [lenV] at h ⊢ <;> first | exact h | skip
    case mu id off len oc =>
      split at h
      · rename_i hs
        obtain ⟨b, hb⟩ := b6q hs
        rw [if_pos (by rw [a8u hb]; rfl)]; exact h
      · simp at h
  case fldp a off =>
    generalize a.ev e = x at h ⊢
    cases x <;> simp only at h ⊢ <;> first | exact h | skip
    case loc id i o =>
      split at h
      · rename_i hs
        obtain ⟨b, hb⟩ := b6q hs
        rw [if_pos (by rw [a8u hb]; rfl)]; exact h
      · simp at h
  case idxp wd a i =>
    generalize a.ev e = x at h ⊢
    generalize i.ev e = y at h ⊢
    cases y <;> simp only [idxV] at h ⊢ <;> first | exact h | skip
    cases x <;> simp only at h ⊢ <;> first | exact h | skip
    simp only [Option.bind_eq_some_iff] at h ⊢
    obtain ⟨b, hb, h⟩ := h
    exact ⟨b, a8u hb, h⟩
  case load n a =>
    simp only [b6h, Option.bind_eq_some_iff] at h ⊢
    obtain ⟨cs, hc, h⟩ := h
    exact ⟨cs, d5B hc, h⟩
  case slc wd x lo hi mx =>
    generalize x.ev e = x at h ⊢
    generalize lo.map (·.ev e) = lo at h ⊢
    generalize hi.map (·.ev e) = hi at h ⊢
    generalize mx.map (·.ev e) = mx at h ⊢
    cases x <;> simp only [slcV] at h ⊢ <;> first | exact h | skip
    simp only [Option.bind_eq_some_iff] at h ⊢
    obtain ⟨b, hb, h⟩ := h
    exact ⟨b, a8u hb, h⟩
  case b2s a =>
    generalize a.ev e = x at h ⊢
    cases x <;> simp only [b2sV] at h ⊢ <;> first | exact h | skip
    simp only [Option.bind_eq_some_iff] at h ⊢
    obtain ⟨b, hb, h⟩ := h
    exact ⟨b, a8u hb, h⟩
theorem c9P {o : POp} {e : Env} {H H' : Heap} (h : o.hfree = true) : pv o e H = pv o e H' := by
  cases o <;> first | (simp [POp.hfree] at h; done) | rfl
theorem a0L {g : Option (Nat × Bool)} {e e' : Env} (hg : ∀ t want, g = some (t, want) → look e t = .bool want) (h : ∀ t ∈ (match g with | some (t, _) => [t] | none => []), look e t = look e' t) : ∀ t want, g = some (t, want) → look e' t = .bool want := by
  intro t want hh
  subst hh
  rw [← h t (by simp)]
  exact hg t want rfl
theorem b1w {x : AIns} {e : Env} {H : Heap} {e1 : Env} {H1 : Heap} (s : St P n0 x e H e1 H1) (hq : x.op.quiet = true) :
    H1 = H ∧ ∃ v, e1 = put x.dst v e ∧ ∀ e' L, (∀ t ∈ x.reads, look e t = look e' t) → St P n0 x e' (H ++ L) (put x.dst v e') (H ++ L) := by
  cases s with
  | skip hl => exact ⟨rfl, .tup [], rfl, fun e' L h => .skip (by rw [← h _ (by simp [AIns.reads])]; exact hl)⟩
  | pure hg hp => exact ⟨rfl, _, rfl, fun e' L h => .pure (a0L hg fun t ht => h t (by simp only [AIns.reads, List.mem_append]; exact .inl ht)) (by rw [← b3T (fun t ht => h t (by simp only [AIns.reads, List.mem_append]; exact .inr ht))]; exact d4R hp)⟩
  | bsl hg hp =>
    refine ⟨rfl, _, rfl, fun e' L h => .bsl (a0L hg fun t ht => h t (by simp only [AIns.reads, List.mem_append]; exact .inl ht)) ?_⟩
    rename_i wd ps v
    have hev : ∀ s ∈ ps, s.ev e = s.ev e' := fun s hs => a0j fun t ht => h t (by simp only [AIns.reads, AOp.reads, EOp.reads, List.mem_append, List.mem_flatMap]; exact .inr ⟨s, hs, ht⟩)
    have hm : ps.map (·.ev e) = ps.map (·.ev e') := List.map_congr_left hev
    simp only [ev] at hp ⊢
    split at hp
    · rename_i hc
      cases hp
      rw [if_pos, hm]
      refine ⟨hc.1, ?_⟩
      have := hc.2
      simp only [List.all_eq_true] at this ⊢
      intro s hs
      have h2 := this s hs
      rw [hev s hs] at h2
      exact h2
    · simp at hp
  | call hg hp =>
    refine ⟨rfl, _, rfl, fun e' L h => .call (a0L hg fun t ht => h t (by simp only [AIns.reads, List.mem_append]; exact .inl ht)) ?_⟩
    intro L'
    rw [← b6A (fun t ht => h t (by simp only [AIns.reads, AOp.reads, List.mem_append]; exact .inr ht)), List.append_assoc]
    exact hp (L ++ L')
  | callv hg hf hp =>
    refine ⟨rfl, _, rfl, fun e' L h => .callv (a0L hg fun t ht => h t (by simp only [AIns.reads, List.mem_append]; exact .inl ht)) (by rw [← a0j (fun t ht => h t (by simp only [AIns.reads, AOp.reads, List.mem_append]; exact .inr (.inl ht)))]; exact hf) ?_⟩
    intro L'
    rw [← b6A (fun t ht => h t (by simp only [AIns.reads, AOp.reads, List.mem_append]; exact .inr (.inr ht))), List.append_assoc]
    exact hp (L ++ L')
  | eff hg hp hn =>
    rename_i o v _
    cases o <;> first | (simp [AOp.quiet] at hq; done) | exact absurd rfl (hn _ _)
theorem b1T {x : AIns} {e : Env} {H : Heap} {e1 : Env} {H1 : Heap} (s : St P n0 x e H e1 H1) (hq : x.op.hfree = true) :
    H1 = H ∧ ∃ v, e1 = put x.dst v e ∧ ∀ e' H', (∀ t ∈ x.reads, look e t = look e' t) → St P n0 x e' H' (put x.dst v e') H' := by
  cases s with
  | skip hl => exact ⟨rfl, .tup [], rfl, fun e' L h => .skip (by rw [← h _ (by simp [AIns.reads])]; exact hl)⟩
  | pure hg hp => exact ⟨rfl, _, rfl, fun e' L h => .pure (a0L hg fun t ht => h t (by simp only [AIns.reads, List.mem_append]; exact .inl ht)) (by rw [← b3T (fun t ht => h t (by simp only [AIns.reads, List.mem_append]; exact .inr ht))]; rw [c9P (H' := H) (by simpa [AOp.hfree] using hq)]; exact hp)⟩
  | bsl hg hp => simp [AOp.hfree] at hq
  | call hg hp => simp [AOp.hfree] at hq
  | callv hg hf hp => simp [AOp.hfree] at hq
  | eff hg hp hn => simp [AOp.hfree] at hq
theorem b1t {x : AIns} {e : Env} {H : Heap} {e1 : Env} {H1 : Heap} (s : St P n0 x e H e1 H1) (hq : x.op.isStore = true) :
    ∃ v, e1 = put x.dst v e ∧ ∀ e', (∀ t ∈ x.reads, look e t = look e' t) → St P n0 x e' H (put x.dst v e') H1 := by
  cases s with
  | skip hl => exact ⟨.tup [], rfl, fun e' h => .skip (by rw [← h _ (by simp [AIns.reads])]; exact hl)⟩
  | pure hg hp => simp [AOp.isStore] at hq
  | bsl hg hp => simp [AOp.isStore] at hq
  | call hg hp => simp [AOp.isStore] at hq
  | callv hg hf hp => simp [AOp.isStore] at hq
  | eff hg hp hn =>
    rename_i o v _
    cases o <;> first | (simp [AOp.isStore] at hq; done) | skip
    rename_i n a b
    have hp0 := hp
    simp only [ev] at hp
    split at hp
    · rename_i id i off heq
      simp only [Option.bind_eq_some_iff] at hp
      obtain ⟨blk, hb, hp⟩ := hp
      split at hp
      · rename_i hc
        cases hp
        refine ⟨_, rfl, fun e' h => .eff (a0L hg fun t ht => h t (by simp only [AIns.reads, List.mem_append]; exact .inl ht)) ?_ (by simp)⟩
        have ha : a.ev e = a.ev e' := a0j fun t ht => h t (by simp only [AIns.reads, AOp.reads, EOp.reads, List.mem_append]; exact .inr (.inl ht))
        have hbv : b.ev e = b.ev e' := a0j fun t ht => h t (by simp only [AIns.reads, AOp.reads, EOp.reads, List.mem_append]; exact .inr (.inr ht))
        rw [hbv] at hc
        simp only [ev, ← ha, heq, Option.bind_eq_some_iff]
        exact ⟨blk, hb, by rw [if_pos hc, hbv]⟩
      · simp at hp
    · simp at hp
theorem d1n {x : AIns} {e : Env} {H : Heap} {e1 : Env} {H1 : Heap} (s : St P n0 x e H e1 H1) (hq : x.op.isBox = true) :
    ∃ v L, H1 = H ++ L ∧ e1 = put x.dst v e ∧ ∀ e', (∀ t ∈ x.reads, look e t = look e' t) → St P n0 x e' H (put x.dst v e') H1 := by
  cases s with
  | skip hl => exact ⟨.tup [], [], by simp, rfl, fun e' h => .skip (by rw [← h _ (by simp [AIns.reads])]; exact hl)⟩
  | pure hg hp => simp [AOp.isBox] at hq
  | bsl hg hp => simp [AOp.isBox] at hq
  | call hg hp => simp [AOp.isBox] at hq
  | callv hg hf hp => simp [AOp.isBox] at hq
  | eff hg hp hn =>
    rename_i o v _
    cases o <;> first | (simp [AOp.isBox] at hq; done) | skip
    case box n b =>
      simp only [ev] at hp
      split at hp
      · rename_i hc
        cases hp
        refine ⟨_, _, rfl, rfl, fun e' h => .eff (a0L hg fun t ht => h t (by simp only [AIns.reads, List.mem_append]; exact .inl ht)) ?_ (by simp)⟩
        have hbv : b.ev e = b.ev e' := a0j fun t ht => h t (by simp only [AIns.reads, AOp.reads, EOp.reads, List.mem_append]; exact .inr ht)
        rw [hbv] at hc
        simp only [ev]
        rw [if_pos hc, hbv]
      · simp at hp
    case bslm wd ps =>
      simp only [ev] at hp
      split at hp
      · rename_i hc
        cases hp
        refine ⟨_, _, rfl, rfl, fun e' h => .eff (a0L hg fun t ht => h t (by simp only [AIns.reads, List.mem_append]; exact .inl ht)) ?_ (by simp)⟩
        have hev : ∀ s ∈ ps, s.ev e = s.ev e' := fun s hs => a0j fun t ht => h t (by simp only [AIns.reads, AOp.reads, EOp.reads, List.mem_append, List.mem_flatMap]; exact .inr ⟨s, hs, ht⟩)
        have hm : ps.map (·.ev e) = ps.map (·.ev e') := List.map_congr_left hev
        simp only [ev]
        rw [if_pos, hm]
        refine ⟨hc.1, ?_⟩
        have := hc.2
        simp only [List.all_eq_true] at this ⊢
        intro s hs
        have h2 := this s hs
        rw [hev s hs] at h2
        exact h2
      · simp at hp
theorem b4e {y : AIns} {e : Env} {H : Heap} {e1 : Env} {H1 : Heap} (s : St P n0 y e H e1 H1) (hq : y.op.isApp = true) :
    ∃ v, (e1 = put y.dst v e ∧ ∀ e', (∀ t ∈ y.reads, look e t = look e' t) → St P n0 y e' H (put y.dst v e') H1) ∨
      ∃ id, e1 = put y.dst v (scrub id e) ∧ ∀ e', (∀ t ∈ y.reads, look e t = look e' t) → St P n0 y e' H (put y.dst v (scrub id e')) H1 := by
  cases s with
  | skip hl => exact ⟨.tup [], .inl ⟨rfl, fun e' h => .skip (by rw [← h _ (by simp [AIns.reads])]; exact hl)⟩⟩
  | pure hg hp => simp [AOp.isApp] at hq
  | bsl hg hp => simp [AOp.isApp] at hq
  | call hg hp => simp [AOp.isApp] at hq
  | callv hg hf hp => simp [AOp.isApp] at hq
  | eff hg hp hn =>
    rename_i d g o v e2
    cases o <;> first | (simp [AOp.isApp] at hq; done) | skip
    rename_i wd bytes str a b
    have hab : ∀ e', (∀ t ∈ (AIns.mk d g (.e (.app wd bytes str a b)) : AIns).reads, look e t = look e' t) → a.ev e = a.ev e' ∧ b.ev e = b.ev e' := fun e' h =>
      ⟨a0j fun t ht => h t (by simp only [AIns.reads, AOp.reads, EOp.reads, List.mem_append]; exact .inr (.inl ht)), a0j fun t ht => h t (by simp only [AIns.reads, AOp.reads, EOp.reads, List.mem_append]; exact .inr (.inr ht))⟩
    have hgd : ∀ e', (∀ t ∈ (AIns.mk d g (.e (.app wd bytes str a b)) : AIns).reads, look e t = look e' t) → ∀ t want, g = some (t, want) → look e' t = .bool want := fun e' h => a0L hg fun t ht => h t (by simp only [AIns.reads, List.mem_append]; exact .inl ht)
    simp only [ev, Option.bind_eq_some_iff] at hp
    obtain ⟨ys, hys, hp⟩ := hp
    refine ⟨v, ?_⟩
    split at hp
    · rename_i hae
      split at hp
      · rename_i hc
        cases hp
        refine .inl ⟨rfl, fun e' h => .eff (hgd e' h) ?_ (by simp)⟩
        simp only [ev, ← (hab e' h).1, ← (hab e' h).2, hys, Option.bind_some, hae]
        rw [if_pos hc]
      · simp at hp
    · rename_i id off len oc hae
      simp only [Option.bind_eq_some_iff] at hp
      obtain ⟨r, hr, hp⟩ := hp
      split at hp
      · rename_i hc
        cases hp
        refine .inl ⟨rfl, fun e' h => .eff (hgd e' h) ?_ (by simp)⟩
        simp only [ev, ← (hab e' h).1, ← (hab e' h).2, hys, Option.bind_some, hae, hr]
        rw [if_pos hc]
      · rename_i hc0
        split at hp
        · rename_i hc
          cases hp
          refine .inr ⟨id, rfl, fun e' h => .eff (hgd e' h) ?_ (by simp)⟩
          simp only [ev, ← (hab e' h).1, ← (hab e' h).2, hys, Option.bind_some, hae, hr]
          rw [if_neg hc0, if_pos hc]
        · rename_i hc1
          split at hp
          · rename_i hc
            cases hp
            refine .inl ⟨rfl, fun e' h => .eff (hgd e' h) ?_ (by simp)⟩
            simp only [ev, ← (hab e' h).1, ← (hab e' h).2, hys, Option.bind_some, hae, hr]
            rw [if_neg hc0, if_neg hc1, if_pos hc]
          · simp at hp
    · simp at hp
theorem d4X (id : Nat) (b : Bool) : nref id (.bool b) = true := a0q.2 (.bool b)
theorem d3a {x : AIns} {e : Env} {H : Heap} {e1 : Env} {H1 : Heap} (s : St P n0 x e H e1 H1) (hq : x.op.isMv = true) :
    H1 = H ∧ ∃ v, e1 = put x.dst v e ∧ (∀ e' H', (∀ t ∈ x.reads, look e t = look e' t) → St P n0 x e' H' (put x.dst v e') H') ∧
      ∀ id e' H', (∀ t ∈ x.reads, (if nref id (look e t) then look e t else .top) = look e' t) → St P n0 x e' H' (put x.dst (if nref id v then v else .top) e') H' := by
  have hfr : x.op.hfree = true := by
    cases h : x.op <;> rw [h] at hq <;> first | (simp [AOp.isMv] at hq; done) | skip
    rename_i o
    cases o <;> first | rfl | (simp [AOp.isMv] at hq; done)
  have hh := b1T s hfr
  cases s with
  | skip hl =>
    rename_i d t want o
    refine ⟨rfl, .tup [], rfl, fun e' L h => .skip (by rw [← h _ (by simp [AIns.reads])]; exact hl), fun id e' H' h => ?_⟩
    have h1 := h t (by simp [AIns.reads])
    have ht : nref id (.tup []) = true := a0q.2 (.tup _ fun c hc => absurd hc (by simp))
    rw [if_pos ht]
    refine .skip ?_
    rw [← h1]
    rcases hl with ⟨c, hc, hn⟩ | hc
    · rw [hc, if_pos (d4X id c)]; exact .inl ⟨c, rfl, hn⟩
    · rw [hc, if_pos ht]; exact .inr rfl
  | pure hg hp =>
    rename_i d g o v
    cases o <;> first | (simp [AOp.isMv] at hq; done) | skip
    rename_i a
    cases a <;> first | (simp [AOp.isMv] at hq; done) | skip
    rename_i k
    have hv : v = look e k := by simp only [pv, Src.ev, Option.some.injEq] at hp; exact hp.symm
    subst hv
    refine ⟨rfl, _, rfl, fun e' H' h => .pure (a0L hg fun t ht => h t (by simp only [AIns.reads, List.mem_append]; exact .inl ht)) ?_, fun id e' H' h => .pure ?_ ?_⟩
    · simp only [pv, Src.ev]
      rw [← h k (by simp [AIns.reads, AOp.reads, POp.reads, Src.tmps])]
    · intro t want hh
      subst hh
      have h1 := h t (by simp [AIns.reads])
      rw [hg t want rfl, if_pos (d4X id want)] at h1
      exact h1.symm
    · simp only [pv, Src.ev]
      rw [← h k (by simp [AIns.reads, AOp.reads, POp.reads, Src.tmps])]
  | bsl hg hp => simp [AOp.isMv] at hq
  | call hg hp => simp [AOp.isMv] at hq
  | callv hg hf hp => simp [AOp.isMv] at hq
  | eff hg hp hn => simp [AOp.isMv] at hq
theorem a1j {d : Option Nat} {v : AV} {e : Env} {rs : List Nat} (h : (match d with | some d => !rs.contains d | none => true) = true) : ∀ t ∈ rs, look e t = look (put d v e) t := by
  intro t ht
  rw [a0Z]
  split
  · rename_i hd
    subst hd
    simp at h
    exact absurd ht h
  · rfl
theorem a7g {d1 d2 : Option Nat} {v1 v2 : AV} {e : Env} (h : ∀ d, d1 = some d → d2 ≠ some d) : a1z (put d1 v1 (put d2 v2 e)) (put d2 v2 (put d1 v1 e)) := by
  intro t
  simp only [a0Z]
  by_cases h1 : d1 = some t
  · rw [if_pos h1, if_neg (h t h1), if_pos h1]
  · rw [if_neg h1, if_neg h1]
theorem c5c {x y : AIns} (q1 : x.op.isMv = true) (q2 : y.op.isApp = true) {e : Env} {H : Heap} {e1 : Env} {H1 : Heap} {e2 : Env} {H2 : Heap} (hx : ∀ v, ∀ t ∈ y.reads, look (put x.dst v e) t = look e t)
    (hT2 : (match y.dst with | some d => !x.reads.contains d | none => true) = true) (hd : ∀ d, y.dst = some d → x.dst ≠ some d) (s : St P n0 x e H e1 H1) (t : St P n0 y e1 H1 e2 H2) :
    ∃ e1' H' e2', St P n0 y e H e1' H' ∧ St P n0 x e1' H' e2' H2 ∧ a1z e2 e2' := by
  obtain ⟨rfl, v, rfl, f, f2⟩ := d3a s q1
  obtain ⟨u, ⟨rfl, g⟩ | ⟨id, rfl, g⟩⟩ := b4e t q2
  · exact ⟨_, H2, _, g e (hx v), f (put y.dst u e) H2 (a1j hT2), a7g hd⟩
  · refine ⟨_, H2, _, g e (hx v), f2 id (put y.dst u (scrub id e)) H2 (fun t ht => ?_), fun t => ?_⟩
    · rw [← a1j (v := u) (e := scrub id e) hT2 t ht, a1M]
    · simp only [a0Z, a1M]
      by_cases h1 : y.dst = some t
      · rw [if_pos h1, if_neg (hd t h1), if_pos h1]
      · rw [if_neg h1, if_neg h1]
        split <;> rfl
/-- Two instructions apart may change places. -/
theorem St.swap {x y : AIns} (hT : a5t x y = true) (hH : b7j x y = true) {e : Env} {H : Heap} {e1 : Env} {H1 : Heap} {e2 : Env} {H2 : Heap} (s : St P n0 x e H e1 H1) (t : St P n0 y e1 H1 e2 H2) :
    ∃ e1' H' e2', St P n0 y e H e1' H' ∧ St P n0 x e1' H' e2' H2 ∧ a1z e2 e2' := by
  simp only [a5t, Bool.and_eq_true] at hT
  obtain ⟨hT1, hT2⟩ := hT
  have hx : ∀ v, ∀ t ∈ y.reads, look (put x.dst v e) t = look e t := by
    intro v t ht
    refine (a1j (rs := y.reads) (d := x.dst) ?_ t ht).symm
    cases hd : x.dst <;> simp only [hd] at hT1 ⊢
    simp only [Bool.and_eq_true] at hT1
    exact hT1.1
  have hy : ∀ v, ∀ t ∈ x.reads, look e t = look (put y.dst v e) t := fun v => a1j hT2
  have hd : ∀ d, y.dst = some d → x.dst ≠ some d := by
    intro d h1 h2
    simp only [h2, Bool.and_eq_true] at hT1
    rw [h1] at hT1
    simp at hT1
  simp only [b7j, Bool.or_eq_true, Bool.and_eq_true] at hH
  rcases hH with (((⟨q1, q2⟩ | ⟨q1, q2⟩) | ⟨q1, q2⟩) | ⟨q1, q2⟩) | ⟨q1, q2⟩
  · obtain ⟨rfl, v, rfl, f⟩ := b1w s q1
    obtain ⟨rfl, u, rfl, g⟩ := b1w t q2
    refine ⟨_, H2, _, by simpa using g e [] (hx v), by simpa using f (put y.dst u e) [] (hy u), a7g hd⟩
  · obtain ⟨v, rfl, f⟩ := b1t s q1
    obtain ⟨rfl, u, rfl, g⟩ := b1T t q2
    exact ⟨_, H, _, g e H (hx v), f (put y.dst u e) (hy u), a7g hd⟩
  · obtain ⟨rfl, v, rfl, f⟩ := b1T s q1
    obtain ⟨u, rfl, g⟩ := b1t t q2
    exact ⟨_, H2, _, g e (hx v), f (put y.dst u e) H2 (hy u), a7g hd⟩
  · obtain ⟨rfl, v, rfl, f⟩ := b1w s q1
    obtain ⟨u, L, rfl, rfl, g⟩ := d1n t q2
    exact ⟨_, _, _, g e (hx v), f (put y.dst u e) L (hy u), a7g hd⟩
  · exact c5c q1 q2 hx hT2 hd s t
/-- Two instructions that may change places where G holds. -/
def SwG (P : Program) (n0 : Nat) (G : Env → Prop) (x y : AIns) : Prop := ∀ {e : Env} {H : Heap} {e1 : Env} {H1 : Heap} {e2 : Env} {H2 : Heap}, G e → St P n0 x e H e1 H1 → St P n0 y e1 H1 e2 H2 →
  ∃ e1' H' e2', St P n0 y e H e1' H' ∧ St P n0 x e1' H' e2' H2 ∧ a1z e2 e2'
def c3K (P : Program) (n0 : Nat) (G : Env → Prop) (x : AIns) : Prop := ∀ {e : Env} {H : Heap} {e1 : Env} {H1 : Heap}, G e → St P n0 x e H e1 H1 → G e1
/-- An instruction apart from all ahead of it may be the first. -/
theorem Sts.bubble {G : Env → Prop} {y : AIns} {B : List AIns} {ef : Env} {Hf : Heap} : ∀ (A : List AIns) {e : Env} {H : Heap}, G e → (∀ x ∈ A, SwG P n0 G x y ∧ c3K P n0 G x) → Sts P n0 (A ++ y :: B) e H ef Hf →
    ∃ e1 H1 ef', St P n0 y e H e1 H1 ∧ Sts P n0 (A ++ B) e1 H1 ef' Hf ∧ a1z ef ef'
  | [], e, H, hg, hA, s => by
    cases s with
    | cons h t => exact ⟨_, _, _, h, t, .refl _⟩
  | x :: A, e, H, hg, hA, s => by
    cases s with
    | cons h t =>
      obtain ⟨e1, H1, ef', q1, q2, q3⟩ := Sts.bubble A ((hA x (by simp)).2 hg h) (fun x hx => hA x (by simp [hx])) t
      obtain ⟨e1', H', e2', r1, r2, r3⟩ := (hA x (by simp)).1 hg h q1
      obtain ⟨ef2, u1, u2⟩ := q2.eqv r3
      exact ⟨e1', H', ef2, r1, .cons r2 u1, q3.trans u2⟩
end
section
variable {ops : List Oper}
/-- What comes before a member is a member. -/
def b9s (ops : List Oper) (S : Nat → Prop) : Prop := ∀ j o, S j → ops[j]? = some o → ∀ e ∈ o.after, Region.binds .any e = true → S e.on
theorem c5a {T : List Nat} {o : Oper} {a : Nat} (h : (tcOf T o).testBit a = true) : ∃ e ∈ o.after, Region.binds .any e = true ∧ (a = e.on ∨ (T.getD e.on 0).testBit a = true) := by
  unfold tcOf at h
  have main : ∀ (l : List Edge) (acc : Nat), (l.foldl (fun acc e => if Region.binds .any e then (acc ||| ((1 <<< e.on) ||| T.getD e.on 0)) else acc) acc).testBit a = true →
      acc.testBit a = true ∨ ∃ e ∈ l, Region.binds .any e = true ∧ (a = e.on ∨ (T.getD e.on 0).testBit a = true) := by
    intro l
    induction l with
    | nil => intro acc h; exact .inl h
    | cons e l ih =>
      intro acc h
      rw [List.foldl_cons] at h
      rcases ih _ h with h1 | ⟨e', he', h1⟩
      · by_cases hb : Region.binds .any e = true
        · rw [if_pos hb] at h1
          simp only [Nat.testBit_or, Bool.or_eq_true] at h1
          rcases h1 with h1 | h1 | h1
          · exact .inl h1
          · refine .inr ⟨e, by simp, hb, .inl ?_⟩
            rw [Nat.one_shiftLeft, Nat.testBit_two_pow] at h1
            exact (of_decide_eq_true h1).symm
          · exact .inr ⟨e, by simp, hb, .inr h1⟩
        · rw [if_neg hb] at h1
          exact .inl h1
      · exact .inr ⟨e', by simp [he'], h1⟩
  rcases main _ 0 h with h1 | ⟨e, he, h1⟩
  · simp at h1
  · exact ⟨e, by simpa using he, h1⟩
theorem a9z {S : Nat → Prop} (hS : b9s ops S) : ∀ (r : List Oper) (pre : List Oper) (T : List Nat), ops = pre ++ r → T.length = pre.length →
    (∀ (i m : Nat) (o : Oper), T[i]? = some m → ops[i]? = some o → (∀ e ∈ o.after, Region.binds .any e = true → S e.on) → ∀ a, m.testBit a = true → S a) →
    ∀ (i m : Nat) (o : Oper), (a6P r T)[i]? = some m → ops[i]? = some o → (∀ e ∈ o.after, Region.binds .any e = true → S e.on) → ∀ a, m.testBit a = true → S a
  | [], pre, T, h, hl, hT => by simpa [a6P] using hT
  | o :: r, pre, T, h, hl, hT => by
    simp only [a6P]
    refine a9z hS r (pre ++ [o]) _ (by simp [h]) (by simp [hl]) ?_
    intro i m o' hm ho' he a ha
    rcases Nat.lt_or_ge i T.length with hi | hi
    · rw [List.getElem?_append_left hi] at hm
      exact hT i m o' hm ho' he a ha
    · have hi' : i = T.length := by
        have := a0c hm
        simp at this; omega
      subst hi'
      simp at hm
      have : o' = o := by
        rw [h, hl] at ho'
        simpa using ho'.symm
      subst this
      subst hm
      obtain ⟨e, h1, h2, h3⟩ := c5a ha
      rcases h3 with rfl | h3
      · exact he e h1 h2
      · have hs := he e h1 h2
        cases hx : T[e.on]? with
        | none => simp [List.getD_eq_getElem?_getD, hx] at h3
        | some m' =>
          have h3' : m'.testBit a = true := by simpa [List.getD_eq_getElem?_getD, hx] using h3
          have hlt := a0c hx
          have hlt' : e.on < ops.length := by rw [h]; simp; omega
          exact hT e.on m' ops[e.on] hx (List.getElem?_eq_getElem hlt') (fun e2 q1 q2 => hS e.on _ hs (List.getElem?_eq_getElem hlt') e2 q1 q2) a h3'
theorem b1j {m : Nat} {y : AIns} : ∀ {k : Nat} {pre : List AIns}, c0n m y k pre = true → ∀ a x, pre[a]? = some x → m.testBit (k + a) = true ∨ (a5t x y = true ∧ b7j x y = true)
  | _, [], _, a, x, hx => by simp at hx
  | k, p :: pre, h, a, x, hx => by
    simp only [c0n, Bool.and_eq_true, Bool.or_eq_true] at h
    cases a with
    | zero => simp at hx; subst hx; exact h.1
    | succ a =>
      rw [show k + (a + 1) = (k + 1) + a by omega]
      exact b1j h.2 a x (by simpa using hx)
theorem b1k {T : List Nat} : ∀ {l pre : List AIns}, b7b T pre.length pre l = true → ∀ i a x y, pre.length ≤ i → a < i → (pre ++ l)[a]? = some x → (pre ++ l)[i]? = some y → (T.getD i 0).testBit a = true ∨ (a5t x y = true ∧ b7j x y = true)
  | [], pre, h, i, a, x, y, h0, h1, h2, h3 => by
    have := a0c h3
    simp at this; omega
  | z :: l, pre, h, i, a, x, y, h0, h1, h2, h3 => by
    simp only [b7b, Bool.and_eq_true] at h
    rcases Nat.lt_or_eq_of_le h0 with hlt | heq
    · have h' : b7b T (pre ++ [z]).length (pre ++ [z]) l = true := by simpa using h.2
      exact b1k h' i a x y (by simp; omega) h1 (by simpa using h2) (by simpa using h3)
    · subst heq
      simp at h3
      subst h3
      rw [List.getElem?_append_left h1] at h2
      have := b1j h.1 a x h2
      simpa using this
theorem a8n : ∀ {k : Nat} {l : List Oper}, b7g k l = true → ∀ i o, l[i]? = some o → ∀ e ∈ o.after, Region.binds .any e = true → e.on < k + i
  | _, [], _, i, o, h => by simp at h
  | k, p :: l, h, i, o, ho => by
    simp only [b7g, Bool.and_eq_true] at h
    cases i with
    | zero =>
      simp at ho; subst ho
      intro e he hb
      have := List.all_eq_true.1 h.1 e (by simpa using he)
      simpa [hb] using this
    | succ i =>
      rw [show k + (i + 1) = (k + 1) + i by omega]
      exact a8n h.2 i o (by simpa using ho)
end
section
variable {P : Program} {nt : Nat}
theorem a8k {mu : Nat → Nat → Bool} {rid : Nat} {ops : Array Oper} : ∀ (l0 : List Oper) (k : Nat) (l : List AIns), b2a P mu nt rid ops k l0 = some l → l.length = l0.length ∧ ∀ i o, l0[i]? = some o → ∃ x, l[i]? = some x ∧ cins P (mu rid (k + i)) nt ops o = some x
  | [], k, l, h => by
    simp [b2a] at h; subst h; simp
  | o :: l0, k, l, h => by
    simp only [b2a] at h
    split at h
    · rename_i i l' hi hl
      cases h
      obtain ⟨q1, q2⟩ := a8k l0 (k + 1) l' hl
      refine ⟨by simp [q1], fun j o' ho => ?_⟩
      cases j with
      | zero => simp at ho; subst ho; exact ⟨i, by simp, hi⟩
      | succ j =>
        obtain ⟨x, r1, r2⟩ := q2 j o' (by simpa using ho)
        exact ⟨x, by simpa using r1, by rw [show k + (j + 1) = (k + 1) + j by omega]; exact r2⟩
    · simp at h
/-- One instruction, in the model. -/
theorem St.wpOp {n0 : Nat} {mutable : Bool} {ops : Array Oper} {o : Oper} {j : Nat} (hj : ops[j]? = some o) {x : AIns} (hi : cins P mutable nt ops o = some x) {E : Emb} {env : Env} {tmps : Array Value} (hsz : tmps.size = nt)
    (hok : HOk E) (he : a0z E env tmps) (hn : n0 ≤ E.H.length) {e1 : Env} {H1 : Heap} (s : St P n0 x env E.H e1 H1) {Q : Exit → Act → World → Prop} {next : Act → World → Prop}
    (hnext : ∀ a w, Kc n0 nt E (fun e' H' => e' = e1 ∧ H' = H1) a w → next a w) : Go.wpOp P ops Q j next ⟨tmps, []⟩ E.w := by
  unfold cins at hi
  split at hi
  · rename_i hd
    split at hi
    · rename_i g a hg ha
      cases hi
      have hw := c0H (o := o) he hg
      unfold Go.wpOp
      rw [hj]
      simp only
      have go : (∀ t want, g = some (t, want) → look env t = .bool want) → a4w P n0 a o.dst (fun e' H' => e' = e1 ∧ H' = H1) env E.H → (if Region.wanted o (yielded ops tmps) then o.wp P ⟨tmps, []⟩ E.w next Q ∨ (o.asks P ⟨tmps, []⟩ E.w ∧ LetsOut Q) else next ((Act.mk tmps []).put o.dst undef) E.w) := by
        intro hgd hs
        have hwt : Region.wanted o (yielded ops tmps) = true := by
          split at hw
          · exact hw
          · rename_i t want _
            rw [hw.1 want (hgd t want rfl)]; simp
        rw [if_pos hwt]
        exact .inl (b0f ha hd hsz hok he hn hs hnext)
      cases s with
      | skip hl =>
        rename_i t want
        simp only at hw
        have hf : Region.wanted o (yielded ops tmps) = false := by
          rcases hl with ⟨c, hl, hc⟩ | hl
          · rw [hw.1 c hl]; simpa using hc
          · exact hw.2 hl
        rw [if_neg (by rw [hf]; simp)]
        refine hnext _ _ ⟨E.φ, _, E.H, ⟨rfl, rfl⟩, hok, ?_, ?_, ?_, hn, Ext.refl _ _⟩
        · subst hsz; exact b1v he hd c0U
        · cases o.dst <;> rfl
        · rw [b9J]; exact hsz
      | pure hgd hp => exact go hgd (by simp only [a4w, hp, b4Q, and_self])
      | bsl hgd hp => exact go hgd (by simp only [a4w, hp, b3L, and_self])
      | call hgd hp => exact go hgd (by
          simp only [a4w]
          have := hp []
          simp only [List.append_nil] at this
          exact this.mono fun r H' ⟨h1, h2⟩ => by subst h1; subst h2; exact ⟨rfl, rfl⟩)
      | callv hgd hf hp => exact go hgd (by
          simp only [a4w, hf]
          have := hp []
          simp only [List.append_nil] at this
          exact this.mono fun r H' ⟨h1, h2⟩ => by subst h1; subst h2; exact ⟨rfl, rfl⟩)
      | eff hgd hp hne => exact go hgd (by simp only [a4w, hp, b3L, and_self])
    · simp at hi
  · simp at hi
theorem b7V {E : Emb} {env env' : Env} {tmps : Array Value} (he : a0z E env tmps) (h : a1z env env') : a0z E env' tmps := fun t => by rw [← h t]; exact he t
theorem b9y {mu : Nat → Nat → Bool} {rid : Nat} {ops : Array Oper} {l : List AIns} (hl : b2a P mu nt rid ops 0 ops.toList = some l) (hback : b7g 0 ops.toList = true) {n0 : Nat} {G : Env → Prop} (hGk : ∀ x ∈ l, c3K P n0 G x)
    {Q : Exit → Act → World → Prop} {E0 : Emb} {ef : Env} {Hf : Heap}
    (hQ : ∀ a w, Kc n0 nt E0 (fun e' H' => a1z ef e' ∧ H' = Hf) a w → Q .normal a w) :
    ∀ (fuel : Nat) (rem : List Nat) (listed : Array Bool), listed.size = ops.size → rem.Pairwise (· < ·) → (∀ i, i ∈ rem ↔ listed.getD i true = false) → rem.length ≤ fuel →
      b9s ops.toList (fun j => listed.getD j false = true) →
      (∀ i a x y, a ∈ rem → i ∈ rem → a < i → l[a]? = some x → l[i]? = some y → ((a6P ops.toList []).getD i 0).testBit a = true ∨ SwG P n0 G x y) →
      ∀ (E : Emb) (env : Env) (tmps : Array Value) (ef' : Env), tmps.size = nt → HOk E → a0z E env tmps → n0 ≤ E.H.length → Ext (· < n0) E0 E → a1z ef ef' → G env →
        Sts P n0 (rem.filterMap (l[·]?)) env E.H ef' Hf → wpAny P .any ops Q fuel listed ⟨tmps, []⟩ E.w := by
  obtain ⟨hlen, hget⟩ := a8k _ _ _ hl
  have done : ∀ (E : Emb) (env : Env) (tmps : Array Value) (ef' : Env), tmps.size = nt → HOk E → a0z E env tmps → n0 ≤ E.H.length → Ext (· < n0) E0 E → a1z ef ef' → Sts P n0 [] env E.H ef' Hf → Q .normal ⟨tmps, []⟩ E.w := by
    intro E env tmps ef' h1 h2 h3 h4 h5 h6 h7
    generalize hH : E.H = HH at h7
    cases h7
    exact hQ _ _ ⟨E.φ, env, E.H, ⟨h6, hH⟩, h2, h3, rfl, h1, h4, h5⟩
  have noready : ∀ (rem : List Nat) (listed : Array Bool), listed.size = ops.size → rem.Pairwise (· < ·) → (∀ i, i ∈ rem ↔ listed.getD i true = false) → Region.ready .any ops listed = [] → rem = [] := by
    intro rem listed hsz hp hm hr
    cases rem with
    | nil => rfl
    | cons i rem =>
      exfalso
      have hi := (hm i).1 (by simp)
      have hlt : i < ops.size := by
        rw [← hsz]
        rcases Nat.lt_or_ge i listed.size with h' | h'
        · exact h'
        · simp [Array.getElem?_eq_none h'] at hi
      have : i ∈ Region.ready .any ops listed := by
        rw [mem_ready]
        refine ⟨hi, ops[i], by simp [hlt], fun e he hb => ?_⟩
        have hlt2 := a8n hback i ops[i] (by simp [hlt]) e he hb
        have hno : ¬ e.on ∈ i :: rem := by
          intro hmem
          rcases List.mem_cons.1 hmem with h | h
          · omega
          · have := (List.pairwise_cons.1 hp).1 _ h
            omega
        rw [hm] at hno
        have hlt3 : e.on < listed.size := by omega
        simp [hlt3] at hno ⊢
        exact hno
      rw [hr] at this
      cases this
  intro fuel
  induction fuel with
  | zero =>
    intro rem listed hsz hp hm hf hcl hall' E env tmps ef' h1 h2 h3 h4 h5 h6 hg h7
    have : rem = [] := List.length_eq_zero_iff.1 (Nat.le_zero.1 hf)
    subst this
    refine ⟨?_, done E env tmps ef' h1 h2 h3 h4 h5 h6 h7⟩
    cases hr : Region.ready .any ops listed with
    | nil => rfl
    | cons i r =>
      have := (mem_ready.1 (show i ∈ Region.ready .any ops listed by rw [hr]; simp)).1
      rw [← hm] at this
      simp at this
  | succ fuel ih =>
    intro rem listed hsz hp hm hf hcl hall' E env tmps ef' h1 h2 h3 h4 h5 h6 hg h7
    refine ⟨fun hr => ?_, fun i hi => ?_⟩
    · have := noready rem listed hsz hp hm hr
      subst this
      exact done E env tmps ef' h1 h2 h3 h4 h5 h6 h7
    · obtain ⟨hun, o, ho, hedges⟩ := mem_ready.1 hi
      have himem := (hm i).2 hun
      obtain ⟨A, B, rfl⟩ := List.append_of_mem himem
      obtain ⟨x, hx, hcx⟩ := hget i o (by simpa using ho)
      have hAlt : ∀ a ∈ A, a < i := fun a ha => (List.pairwise_append.1 hp).2.2 a ha i (by simp)
      have hapart : ∀ z ∈ A.filterMap (l[·]?), SwG P n0 G z x ∧ c3K P n0 G z := by
        intro z hz
        obtain ⟨a, ha, hza⟩ := List.mem_filterMap.1 hz
        refine ⟨?_, hGk z (List.mem_of_getElem? (by simpa using hza))⟩
        rcases hall' i a z x (by simp [ha]) (by simp) (hAlt a ha) (by simpa using hza) (by simpa using hx) with hb | hb
        · exfalso
          -- a would be listed
          have hT : ∃ m, (a6P ops.toList [])[i]? = some m ∧ m.testBit a = true := by
            cases hq : (a6P ops.toList [])[i]? with
            | none => simp [List.getD_eq_getElem?_getD, hq] at hb
            | some m => exact ⟨m, rfl, by simpa [List.getD_eq_getElem?_getD, hq] using hb⟩
          obtain ⟨m, hm1, hm2⟩ := hT
          have := a9z (S := fun j => listed.getD j false = true) hcl ops.toList [] [] rfl rfl (by simp) i m o hm1 (by simpa using ho) hedges a hm2
          have ha' := (hm a).1 (by simp [ha])
          rcases Nat.lt_or_ge a listed.size with h' | h'
          · simp [h'] at this ha'; rw [this] at ha'; cases ha'
          · simp [Array.getElem?_eq_none h'] at ha'
        · exact hb
      simp only [List.filterMap_append, List.filterMap_cons, hx] at h7
      obtain ⟨e1, H1, ef2, q1, q2, q3⟩ := Sts.bubble _ hg hapart h7
      refine St.wpOp ho hcx h1 h2 h3 h4 q1 ?_
      rintro a w' ⟨φ, env', H', ⟨rfl, rfl⟩, r1, r2, r3, r4, r5, r6⟩
      have ha : a = ⟨a.tmps, []⟩ := by cases a; simp at r3; simp [r3]
      rw [ha]
      have hilt : i < listed.size := by
        rcases Nat.lt_or_ge i listed.size with h' | h'
        · exact h'
        · simp [Array.getElem?_eq_none h'] at hun
      have hpAB : (A ++ B).Pairwise (· < ·) := by
        rw [List.pairwise_append] at hp ⊢
        exact ⟨hp.1, (List.pairwise_cons.1 hp.2.1).2, fun a ha b hb => hp.2.2 a ha b (by simp [hb])⟩
      have hiB : ∀ b ∈ B, i < b := (List.pairwise_cons.1 (List.pairwise_append.1 hp).2.1).1
      refine ih (A ++ B) (listed.setIfInBounds i true) (by simp [hsz]) hpAB ?_ (by simp at hf ⊢; omega) ?_ (fun i' a' x' y' ha' hi' => hall' i' a' x' y' (by simp at ha' ⊢; rcases ha' with h | h <;> simp [h]) (by simp at hi' ⊢; rcases hi' with h | h <;> simp [h])) ⟨φ, H', w'⟩ env' a.tmps ef2 r4 r1 r2 r5 (h5.trans r6) (h6.trans q3) (hGk x (List.mem_of_getElem? (by simpa using hx)) hg q1) (by simpa [List.filterMap_append] using q2)
      · intro k
        by_cases hk : k = i
        · subst hk
          constructor
          · intro hmem
            exfalso
            rcases List.mem_append.1 hmem with h | h
            · exact Nat.lt_irrefl _ (hAlt _ h)
            · exact Nat.lt_irrefl _ (hiB _ h)
          · intro h; simp [hilt] at h
        · rw [getD_set_ne true (Ne.symm hk), ← hm k]
          simp [hk]
      · intro j oj hj hoj e he hb
        by_cases hji : j = i
        · subst hji
          have : oj = o := by
            have h' : ops.toList[j]? = some o := by simpa using ho
            rw [h'] at hoj; cases hoj; rfl
          subst this
          exact getD_set_true (hedges e he hb)
        · rw [getD_set_ne false (Ne.symm hji)] at hj
          exact getD_set_true (hcl j oj hj hoj e he hb)
/-- The same memory, one more order drawn. -/
theorem b0T (S : Nat → Prop) (φ : Nat → Option Nat) (H : Heap) (w : World) (n : Nat) : Ext S ⟨φ, H, w⟩ ⟨φ, H, { w with drawn := n }⟩ :=
  ⟨rfl, rfl, rfl, Nat.le_refl _, fun _ _ h => h, fun _ _ _ => rfl, fun id blk' _ _ h => ⟨blk', h, rfl⟩, fun _ _ _ _ _ _ _ => rfl, fun _ _ h => h, fun _ _ _ => rfl⟩
theorem c0c {φ : Nat → Option Nat} {H : Heap} {w : World} {n : Nat} (h : HOk ⟨φ, H, w⟩) : HOk ⟨φ, H, { w with drawn := n }⟩ := by
  refine ⟨h.wpos, h.wids, ?_, h.emp, h.inj⟩
  intro id blk b h1 h2
  obtain ⟨c, e, r⟩ := h.row id blk b h1 h2
  exact ⟨c, e, r.heap, r.fits, r.one, fun k v a hk ha => (r.rep k v a hk ha).mono (b0T All φ H w n) ((r.rep k v a hk ha).ref.mono fun _ _ => trivial)⟩
end
/-- The region's instructions, its calls being such as only answer: what holds behind them. -/
def b0d (P : Program) (n0 : Nat) (o : AOp) (d : Option Nat) (K : Env → Heap → Prop) (env : Env) (H : Heap) : Prop :=
  match o with
  | .p o => b4Q (pv o env H) fun v => K (put d v env) H
  | .e o => b3L (ev n0 o env H) fun v env' H' => K (put d v env') H'
  | .call f args => ∃ r, (∀ L, a0n P f (args.map (·.ev env)) (H ++ L) fun r' H' => r' = r ∧ H' = H ++ L) ∧ K (put d r env) H
  | .callv g args => match g.ev env with
    | .fn f caps => ∃ r, (∀ L, a0n P f (args.map (·.ev env) ++ caps) (H ++ L) fun r' H' => r' = r ∧ H' = H ++ L) ∧ K (put d r env) H
    | _ => False
def dops (P : Program) (n0 : Nat) : List AIns → (Env → Heap → Prop) → Env → Heap → Prop
  | [], K, env, H => K env H
  | i :: l, K, env, H =>
    match i.guard with
    | none => b0d P n0 i.op i.dst (dops P n0 l K) env H
    | some (t, want) => a9h want (look env t) fun c => if c = want then b0d P n0 i.op i.dst (dops P n0 l K) env H else dops P n0 l K (put i.dst (.tup []) env) H
theorem c1H {P : Program} {n0 : Nat} {o : AOp} {d : Option Nat} {g : Option (Nat × Bool)} {K : Env → Heap → Prop} {env : Env} {H : Heap} (hg : ∀ t want, g = some (t, want) → look env t = .bool want) (h : b0d P n0 o d K env H) :
    ∃ e1 H1, St P n0 ⟨d, g, o⟩ env H e1 H1 ∧ K e1 H1 := by
  cases o with
  | p o =>
    simp only [b0d, b4Q] at h
    split at h
    · rename_i v hv
      exact ⟨_, _, .pure hg hv, h⟩
    · exact h.elim
  | e o =>
    simp only [b0d, b3L] at h
    split at h
    · rename_i v env' H' hv
      by_cases hb : ∃ wd ps, o = .bsl wd ps
      · obtain ⟨wd, ps, rfl⟩ := hb
        have : env' = env ∧ H' = H := by
          simp only [ev] at hv
          split at hv
          · cases hv; exact ⟨rfl, rfl⟩
          · simp at hv
        obtain ⟨rfl, rfl⟩ := this
        exact ⟨_, _, .bsl hg hv, h⟩
      · exact ⟨_, _, .eff hg hv (fun wd ps he => hb ⟨wd, ps, he⟩), h⟩
    · exact h.elim
  | call f args =>
    obtain ⟨r, h1, h2⟩ := h
    exact ⟨_, _, .call hg h1, h2⟩
  | callv s args =>
    simp only [b0d] at h
    split at h
    · rename_i f caps hf
      obtain ⟨r, h1, h2⟩ := h
      exact ⟨_, _, .callv hg hf h1, h2⟩
    · exact h.elim
theorem a4N {P : Program} {n0 : Nat} {K : Env → Heap → Prop} : ∀ {l : List AIns} {env : Env} {H : Heap}, dops P n0 l K env H → ∃ e1 H1, Sts P n0 l env H e1 H1 ∧ K e1 H1
  | [], env, H, h => ⟨_, _, .nil, h⟩
  | ⟨d, g, o⟩ :: l, env, H, h => by
    simp only [dops] at h
    split at h
    · obtain ⟨e1, H1, q1, q2⟩ := c1H (g := none) (by simp) h
      obtain ⟨e2, H2, r1, r2⟩ := a4N q2
      exact ⟨_, _, .cons q1 r1, r2⟩
    · rename_i t want
      simp only [a9h] at h
      split at h
      · rename_i c hc
        split at h
        · rename_i hcw
          subst hcw
          obtain ⟨e1, H1, q1, q2⟩ := c1H (g := some (t, c)) (by rintro _ _ ⟨⟩; exact hc) h
          obtain ⟨e2, H2, r1, r2⟩ := a4N q2
          exact ⟨_, _, .cons q1 r1, r2⟩
        · rename_i hcw
          obtain ⟨e2, H2, r1, r2⟩ := a4N h
          exact ⟨_, _, .cons (.skip (.inl ⟨c, hc, hcw⟩)) r1, r2⟩
      · rename_i hc
        rw [if_neg (by cases want <;> simp)] at h
        obtain ⟨e2, H2, r1, r2⟩ := a4N h
        exact ⟨_, _, .cons (.skip (.inr hc)) r1, r2⟩
      · exact h.elim
theorem Safe.regionD {x : Cx} {todo : List AItem} {env : Env} {H : Heap} {R : AV → Heap → Prop} {l : List AIns} (h : dops x.P x.n0 l (fun env' H' => Safe x todo env' H' R) env H) : Safe x (.code (.region l true) :: todo) env H R := by
  intro φ w tmps b k cs hg hn hb hk ht hsz hok he
  obtain ⟨i, k', rfl, h1, h2⟩ := a0F ht
  obtain ⟨c, rfl, h1⟩ := a0T h1
  obtain ⟨id, ops, rfl, g1, g2⟩ := b9j h1
  have g2 := g2 rfl
  have hmix : x.P.follows .mixedOrders = true := by simp only [dchk, Bool.and_eq_true] at g2; exact g2.1
  obtain ⟨ef, Hf, s1, s2⟩ := a4N h
  have hx0 := b0T (· < x.n0) φ H w (w.drawn + 1)
  have hxA := b0T All φ H w (w.drawn + 1)
  have hlst : (List.range ops.size).filterMap (l[·]?) = l := by
    have := (a8k _ _ _ g1).1
    have hl : ops.size = l.length := by simpa using this.symm
    rw [hl]
    apply List.ext_getElem?
    intro m
    have : ∀ (n : Nat), n ≤ l.length → (List.range n).filterMap (l[·]?) = l.take n := by
      intro n
      induction n with
      | zero => simp
      | succ n ih =>
        intro hn
        rw [List.range_succ, List.filterMap_append, ih (by omega), List.take_add_one]
        simp [List.getElem?_eq_getElem (show n < l.length by omega)]
    rw [this l.length (Nat.le_refl _), List.take_length]
  have g3 := g2
  simp only [dchk, Bool.and_eq_true] at g3
  have hall' := b1k (pre := []) g3.2.2
  have hw := b9y (P := x.P) (nt := x.nt) g1 g3.2.1 (n0 := x.n0) (G := fun _ => True) (fun _ _ => fun _ _ => trivial) (E0 := ⟨φ, H, { w with drawn := w.drawn + 1 }⟩) (ef := ef) (Hf := Hf)
    (Q := fun e a w' => e = .normal ∧ Kc x.n0 x.nt ⟨φ, H, { w with drawn := w.drawn + 1 }⟩ (fun e' H' => a1z ef e' ∧ H' = Hf) a w') (fun a w h => ⟨rfl, h⟩)
    ops.size (List.range ops.size) (Array.replicate ops.size false) (by simp) (List.pairwise_lt_range) (by
      intro i
      rw [List.mem_range]
      constructor
      · intro hi; simp [hi]
      · intro hi
        rcases Nat.lt_or_ge i ops.size with h' | h'
        · exact h'
        · simp [Array.getElem?_eq_none (show (Array.replicate ops.size false).size ≤ i by simpa using h')] at hi) (by simp) (by
      intro j o hj
      exfalso
      rcases Nat.lt_or_ge j ops.size with h' | h'
      · simp [h'] at hj
      · simp [Array.getElem?_eq_none (show (Array.replicate ops.size false).size ≤ j by simpa using h')] at hj)
    (fun i a x y _ _ hai hx hy => by
      rcases hall' i a x y (by simp) hai (by simpa using hx) (by simpa using hy) with h | h
      · exact .inl h
      · exact .inr fun _ s t => St.swap h.1 h.2 s t)
    ⟨φ, H, { w with drawn := w.drawn + 1 }⟩ env tmps ef hsz (c0c hok) (he.mono (hxA.sub fun _ _ => trivial)) hn (Ext.refl _ _) (.refl _) trivial (by rw [hlst]; exact s1)
  obtain ⟨e, a', w', ⟨rfl, φ1, env1, H1, ⟨sq, rfl⟩, s3, s4, s5, s6, s7, s8⟩, harr⟩ := wp_region_any hmix hw b k' cs
  have ha : a' = ⟨a'.tmps, []⟩ := by cases a'; simp at s5; simp [s5]
  rw [ha] at harr
  obtain ⟨v, w2, fr, r, φ', H', q1, q2, q3, q4, q5, q6, q7⟩ := s2 φ1 w' a'.tmps b k' cs hg s7 hb hk h2 s6 s3 (b7V s4 sq.symm)
  exact ⟨v, w2, fr, r, φ', H', q1, q2, q3, q4, hx0.trans (s8.trans q5), Steps.trans harr q6, q7⟩
end Go.Abs
set_option linter.unusedVariables false
set_option linter.unusedSimpArgs false
namespace Go.Abs
def c7R (a b : AV) : Prop := match a, b with
  | .loc i _ _, .loc j _ _ => i ≠ j
  | _, _ => False
theorem c1t (i j k l o p : Nat) : c7R (.loc i k o) (.loc j l p) = (i ≠ j) := rfl
/-- What is asked of a pair: of two, that they point into two rows; of one alone, that it names no row. -/
def sdP (e : Env) (p : Nat × Nat) : Prop := if p.1 = p.2 then Cl (look e p.1) else c7R (look e p.1) (look e p.2)
def sdOk : List (Nat × Nat) → Env → Prop
  | [], _ => True
  | p :: r, e => sdP e p ∧ sdOk r e
theorem b9H (e : Env) : sdOk [] e = True := rfl
theorem b4I (a b : Nat) (r : List (Nat × Nat)) (e : Env) : sdOk ((a, b) :: r) e = ((if a = b then Cl (look e a) else c7R (look e a) (look e b)) ∧ sdOk r e) := rfl
theorem b3R : ∀ {sd : List (Nat × Nat)} {e : Env}, sdOk sd e → ∀ p ∈ sd, sdP e p
  | [], _, _, p, h => by cases h
  | q :: r, e, h, p, hp => by
    rcases List.mem_cons.1 hp with rfl | hp
    · exact h.1
    · exact b3R h.2 p hp
theorem d2D {sd : List (Nat × Nat)} {e : Env} (h : sdOk sd e) {t : Nat} (ht : sd.contains (t, t) = true) : Cl (look e t) := by
  have := b3R h (t, t) (by simpa using ht)
  unfold sdP at this
  rwa [if_pos rfl] at this
theorem c6c {a b : AV} (h : c7R a b) : ∃ i j k l o p, a = .loc i k o ∧ b = .loc j l p ∧ i ≠ j := by
  cases a <;> cases b <;> first | exact h.elim | exact ⟨_, _, _, _, _, _, rfl, rfl, h⟩
section
variable {P : Program} {n0 : Nat}
theorem St.look {x : AIns} {e : Env} {H : Heap} {e1 : Env} {H1 : Heap} (s : St P n0 x e H e1 H1) (ha : x.op.isApp = false) {t : Nat} (ht : x.dst ≠ some t) : look e1 t = look e t := by
  cases s with
  | skip hl => rw [a0Z, if_neg ht]
  | pure hg hp => rw [a0Z, if_neg ht]
  | bsl hg hp => rw [a0Z, if_neg ht]
  | call hg hp => rw [a0Z, if_neg ht]
  | callv hg hf hp => rw [a0Z, if_neg ht]
  | eff hg hp hn =>
    rename_i o v e'
    rw [a0Z, if_neg ht]
    suffices e' = e by rw [this]
    cases o with
    | app => simp [AOp.isApp] at ha
    | store n a b =>
      simp only [ev] at hp
      split at hp
      · simp only [Option.bind_eq_some_iff] at hp
        obtain ⟨b, hb, hp⟩ := hp
        split at hp
        · cases hp; rfl
        · cases hp
      · cases hp
    | cpy =>
      simp only [ev, Option.bind_eq_some_iff] at hp
      obtain ⟨ys, hy, hp⟩ := hp
      split at hp
      · simp only [Option.bind_eq_some_iff] at hp
        obtain ⟨b, hb, hp⟩ := hp
        split at hp
        · cases hp; rfl
        · cases hp
      · cases hp
    | mksl =>
      simp only [ev] at hp
      split at hp
      · split at hp
        · cases hp; rfl
        · cases hp
      · cases hp
    | _ =>
      simp only [ev] at hp
      split at hp
      · cases hp; rfl
      · cases hp
theorem c3g {H : Heap} {i j : Nat} {b : Option Blk} (h : i ≠ j) : hrow (H.set j b) i = hrow H i := by
  unfold hrow
  rw [List.getElem?_set, if_neg (fun e => h e.symm)]
/-- Looking at a row, then writing another. -/
theorem c6Q {x y : AIns} (hT : a5t x y = true) {a b : Nat} (hl : ldst x y = some (a, b)) {e : Env} {H : Heap} {e1 : Env} {H1 : Heap} {e2 : Env} {H2 : Heap} (hne : c7R (Go.Abs.look e a) (Go.Abs.look e b)) (s : St P n0 x e H e1 H1) (t : St P n0 y e1 H1 e2 H2) :
    ∃ e1' H' e2', St P n0 y e H e1' H' ∧ St P n0 x e1' H' e2' H2 ∧ a1z e2 e2' := by
  obtain ⟨xd, xg, xo⟩ := x
  obtain ⟨yd, yg, yo⟩ := y
  simp only [ldst] at hl
  split at hl
  · rename_i n a' m b' sv
    cases hl
    simp only [a5t, Bool.and_eq_true] at hT
    obtain ⟨hT1, hT2⟩ := hT
    have hx : ∀ v, ∀ t ∈ (AIns.mk yd yg (.e (.store m (.t b) sv))).reads, Go.Abs.look (put xd v e) t = Go.Abs.look e t := by
      intro v t ht
      refine (a1j (rs := (AIns.mk yd yg (.e (.store m (.t b) sv))).reads) (d := xd) ?_ t ht).symm
      cases hd : xd <;> simp only [hd] at hT1 ⊢
      simp only [Bool.and_eq_true] at hT1
      exact hT1.1
    have hy : ∀ v, ∀ t ∈ (AIns.mk xd xg (.p (.load n (.t a)))).reads, Go.Abs.look e t = Go.Abs.look (put yd v e) t := fun v => a1j hT2
    have hd : ∀ d, yd = some d → xd ≠ some d := by
      intro d h1 h2
      simp only [h2, Bool.and_eq_true] at hT1
      rw [h1] at hT1
      simp at hT1
    obtain ⟨i, j, k, l, o, p, ea, eb, hij⟩ := c6c hne
    have hra : a ∈ (AIns.mk xd xg (.p (.load n (.t a)))).reads := by simp [AIns.reads, AOp.reads, POp.reads, Src.tmps]
    have fx : H1 = H ∧ ∃ v, e1 = put xd v e ∧ ∀ e' H', (∀ t ∈ (AIns.mk xd xg (.p (.load n (.t a)))).reads, Go.Abs.look e t = Go.Abs.look e' t) → hrow H' i = hrow H i → St P n0 ⟨xd, xg, .p (.load n (.t a))⟩ e' H' (put xd v e') H' := by
      cases s with
      | skip hl => exact ⟨rfl, .tup [], rfl, fun e' H' h _ => .skip (by rw [← h _ (by simp [AIns.reads])]; exact hl)⟩
      | pure hg hp =>
        refine ⟨rfl, _, rfl, fun e' H' h hrw => .pure (a0L hg fun t ht => h t (by simp only [AIns.reads, List.mem_append]; exact .inl ht)) ?_⟩
        have ea' : Go.Abs.look e' a = .loc i k o := by rw [← h a hra, ea]
        simp only [pv, Src.ev, ea, ea', b6h, atV] at hp ⊢
        rw [hrw]; exact hp
    obtain ⟨rfl, v, rfl, f⟩ := fx
    -- what the store leaves in row i
    have hrow : hrow H2 i = hrow H1 i := by
      have hxb := hx v b (by simp [AIns.reads, AOp.reads, EOp.reads, Src.tmps])
      cases t with
      | skip => rfl
      | eff hg hp hn =>
        simp only [ev] at hp
        have hb2 : (Src.t b).ev (put xd v e) = .loc j l p := by
          show Go.Abs.look _ b = _
          rw [hxb, eb]
        rw [hb2] at hp
        simp only [Option.bind_eq_some_iff] at hp
        obtain ⟨blk, hb, hp⟩ := hp
        split at hp
        · cases hp; exact c3g hij
        · cases hp
    obtain ⟨u, rfl, g⟩ := b1t t rfl
    exact ⟨_, H2, _, g e (hx v), f (put yd u e) H2 (hy u) hrow, a7g hd⟩
  · cases hl
theorem b7R {s : Src} {e : Env} (hk : s.okc = true) (h : ∀ t ∈ s.tmps, Cl (Go.Abs.look e t)) : Cl (s.ev e) := by
  cases s with
  | t n => exact h n (by simp [Src.tmps])
  | c a => cases a <;> first | (simp [Src.okc] at hk; done) | exact .int _ _ | exact .bool _ | exact .nil
theorem d4e {op : BinOp} {a b v : AV} (h : binV op a b = some v) : Cl v := by
  unfold binV at h
  split at h
  · split at h
    · simp only [a8F] at h
      split at h
      · cases h
      · cases h; exact .int _ _
    · simp only [a8F] at h
      split at h
      · cases h
      · cases h; exact .int _ _
    · split at h
      · unfold a2O at h
        split at h
        all_goals first | (cases h; done) | (cases h; first | exact .int _ _ | exact .bool _) | (split at h <;> first | (cases h; done) | (cases h; exact .int _ _))
      · cases h
  · split at h
    · split at h
      · cases h
      · cases h; exact .str _
    · cases h; exact .bool _
    · cases h; exact .bool _
    · cases h
  · cases h
theorem d3Y {wd : Nat} {xs : List AV} (h : Cl (.sl wd xs)) (i : Nat) : ∀ c ∈ (xs.getD i .top).cells, Cl c := by
  cases h with
  | sl _ _ h =>
    intro c hc
    rcases Nat.lt_or_ge i xs.length with hi | hi
    · rw [List.getD_eq_getElem?_getD, List.getElem?_eq_getElem hi] at hc
      exact h c (List.mem_flatMap.2 ⟨_, List.getElem_mem hi, hc⟩)
    · rw [List.getD_eq_getElem?_getD, List.getElem?_eq_none hi] at hc
      simp [AV.cells] at hc
      subst hc; exact .top
theorem d5T {x : AV} {off : Nat} (h : Cl (.ro x off)) : ∀ c ∈ x.cells, Cl c := by
  cases h with
  | ro _ _ h => exact h
theorem d5R {o : POp} (hq : o.clq = true) {e : Env} {H : Heap} {v : AV} (hr : ∀ t ∈ o.reads, Cl (Go.Abs.look e t)) (h : pv o e H = some v) : Cl v ∧ ∀ H', pv o e H' = some v := by
  cases o <;> first | (simp [POp.clq] at hq; done) | skip
  case mv a =>
    simp only [pv, Option.some.injEq] at h
    subst h
    exact ⟨b7R hq hr, fun _ => rfl⟩
  case len a =>
    have ha := b7R hq hr
    simp only [pv] at h ⊢
    generalize a.ev e = x at *
    cases ha <;> simp only [lenV] at h ⊢ <;> first | (cases h; done) | (cases h; exact ⟨.int _ _, fun _ => rfl⟩)
  case bin op a b => exact ⟨d4e h, fun _ => h⟩
  case idxp wd a i =>
    simp only [POp.clq, Bool.and_eq_true] at hq
    simp only [POp.reads, List.mem_append] at hr
    have ha := b7R hq.1 fun t ht => hr t (.inl ht)
    have hi := b7R hq.2 fun t ht => hr t (.inr ht)
    simp only [pv] at h ⊢
    generalize a.ev e = x at *
    generalize i.ev e = y at *
    cases y <;> simp only [idxV] at h ⊢ <;> first | (cases h; done) | skip
    cases x <;> simp only at h ⊢ <;> first | (cases h; done) | skip
    case sl =>
      refine ⟨?_, fun _ => h⟩
      split at h
      · cases h; exact .ro _ _ (d3Y ha _)
      · cases h
    case mu => cases ha
  case load n a =>
    have ha := b7R hq hr
    simp only [pv, b6h] at h ⊢
    generalize a.ev e = x at *
    cases x <;> simp only [atV] at h ⊢ <;> first | (cases h; done) | skip
    case loc => cases ha
    case ro y off =>
      refine ⟨?_, fun _ => h⟩
      have hc := d5T ha
      simp only [Option.bind_some] at h
      cases n with
      | none =>
        have := List.mem_of_getElem? h
        exact hc v (List.mem_of_mem_drop this)
      | some n =>
        simp only at h
        split at h
        · cases h; exact .agg _ fun c hcm => hc c (List.mem_of_mem_drop (List.mem_of_mem_take hcm))
        · cases h
  case slc wd x lo hi mx =>
    simp only [POp.clq, Bool.and_eq_true] at hq
    simp only [POp.reads, List.mem_append] at hr
    have hx := b7R hq.1 fun t ht => hr t (.inl ht)
    simp only [pv] at h ⊢
    generalize x.ev e = x at *
    generalize lo.map (·.ev e) = lo at *
    generalize hi.map (·.ev e) = hi at *
    generalize mx.map (·.ev e) = mx at *
    cases x <;> simp only [slcV] at h ⊢ <;> first | (cases h; done) | skip
    case mu => cases hx
    case sl wd' xs =>
      refine ⟨?_, fun _ => h⟩
      have hsub : ∀ m n, Cl (.sl wd ((xs.drop m).take n)) := fun m n => by
        cases hx with
        | sl _ _ hx =>
          refine .sl _ _ fun c hc => ?_
          obtain ⟨a, ha, hca⟩ := List.mem_flatMap.1 hc
          exact hx c (List.mem_flatMap.2 ⟨a, List.mem_of_mem_drop (List.mem_of_mem_take ha), hca⟩)
      simp only [Option.bind_eq_some_iff] at h
      obtain ⟨l, _, r, _, h⟩ := h
      split at h
      · split at h
        · cases h; exact hsub _ _
        · cases h
      · split at h
        · cases h; exact hsub _ _
        · cases h
      · cases h
theorem b4c {x : AIns} {sd : List (Nat × Nat)} (hq : clI sd x = true) {e : Env} {H : Heap} {e1 : Env} {H1 : Heap} (hG : ∀ t ∈ x.reads, Cl (Go.Abs.look e t)) (s : St P n0 x e H e1 H1) :
    H1 = H ∧ ∃ u, Cl u ∧ e1 = put x.dst u e ∧ ∀ e' H', (∀ t ∈ x.reads, Go.Abs.look e t = Go.Abs.look e' t) → St P n0 x e' H' (put x.dst u e') H' := by
  simp only [clI, Bool.and_eq_true] at hq
  obtain ⟨hq, hq2⟩ := hq
  clear hq2
  cases s with
  | skip hl => exact ⟨rfl, .tup [], .tup _ fun c hc => absurd hc (by simp), rfl, fun e' L h => .skip (by rw [← h _ (by simp [AIns.reads])]; exact hl)⟩
  | pure hg hp =>
    rename_i d g o v
    obtain ⟨h1, h2⟩ := d5R hq (fun t ht => hG t (by simp only [AIns.reads, List.mem_append]; exact .inr ht)) hp
    refine ⟨rfl, v, h1, rfl, fun e' H' h => .pure (a0L hg fun t ht => h t (by simp only [AIns.reads, List.mem_append]; exact .inl ht)) ?_⟩
    rw [← b3T (fun t ht => h t (by simp only [AIns.reads, List.mem_append]; exact .inr ht))]
    exact h2 H'
  | bsl hg hp => simp at hq
  | call hg hp => simp at hq
  | callv hg hf hp => simp at hq
  | eff hg hp hn => simp at hq
theorem b7e {x : AIns} {sd : List (Nat × Nat)} (hq : clI sd x = true) {e : Env} (hG : sdOk sd e) : ∀ t ∈ x.reads, Cl (Go.Abs.look e t) := fun t ht => by
  simp only [clI, Bool.and_eq_true, List.all_eq_true] at hq
  exact d2D hG (hq.2 t ht)
theorem a3u {id : Nat} {e : Env} {t : Nat} (h : Cl (Go.Abs.look e t)) : Go.Abs.look (scrub id e) t = Go.Abs.look e t := by
  rw [a1M, if_pos (a0q.2 h.ref)]
theorem b3B {x y : AIns} (hT : a5t x y = true) : (∀ v e, ∀ t ∈ y.reads, Go.Abs.look (put x.dst v e) t = Go.Abs.look e t) ∧ (∀ v e, ∀ t ∈ x.reads, Go.Abs.look e t = Go.Abs.look (put y.dst v e) t) ∧ (∀ d, y.dst = some d → x.dst ≠ some d) := by
  simp only [a5t, Bool.and_eq_true] at hT
  obtain ⟨hT1, hT2⟩ := hT
  refine ⟨fun v e t ht => ?_, fun v e => a1j hT2, fun d h1 h2 => ?_⟩
  · refine (a1j (rs := y.reads) (d := x.dst) ?_ t ht).symm
    cases hd : x.dst <;> simp only [hd] at hT1 ⊢
    simp only [Bool.and_eq_true] at hT1
    exact hT1.1
  · simp only [h2, Bool.and_eq_true] at hT1
    rw [h1] at hT1
    simp at hT1
/-- An append, then a value looked at. -/
theorem c5e {x y : AIns} {sd : List (Nat × Nat)} (hT : a5t x y = true) (q1 : x.op.isApp = true) (q2 : clI sd y = true) : SwG P n0 (sdOk sd) x y := by
  intro e H e1 H1 e2 H2 hG s t
  obtain ⟨hx, hy, hd⟩ := b3B hT
  have hcl := b7e q2 hG
  obtain ⟨v, ⟨rfl, f⟩ | ⟨id, rfl, f⟩⟩ := b4e s q1
  · obtain ⟨rfl, u, hu, rfl, g⟩ := b4c q2 (fun t ht => by rw [hx v e t ht]; exact hcl t ht) t
    exact ⟨_, H, _, g e H (hx v e), f (put y.dst u e) (hy u e), a7g hd⟩
  · obtain ⟨rfl, u, hu, rfl, g⟩ := b4c q2 (fun t ht => by rw [hx v _ t ht, a3u (hcl t ht)]; exact hcl t ht) t
    refine ⟨_, H, _, g e H (fun t ht => by rw [hx v _ t ht, a3u (hcl t ht)]), f (put y.dst u e) (hy u e), fun t => ?_⟩
    simp only [a0Z, a1M]
    by_cases h1 : y.dst = some t
    · rw [if_pos h1, if_neg (hd t h1), if_pos h1, if_pos (a0q.2 hu.ref)]
    · rw [if_neg h1, if_neg h1]
/-- A value looked at, then an append. -/
theorem c5d {x y : AIns} {sd : List (Nat × Nat)} (hT : a5t x y = true) (q1 : clI sd x = true) (q2 : y.op.isApp = true) : SwG P n0 (sdOk sd) x y := by
  intro e H e1 H1 e2 H2 hG s t
  obtain ⟨hx, hy, hd⟩ := b3B hT
  have hcl := b7e q1 hG
  obtain ⟨rfl, u, hu, rfl, f⟩ := b4c q1 hcl s
  obtain ⟨v, ⟨rfl, g⟩ | ⟨id, rfl, g⟩⟩ := b4e t q2
  · exact ⟨_, H2, _, g e (hx u e), f (put y.dst v e) H2 (hy v e), a7g hd⟩
  · refine ⟨_, H2, _, g e (hx u e), f (put y.dst v (scrub id e)) H2 (fun t ht => by rw [← hy v (scrub id e) t ht, a3u (hcl t ht)]), fun t => ?_⟩
    simp only [a0Z, a1M]
    by_cases h1 : y.dst = some t
    · rw [if_pos h1, if_neg (hd t h1), if_pos h1]
    · rw [if_neg h1, if_neg h1]
      by_cases h2 : x.dst = some t
      · rw [if_pos h2, if_pos h2, if_pos (a0q.2 hu.ref)]
      · rw [if_neg h2, if_neg h2]
theorem Sts.append {A B : List AIns} {e : Env} {H : Heap} {e1 : Env} {H1 : Heap} {e2 : Env} {H2 : Heap} (h : Sts P n0 A e H e1 H1) (k : Sts P n0 B e1 H1 e2 H2) : Sts P n0 (A ++ B) e H e2 H2 := by
  induction h with
  | nil => exact k
  | cons h t ih => exact .cons h (ih k)
theorem b0r {m k i : Nat} {sd : List (Nat × Nat)} {y : AIns} : ∀ {b : Nat} {pre : List AIns}, b9x m k i sd y b pre = true → ∀ a x, pre[a]? = some x → okX m sd (b + a) x y = true ∨ (b + a = k ∧ i = k + 1)
  | _, [], _, a, x, hx => by simp at hx
  | b, p :: pre, h, a, x, hx => by
    simp only [b9x, Bool.and_eq_true, Bool.or_eq_true, beq_iff_eq] at h
    cases a with
    | zero => simp at hx; subst hx; exact h.1
    | succ a =>
      rw [show b + (a + 1) = (b + 1) + a by omega]
      exact b0r h.2 a x (by simpa using hx)
theorem b0s {T : List Nat} {k : Nat} {sd : List (Nat × Nat)} : ∀ {l pre : List AIns}, b4A T k sd pre.length pre l = true → ∀ i a x y, pre.length ≤ i → a < i → (pre ++ l)[a]? = some x → (pre ++ l)[i]? = some y → okX (T.getD i 0) sd a x y = true ∨ (a = k ∧ i = k + 1)
  | [], pre, h, i, a, x, y, h0, h1, h2, h3 => by
    have := a0c h3
    simp at this; omega
  | z :: l, pre, h, i, a, x, y, h0, h1, h2, h3 => by
    simp only [b4A, Bool.and_eq_true] at h
    rcases Nat.lt_or_eq_of_le h0 with hlt | heq
    · have h' : b4A T k sd (pre ++ [z]).length (pre ++ [z]) l = true := by simpa using h.2
      exact b0s h' i a x y (by simp; omega) h1 (by simpa using h2) (by simpa using h3)
    · subst heq
      simp at h3
      subst h3
      rw [List.getElem?_append_left h1] at h2
      have := b0r h.1 a x h2
      simpa using this
theorem c9Z {m : Nat} {sd : List (Nat × Nat)} {a : Nat} {x y : AIns} (h : okX m sd a x y = true) : m.testBit a = true ∨ SwG P n0 (sdOk sd) x y := by
  simp only [okX, Bool.or_eq_true, Bool.and_eq_true] at h
  rcases h with h | ⟨h1, h2 | h2 | ⟨h2, h3⟩ | ⟨h2, h3⟩⟩
  · exact .inl h
  · exact .inr fun _ s t => St.swap h1 h2 s t
  · split at h2
    · rename_i p hp
      obtain ⟨a, b⟩ := p
      simp only [Bool.and_eq_true, bne_iff_ne, ne_eq] at h2
      refine .inr fun hg s t => c6Q h1 hp ?_ s t
      have := b3R hg (a, b) (by simpa using h2.2)
      unfold sdP at this
      rwa [if_neg h2.1] at this
    · cases h2
  · exact .inr (c5e h1 h2 h3)
  · exact .inr (c5d h1 h2 h3)
theorem c7i : ∀ {sd : List (Nat × Nat)} {e : Env}, (∀ p ∈ sd, sdP e p) → sdOk sd e
  | [], _, _ => trivial
  | q :: r, e, h => ⟨h q (by simp), c7i fun p hp => h p (by simp [hp])⟩
theorem St.look_cl {x : AIns} {e : Env} {H : Heap} {e1 : Env} {H1 : Heap} (s : St P n0 x e H e1 H1) {t : Nat} (ht : x.dst ≠ some t) (hc : Cl (Go.Abs.look e t)) : Cl (Go.Abs.look e1 t) := by
  cases ha : x.op.isApp with
  | false => rw [s.look ha ht]; exact hc
  | true =>
    obtain ⟨v, ⟨rfl, _⟩ | ⟨id, rfl, _⟩⟩ := b4e s ha
    · rw [a0Z, if_neg ht]; exact hc
    · rw [a0Z, if_neg ht, a3u hc]; exact hc
theorem d4v {sd : List (Nat × Nat)} {l : List AIns} (h2 : (sd.all fun p => if p.1 = p.2 then l.all fun x => x.dst != some p.1 || clI sd x else (l.all fun x => !x.op.isApp) && l.all fun x => x.dst != some p.1 && x.dst != some p.2) = true) : ∀ x ∈ l, c3K P n0 (sdOk sd) x := by
  intro x hx e H e1 H1 hg s
  rw [List.all_eq_true] at h2
  refine c7i fun p hp => ?_
  have h3 := h2 p hp
  have hgp := b3R hg p hp
  unfold sdP at hgp ⊢
  by_cases hpp : p.1 = p.2
  · rw [if_pos hpp] at h3 hgp ⊢
    rw [List.all_eq_true] at h3
    have h4 := h3 x hx
    simp only [Bool.or_eq_true, bne_iff_ne, ne_eq] at h4
    by_cases hd : x.dst = some p.1
    · rcases h4 with h4 | h4
      · exact absurd hd h4
      · obtain ⟨_, u, hu, rfl, _⟩ := b4c h4 (b7e h4 hg) s
        rw [a0Z, if_pos hd]; exact hu
    · exact s.look_cl hd hgp
  · rw [if_neg hpp] at h3 hgp ⊢
    simp only [Bool.and_eq_true, List.all_eq_true] at h3
    have ha : x.op.isApp = false := by simpa using h3.1 x hx
    have h4 := h3.2 x hx
    simp only [Bool.and_eq_true, bne_iff_ne, ne_eq] at h4
    rw [s.look ha h4.1, s.look ha h4.2]
    exact hgp
end
section
variable {P : Program} {nt : Nat}
theorem a2q {l : List AIns} (k n : Nat) (h : k + n = l.length) : ((List.range' k n).filterMap (l[·]?)) = l.drop k := by
  induction n generalizing k with
  | zero => simp [List.drop_eq_nil_of_le (show l.length ≤ k by omega)]
  | succ n ih =>
    rw [List.range'_succ, List.filterMap_cons, List.getElem?_eq_getElem (show k < l.length by omega)]
    simp only
    rw [ih (k + 1) (by omega), List.drop_eq_getElem_cons (show k < l.length by omega)]
theorem c4m {α β : Type} {f g : α → Option β} : ∀ {l : List α}, (∀ a ∈ l, f a = g a) → l.filterMap f = l.filterMap g
  | [], _ => rfl
  | x :: l, h => by rw [List.filterMap_cons, List.filterMap_cons, h x (by simp), c4m fun a ha => h a (by simp [ha])]
theorem c4V {mu : Nat → Nat → Bool} {rid : Nat} {ops : Array Oper} {l : List AIns} (hl : b2a P mu nt rid ops 0 ops.toList = some l) (hback : b7g 0 ops.toList = true) {n0 : Nat} {G : Env → Prop} (hGk : ∀ x ∈ l, c3K P n0 G x)
    {Q : Exit → Act → World → Prop} {E0 : Emb} {ef1 ef2 : Env} {Hf1 Hf2 : Heap} (hQ1 : ∀ a w, Kc n0 nt E0 (fun e' H' => a1z ef1 e' ∧ H' = Hf1) a w → Q .normal a w) (hQ2 : ∀ a w, Kc n0 nt E0 (fun e' H' => a1z ef2 e' ∧ H' = Hf2) a w → Q .normal a w)
    {k : Nat} (hk : k + 1 < l.length) (hpair : ∀ i a x y, a < i → l[a]? = some x → l[i]? = some y → (((a6P ops.toList []).getD i 0).testBit a = true ∨ SwG P n0 G x y) ∨ (a = k ∧ i = k + 1))
    (htw : ∀ j, k + 2 ≤ j → j < l.length → ((a6P ops.toList []).getD j 0).testBit k = true ∨ ((a6P ops.toList []).getD j 0).testBit (k + 1) = true) :
    ∀ (fuel : Nat) (rem : List Nat) (listed : Array Bool), listed.size = ops.size → rem.Pairwise (· < ·) → (∀ i, i ∈ rem ↔ i < k ∧ listed.getD i true = false) → (∀ j, k ≤ j → j < l.length → listed.getD j true = false) → rem.length + (l.length - k) ≤ fuel →
      b9s ops.toList (fun j => listed.getD j false = true) →
      ∀ (E : Emb) (env : Env) (tmps : Array Value) (es : Env) (Hs : Heap) (ef1' ef2' : Env), tmps.size = nt → HOk E → a0z E env tmps → n0 ≤ E.H.length → Ext (· < n0) E0 E → a1z ef1 ef1' → a1z ef2 ef2' → G env →
        Sts P n0 (rem.filterMap (l[·]?)) env E.H es Hs → Sts P n0 (l.drop k) es Hs ef1' Hf1 → Sts P n0 (c4Y (l.drop k)) es Hs ef2' Hf2 → wpAny P .any ops Q fuel listed ⟨tmps, []⟩ E.w := by
  obtain ⟨hlen, hget⟩ := a8k _ _ _ hl
  have hlen' : l.length = ops.size := by simpa using hlen
  intro fuel
  induction fuel with
  | zero => intro rem listed hsz hp hm hm2 hf; omega
  | succ fuel ih =>
    intro rem listed hsz hp hm hm2 hf hcl E env tmps es Hs ef1' ef2' h1 h2 h3 h4 h5 h6 h6' hg hA hB hC
    have hkl : listed.getD k true = false := hm2 k (Nat.le_refl _) (by omega)
    have hkl1 : listed.getD (k + 1) true = false := hm2 (k + 1) (by omega) hk
    have unl : ∀ j, j < l.length → listed.getD j true = false → ¬ listed.getD j false = true := by
      intro j hj hu
      have : j < listed.size := by omega
      simp [this] at hu ⊢
      exact hu
    refine ⟨fun hr => ?_, fun i hi => ?_⟩
    · -- something is ready
      exfalso
      have hall : ∀ m, m ≤ k → (∀ j, j < m → listed.getD j false = true) → (∃ i, i ∈ Region.ready .any ops listed) ∨ ∀ j, j < m → listed.getD j false = true := fun m _ h => .inr h
      have least : ∃ i, i < l.length ∧ listed.getD i true = false ∧ ∀ j, j < i → ¬ listed.getD j true = false := by
        have ex : ∃ i, i < l.length ∧ listed.getD i true = false := ⟨k, by omega, hkl⟩
        obtain ⟨n, hn1, hn2⟩ := ex
        induction n using Nat.strongRecOn with
        | _ n ihn =>
          by_cases hc : ∃ j, j < n ∧ listed.getD j true = false
          · obtain ⟨j, hj1, hj2⟩ := hc
            exact ihn j hj1 (by omega) hj2
          · exact ⟨n, hn1, hn2, fun j hj hh => hc ⟨j, hj, hh⟩⟩
      obtain ⟨i, hi1, hi2, hi3⟩ := least
      have : i ∈ Region.ready .any ops listed := by
        rw [mem_ready]
        refine ⟨hi2, ops[i]'(by omega), by simp [show i < ops.size by omega], fun e he hb => ?_⟩
        have hlt2 := a8n hback i (ops[i]'(by omega)) (by simp [show i < ops.size by omega]) e he hb
        have hno := hi3 e.on (by omega)
        have hlt3 : e.on < listed.size := by omega
        simp [hlt3] at hno ⊢
        exact hno
      rw [hr] at this
      cases this
    · obtain ⟨hun, o, ho, hedges⟩ := mem_ready.1 hi
      obtain ⟨x, hx, hcx⟩ := hget i o (by simpa using ho)
      have hil : i < l.length := a0c hx
      have hilt : i < listed.size := by omega
      -- the new state's facts
      have hcl' : b9s ops.toList (fun j => (listed.setIfInBounds i true).getD j false = true) := by
        intro j oj hj hoj e he hb
        by_cases hji : j = i
        · subst hji
          have : oj = o := by
            have h' : ops.toList[j]? = some o := by simpa using ho
            rw [h'] at hoj; cases hoj; rfl
          subst this
          exact getD_set_true (hedges e he hb)
        · rw [getD_set_ne false (Ne.symm hji)] at hj
          exact getD_set_true (hcl j oj hj hoj e he hb)
      have bitNo : ∀ a, a < l.length → listed.getD a true = false → ((a6P ops.toList []).getD i 0).testBit a = true → False := by
        intro a ha hau hb
        have hT : ∃ m, (a6P ops.toList [])[i]? = some m ∧ m.testBit a = true := by
          cases hq : (a6P ops.toList [])[i]? with
          | none => simp [List.getD_eq_getElem?_getD, hq] at hb
          | some m => exact ⟨m, rfl, by simpa [List.getD_eq_getElem?_getD, hq] using hb⟩
        obtain ⟨m, hm1, hm2⟩ := hT
        have := a9z (S := fun j => listed.getD j false = true) hcl ops.toList [] [] rfl rfl (by simp) i m o hm1 (by simpa using ho) hedges a hm2
        exact unl a ha hau this
      have swp : ∀ a z, a < i → a < l.length → listed.getD a true = false → ¬ (a = k ∧ i = k + 1) → l[a]? = some z → SwG P n0 G z x ∧ c3K P n0 G z := by
        intro a z hai hal hau hne hz
        refine ⟨?_, hGk z (List.mem_of_getElem? hz)⟩
        rcases hpair i a z x hai hz hx with (hb | hb) | hb
        · exact (bitNo a hal hau hb).elim
        · exact hb
        · exact (hne hb).elim
      have remlt : ∀ a ∈ rem, a < k ∧ listed.getD a true = false := fun a ha => (hm a).1 ha
      rcases Nat.lt_or_ge i k with hik | hik
      · -- ahead of the two
        have himem := (hm i).2 ⟨hik, hun⟩
        obtain ⟨A, B, rfl⟩ := List.append_of_mem himem
        have hAlt : ∀ a ∈ A, a < i := fun a ha => (List.pairwise_append.1 hp).2.2 a ha i (by simp)
        simp only [List.filterMap_append, List.filterMap_cons, hx] at hA
        obtain ⟨e1, H1, es', q1, q2, q3⟩ := Sts.bubble _ hg (fun z hz => by
          obtain ⟨a, ha, hza⟩ := List.mem_filterMap.1 hz
          exact swp a z (hAlt a ha) (by have := hAlt a ha; omega) (remlt a (by simp [ha])).2 (by omega) hza) hA
        refine St.wpOp ho hcx h1 h2 h3 h4 q1 ?_
        rintro a w' ⟨φ, env', H', ⟨rfl, rfl⟩, r1, r2, r3, r4, r5, r6⟩
        have ha : a = ⟨a.tmps, []⟩ := by cases a; simp at r3; simp [r3]
        rw [ha]
        have hpAB : (A ++ B).Pairwise (· < ·) := by
          rw [List.pairwise_append] at hp ⊢
          exact ⟨hp.1, (List.pairwise_cons.1 hp.2.1).2, fun a ha b hb => hp.2.2 a ha b (by simp [hb])⟩
        have hiB : ∀ b ∈ B, i < b := (List.pairwise_cons.1 (List.pairwise_append.1 hp).2.1).1
        obtain ⟨f1, u1, u2⟩ := hB.eqv q3
        obtain ⟨f2, v1, v2⟩ := hC.eqv q3
        refine ih (A ++ B) (listed.setIfInBounds i true) (by simp [hsz]) hpAB ?_ ?_ (by simp at hf ⊢; omega) hcl' ⟨φ, H', w'⟩ env' a.tmps es' Hs f1 f2 r4 r1 r2 r5 (h5.trans r6) (h6.trans u2) (h6'.trans v2) (hGk x (List.mem_of_getElem? hx) hg q1) (by simpa [List.filterMap_append] using q2) u1 v1
        · intro j
          by_cases hj : j = i
          · subst hj
            constructor
            · intro hmem
              exfalso
              rcases List.mem_append.1 hmem with h | h
              · exact Nat.lt_irrefl _ (hAlt _ h)
              · exact Nat.lt_irrefl _ (hiB _ h)
            · intro h; simp [hilt] at h
          · rw [getD_set_ne true (Ne.symm hj), ← hm j]
            simp [hj]
        · intro j hj1 hj2
          rw [getD_set_ne true (by omega)]
          exact hm2 j hj1 hj2
      · -- one of the two
        have hi2 : i = k ∨ i = k + 1 := by
          rcases Nat.lt_or_ge i (k + 2) with h | h
          · omega
          · exfalso
            rcases htw i h hil with hb | hb
            · exact bitNo k (by omega) hkl hb
            · exact bitNo (k + 1) hk hkl1 hb
        have hd0 : l.drop k = l[k] :: l[k + 1] :: l.drop (k + 2) := by
          rw [List.drop_eq_getElem_cons (show k < l.length by omega), List.drop_eq_getElem_cons hk]
        have hpr : ∀ (A B : List Nat), (∀ a ∈ A, a < k) → A.Pairwise (· < ·) → (∀ b ∈ B, k ≤ b) → B.Pairwise (· < ·) → (A ++ B).Pairwise (· < ·) := fun A B h1 h2 h3 h4 =>
          List.pairwise_append.2 ⟨h2, h4, fun a ha b hb => by have := h1 a ha; have := h3 b hb; omega⟩
        have fin : ∀ (rest : List Nat) (ef : Env) (Hf : Heap) (ef' : Env) (hQ : ∀ a w, Kc n0 nt E0 (fun e' H' => a1z ef e' ∧ H' = Hf) a w → Q .normal a w) (hre : a1z ef ef'), rest.Pairwise (· < ·) → (∀ j, j ∈ rest ↔ k ≤ j ∧ j < l.length ∧ j ≠ i) → rest.length + 1 = l.length - k → (¬ (k ∈ rest ∧ k + 1 ∈ rest)) →
            Sts P n0 (x :: rest.filterMap (l[·]?)) es Hs ef' Hf → Go.wpOp P ops Q i (fun a' w' => wpAny P .any ops Q fuel (listed.setIfInBounds i true) a' w') ⟨tmps, []⟩ E.w := by
          intro rest ef Hf ef' hQ hre hrp hrm hrl hrt hrs
          have hS := Sts.append hA hrs
          obtain ⟨e1, H1, ef2, q1, q2, q3⟩ := Sts.bubble _ hg (fun z hz => by
            obtain ⟨a, ha, hza⟩ := List.mem_filterMap.1 hz
            have := remlt a ha
            exact swp a z (by omega) (by omega) this.2 (by omega) hza) hS
          refine St.wpOp ho hcx h1 h2 h3 h4 q1 ?_
          rintro a w' ⟨φ, env', H', ⟨rfl, rfl⟩, r1, r2, r3, r4, r5, r6⟩
          have ha : a = ⟨a.tmps, []⟩ := by cases a; simp at r3; simp [r3]
          rw [ha]
          refine b9y hl hback hGk hQ fuel (rem ++ rest) (listed.setIfInBounds i true) (by simp [hsz]) (hpr _ _ (fun a ha => (remlt a ha).1) hp (fun b hb => ((hrm b).1 hb).1) hrp) ?_ (by simp; omega) hcl' ?_ ⟨φ, H', w'⟩ env' a.tmps ef2 r4 r1 r2 r5 (h5.trans r6) (hre.trans q3) (hGk x (List.mem_of_getElem? hx) hg q1) (by simpa [List.filterMap_append] using q2)
          · intro j
            rw [List.mem_append, hm, hrm]
            by_cases hj : j = i
            · subst hj
              simp [hilt]; omega
            · rw [getD_set_ne true (Ne.symm hj)]
              constructor
              · rintro (h | h)
                · exact h.2
                · exact hm2 j h.1 h.2.1
              · intro h
                rcases Nat.lt_or_ge j k with hjk | hjk
                · exact .inl ⟨hjk, h⟩
                · refine .inr ⟨hjk, ?_, hj⟩
                  rcases Nat.lt_or_ge j listed.size with h' | h'
                  · omega
                  · simp [Array.getElem?_eq_none h'] at h
          · intro i' a' x' y' ha' hi' hai hx' hy'
            rcases hpair i' a' x' y' hai hx' hy' with h | ⟨h1, h2⟩
            · exact h
            · exfalso
              refine hrt ⟨?_, ?_⟩
              · rcases List.mem_append.1 ha' with h | h
                · have := (remlt _ h).1; omega
                · rw [h1] at h; exact h
              · rcases List.mem_append.1 hi' with h | h
                · have := (remlt _ h).1; omega
                · rw [h2] at h; exact h
        have hfd : (List.range' (k + 2) (l.length - (k + 2))).filterMap (l[·]?) = l.drop (k + 2) := a2q _ _ (by omega)
        rcases hi2 with rfl | rfl
        · refine fin (List.range' (i + 1) (l.length - (i + 1))) ef1 Hf1 ef1' hQ1 h6 (List.pairwise_lt_range') (fun j => by rw [List.mem_range'_1]; omega) (by simp; omega) (by rw [List.mem_range'_1]; omega) ?_
          rw [a2q _ _ (by omega)]
          have e1 : l[i] = x := by rw [List.getElem?_eq_getElem hil] at hx; exact Option.some.inj hx
          rw [← e1, ← List.drop_eq_getElem_cons hil]
          exact hB
        · refine fin (k :: List.range' (k + 2) (l.length - (k + 2))) ef2 Hf2 ef2' hQ2 h6' ?_ (fun j => by rw [List.mem_cons, List.mem_range'_1]; omega) (by simp; omega) (by rw [List.mem_cons, List.mem_cons, List.mem_range'_1, List.mem_range'_1]; omega) ?_
          · refine List.pairwise_cons.2 ⟨fun b hb => ?_, List.pairwise_lt_range'⟩
            rw [List.mem_range'_1] at hb; omega
          · rw [List.filterMap_cons, List.getElem?_eq_getElem (show k < l.length by omega)]
            simp only
            rw [hfd]
            have e1 : l[k + 1] = x := by rw [List.getElem?_eq_getElem hil] at hx; exact Option.some.inj hx
            rw [hd0] at hC
            simp only [c4Y] at hC
            rw [← e1]
            exact hC
end
theorem Safe.regionX {x : Cx} {todo : List AItem} {env : Env} {H : Heap} {R : AV → Heap → Prop} {p s1 s2 : List AIns} {sd : List (Nat × Nat)} (hs : sdOk sd env)
    (h : dops x.P x.n0 p (fun env' H' => dops x.P x.n0 s1 (fun env' H' => Safe x todo env' H' R) env' H' ∧ dops x.P x.n0 s2 (fun env' H' => Safe x todo env' H' R) env' H') env H) : Safe x (.code (.regionX p s1 s2 sd) :: todo) env H R := by
  intro φ w tmps b k cs hg hn hb hk ht hsz hok he
  obtain ⟨i, k', rfl, h1, h2⟩ := a0F ht
  obtain ⟨c, rfl, h1⟩ := a0T h1
  obtain ⟨id, ops, l, kk, rfl, g1, g2, rfl, rfl, rfl⟩ := c3f h1
  simp only [xchk, Bool.and_eq_true, Bool.or_eq_true] at g2
  obtain ⟨hmix, hback, hall, htw, hds⟩ := g2
  obtain ⟨es, Hs, s0, s1, s2⟩ := a4N h
  obtain ⟨ef1, Hf1, t1, k1⟩ := a4N s1
  obtain ⟨ef2, Hf2, t2, k2⟩ := a4N s2
  have hx0 := b0T (· < x.n0) φ H w (w.drawn + 1)
  have hxA := b0T All φ H w (w.drawn + 1)
  have hlen : l.length = ops.size := by simpa using (a8k _ _ _ g1).1
  have hGk : ∀ y ∈ l, c3K x.P x.n0 (sdOk sd) y := d4v hds
  have hall' := b0s (pre := []) hall
  have hpair : ∀ i a y z, a < i → l[a]? = some y → l[i]? = some z → (((a6P ops.toList []).getD i 0).testBit a = true ∨ SwG x.P x.n0 (sdOk sd) y z) ∨ (a = kk ∧ i = kk + 1) := by
    intro i a y z hai hy hz
    rcases hall' i a y z (by simp) hai (by simpa using hy) (by simpa using hz) with h | h
    · exact .inl (c9Z h)
    · exact .inr h
  have empC : b9s ops.toList (fun j => (Array.replicate ops.size false).getD j false = true) := by
    intro j o hj
    exfalso
    rcases Nat.lt_or_ge j ops.size with h' | h'
    · simp [h'] at hj
    · simp [Array.getElem?_eq_none (show (Array.replicate ops.size false).size ≤ j by simpa using h')] at hj
  have hw : wpAny x.P .any ops (fun e a w' => e = .normal ∧ (Kc x.n0 x.nt ⟨φ, H, { w with drawn := w.drawn + 1 }⟩ (fun env' H' => Safe x todo env' H' R) a w')) ops.size (Array.replicate ops.size false) ⟨tmps, []⟩ { w with drawn := w.drawn + 1 } := by
    have toQ : ∀ (ef : Env) (Hf : Heap), Safe x todo ef Hf R → ∀ a w', Kc x.n0 x.nt ⟨φ, H, { w with drawn := w.drawn + 1 }⟩ (fun e' H' => a1z ef e' ∧ H' = Hf) a w' → Exit.normal = Exit.normal ∧ (Kc x.n0 x.nt ⟨φ, H, { w with drawn := w.drawn + 1 }⟩ (fun env' H' => Safe x todo env' H' R) a w') := by
      rintro ef Hf hsafe a w' ⟨φ1, env1, H1, ⟨sq, rfl⟩, q⟩
      refine ⟨rfl, φ1, env1, H1, ?_, q⟩
      intro φ2 w2 tmps2 b2 k2 cs2 hg2 hn2 hb2 hk2 ht2 hsz2 hok2 he2
      exact hsafe φ2 w2 tmps2 b2 k2 cs2 hg2 hn2 hb2 hk2 ht2 hsz2 hok2 (b7V he2 sq.symm)
    rcases Nat.lt_or_ge (kk + 1) l.length with hkl | hkl
    · refine c4V (P := x.P) (nt := x.nt) g1 hback hGk (toQ ef1 Hf1 k1) (toQ ef2 Hf2 k2) hkl hpair ?_ ops.size (List.range kk) (Array.replicate ops.size false) (by simp) List.pairwise_lt_range ?_ ?_ (by simp; omega) empC
        ⟨φ, H, { w with drawn := w.drawn + 1 }⟩ env tmps es Hs ef1 ef2 hsz (c0c hok) (he.mono (hxA.sub fun _ _ => trivial)) hn (Ext.refl _ _) (.refl _) (.refl _) hs ?_ t1 t2
      · intro j h1 h2
        simp only [d4x, List.all_eq_true, List.mem_range, Bool.or_eq_true, decide_eq_true_eq] at htw
        rcases htw j (by simpa [hlen] using h2) with (h | h) | h
        · omega
        · exact .inl h
        · exact .inr h
      · intro i
        rw [List.mem_range]
        constructor
        · intro hi; exact ⟨hi, by simp [show i < ops.size by omega]⟩
        · exact fun h => h.1
      · intro j _ hj; simp [show j < ops.size by omega]
      · have : (List.range kk).filterMap (l[·]?) = l.take kk := by
          rw [List.range_eq_range']
          have e : l.take kk = (l.take kk).drop 0 := rfl
          rw [e, ← a2q (l := l.take kk) 0 kk (by simp; omega)]
          refine c4m fun a ha => ?_
          rw [List.mem_range'_1] at ha
          rw [List.getElem?_take, if_pos (by omega)]
        rw [this]; exact s0
    · refine b9y (P := x.P) (nt := x.nt) g1 hback hGk (toQ ef1 Hf1 k1) ops.size (List.range ops.size) (Array.replicate ops.size false) (by simp) List.pairwise_lt_range ?_ (by simp) empC ?_
        ⟨φ, H, { w with drawn := w.drawn + 1 }⟩ env tmps ef1 hsz (c0c hok) (he.mono (hxA.sub fun _ _ => trivial)) hn (Ext.refl _ _) (.refl _) hs ?_
      · intro i
        rw [List.mem_range]
        constructor
        · intro hi; simp [hi]
        · intro hi
          rcases Nat.lt_or_ge i ops.size with h' | h'
          · exact h'
          · simp [Array.getElem?_eq_none (show (Array.replicate ops.size false).size ≤ i by simpa using h')] at hi
      · intro i a y z _ _ hai hy hz
        rcases hpair i a y z hai hy hz with h | h
        · exact h
        · have := a0c hz
          omega
      · have := a2q (l := l) 0 ops.size (by omega)
        rw [← List.range_eq_range'] at this
        rw [this, List.drop_zero]
        have := Sts.append s0 t1
        rwa [List.take_append_drop] at this
  obtain ⟨e, a', w', ⟨rfl, φ1, env1, H1, s2, s3, s4, s5, s6, s7, s8⟩, harr⟩ := wp_region_any hmix hw b k' cs
  have ha : a' = ⟨a'.tmps, []⟩ := by cases a'; simp at s5; simp [s5]
  rw [ha] at harr
  obtain ⟨v, w2, fr, r, φ', H', q1, q2, q3, q4, q5, q6, q7⟩ := s2 φ1 w' a'.tmps b k' cs hg s7 hb hk h2 s6 s3 s4
  exact ⟨v, w2, fr, r, φ', H', q1, q2, q3, q4, hx0.trans (s8.trans q5), Steps.trans harr q6, q7⟩
end Go.Abs
set_option linter.unusedVariables false
set_option linter.unusedSimpArgs false
namespace Go.Abs
/-- The row id told as a value. -/
def frz (id : Nat) (b : Blk) : AV → AV
  | .mu i off len oc => if i = id then (if off + len ≤ b.xs.length then .sl b.wd ((b.xs.drop off).take len) else .top) else .mu i off len oc
  | .loc i k off => if i = id then (if k < b.xs.length then .ro (b.xs.getD k .top) off else .top) else .loc i k off
  | .agg cs => .agg (cs.map (frz id b))
  | .tup cs => .tup (cs.map (frz id b))
  | .fn f cs => .fn f (cs.map (frz id b))
  | .top => .top
  | .int k n => .int k n
  | .bool b => .bool b
  | .str s => .str s
  | .nil => .nil
  | .lit v => .lit v
  | .sl wd xs => .sl wd xs
  | .ro x off => .ro x off
section
variable {id : Nat} {b : Blk}
theorem b1X {a : AV} (h : Ref (· ≠ id) a) : frz id b a = a := by
  induction h with
  | top => simp only [frz]
  | int k n => simp only [frz]
  | bool b => simp only [frz]
  | str s => simp only [frz]
  | nil => simp only [frz]
  | lit v => simp only [frz]
  | sl wd xs => simp only [frz]
  | ro x off => simp only [frz]
  | mu i off len oc h => simp only [frz]; rw [if_neg h]
  | loc i k off h => simp only [frz]; rw [if_neg h]
  | agg cs h ih => simp only [frz]; rw [List.map_congr_left (g := fun x => x) ih]; simp
  | tup cs h ih => simp only [frz]; rw [List.map_congr_left (g := fun x => x) ih]; simp
  | fn f cs h ih => simp only [frz]; rw [List.map_congr_left (g := fun x => x) ih]; simp
theorem b6w {a : AV} (h : Cl a) : frz id b a = a := b1X h.ref
theorem c1C (a : AV) : (frz id b a).cells = a.cells.map (frz id b) := by
  cases a
  case mu i off len oc =>
    simp only [frz, c4x, List.map_cons, List.map_nil]
    by_cases h : i = id
    · simp only [h, if_true]; split <;> rfl
    · simp only [h, if_false]; rfl
  case loc i k off =>
    simp only [frz, c1O, List.map_cons, List.map_nil]
    by_cases h : i = id
    · simp only [h, if_true]; split <;> rfl
    · simp only [h, if_false]; rfl
  all_goals simp only [frz, AV.cells, List.map_cons, List.map_nil]
end
def frzB (id : Nat) (b : Blk) (x : Blk) : Blk := ⟨x.wd, x.xs.map (frz id b)⟩
def frzH (id : Nat) (b : Blk) (H : Heap) : Heap := (H.map (Option.map (frzB id b))).set id none
def frzE (id : Nat) (b : Blk) (env : Env) : Env := env.map fun p => (p.1, frz id b p.2)
theorem b6x (id : Nat) (b x : Blk) : (frzB id b x).flat = x.flat.map (frz id b) := by
  obtain ⟨wd, xs⟩ := x
  simp only [frzB, Blk.flat]
  induction xs with
  | nil => rfl
  | cons x xs ih => simp only [List.map_cons, List.flatMap_cons, List.map_append, c1C, ih]
theorem d0P (id : Nat) (b : Blk) (H : Heap) (j : Nat) : (frzH id b H)[j]? = if j = id then (if j < H.length then some none else none) else (H[j]?).map (Option.map (frzB id b)) := by
  unfold frzH
  rw [List.getElem?_set]
  by_cases h : id = j
  · subst h; simp
  · rw [if_neg h, if_neg (fun e => h e.symm)]; simp
theorem a2n {id : Nat} {b : Blk} {H : Heap} {j : Nat} {x : Blk} (h : (frzH id b H)[j]? = some (some x)) : j ≠ id ∧ ∃ y, H[j]? = some (some y) ∧ x = frzB id b y := by
  rw [d0P] at h
  split at h
  · split at h <;> simp at h
  · rename_i hj
    cases hy : H[j]? with
    | none => simp [hy] at h
    | some o =>
      cases o with
      | none => simp [hy] at h
      | some y => simp [hy] at h; exact ⟨hj, y, rfl, h.symm⟩
theorem c3l {E : Emb} {id : Nat} {b : Blk} : Ext All E ⟨E.φ, frzH id b E.H, E.w⟩ :=
  ⟨rfl, rfl, rfl, Nat.le_refl _, fun i _ hi => by simp [frzH]; exact hi, fun _ _ _ => rfl,
    fun i blk' _ _ h => by obtain ⟨_, y, h1, h2⟩ := a2n h; exact ⟨y, h1, by rw [h2]; rfl⟩,
    fun _ _ _ _ _ _ _ => rfl, fun bb _ ⟨j, x, h, hp⟩ => by obtain ⟨_, y, h1, h2⟩ := a2n h; exact ⟨j, y, h1, hp⟩, fun _ _ _ => rfl⟩
theorem a9i {b : Blk} (hw : ∀ x ∈ b.xs, x.cells.length = b.wd) (off len k : Nat) (h : off + len ≤ b.xs.length) (hk : k < len * b.wd) :
    (((b.xs.drop off).take len).flatMap AV.cells)[k]? = b.flat[off * b.wd + k]? := by
  have e : b.flat = (b.xs.take off).flatMap AV.cells ++ (((b.xs.drop off).take len).flatMap AV.cells ++ ((b.xs.drop off).drop len).flatMap AV.cells) := by
    rw [← List.flatMap_append, List.take_append_drop, ← List.flatMap_append, List.take_append_drop]; rfl
  have hl : ∀ (l : List AV), (∀ x ∈ l, x.cells.length = b.wd) → (l.flatMap AV.cells).length = l.length * b.wd := by
    intro l
    induction l with
    | nil => simp
    | cons x l ih =>
      intro h
      rw [List.flatMap_cons, List.length_append, ih (fun y hy => h y (by simp [hy])), h x (by simp), List.length_cons, Nat.add_mul]
      omega
  have h1 : ((b.xs.take off).flatMap AV.cells).length = off * b.wd := by
    rw [hl _ (fun x hx => hw x (List.mem_of_mem_take hx)), List.length_take, Nat.min_eq_left (by omega)]
  have h2 : (((b.xs.drop off).take len).flatMap AV.cells).length = len * b.wd := by
    rw [hl _ (fun x hx => hw x (List.mem_of_mem_drop (List.mem_of_mem_take hx))), List.length_take, List.length_drop, Nat.min_eq_left (by omega)]
  rw [e, List.getElem?_append_right (by omega), h1, Nat.add_sub_cancel_left, List.getElem?_append_left (by omega)]
theorem a1x {wd : Nat} {l : List AV} (h : ∀ x ∈ l, x.cells.length = wd) : (l.flatMap AV.cells).length = l.length * wd := by
  induction l with
  | nil => simp
  | cons x l ih =>
    rw [List.flatMap_cons, List.length_append, ih (fun y hy => h y (by simp [hy])), h x (by simp), List.length_cons, Nat.add_mul]
    omega
/-- A stretch of cells of a row. -/
theorem c3V {E : Emb} {bl : Nat} {b : Blk} {c : Array Value} {e : TypeId} (r : RowOk E bl b c e) (q n : Nat) (h : q + n ≤ b.flat.length) :
    ∃ vs : List Value, vs.length = n ∧ (∀ (k : Nat) v, vs[k]? = some v → E.w.cell? ⟨bl, q + k, none⟩ = some v ∧ v.oneCell' = true) ∧ (∀ (k : Nat) v a, vs[k]? = some v → b.flat[q + k]? = some a → Rep E v a) := by
  have hf := r.fits
  refine ⟨(c.toList.drop q).take n, by simp; omega, ?_, ?_⟩
  · intro k v hv
    have hlt := a0c hv
    simp at hlt
    have hv' : c[q + k]? = some v := by
      rw [List.getElem?_take, if_pos (by omega), List.getElem?_drop] at hv
      simpa using hv
    refine ⟨?_, r.one (q + k) v (by omega) hv'⟩
    simp [World.cell?, r.heap, hv']
  · intro k v a hv ha
    have hlt := a0c hv
    simp at hlt
    have hv' : c[q + k]? = some v := by
      rw [List.getElem?_take, if_pos (by omega), List.getElem?_drop] at hv
      simpa using hv
    exact r.rep (q + k) v a hv' ha
theorem c3i {E : Emb} (hok : HOk E) {id : Nat} {b : Blk} (hl : E.H[id]? = some (some b)) (hcl : ∀ c ∈ b.flat, Cl c) {v : Value} {a : AV} (hr : Rep E v a) : Rep ⟨E.φ, frzH id b E.H, E.w⟩ v (frz id b a) := by
  have hx := c3l (E := E) (id := id) (b := b)
  have leaf : ∀ {v a}, Rep E v a → Ref (· ≠ id) a → Rep ⟨E.φ, frzH id b E.H, E.w⟩ v (frz id b a) := by
    intro v a h hn
    rw [b1X hn]
    exact h.mono hx (hn.mono fun _ _ => trivial)
  have clr : ∀ {v a}, Rep E v a → Cl a → Rep ⟨E.φ, frzH id b E.H, E.w⟩ v a := fun h hc => h.mono hx hc.ref
  have hnm : ∀ bl, E.φ id = some bl → ¬ (Emb.mk E.φ (frzH id b E.H) E.w).Mut bl := by
    intro bl hb ⟨j, x, h, hp⟩
    obtain ⟨h0, y, h1, _⟩ := a2n h
    exact h0 (hok.inj _ _ _ _ bl h1 hl hp hb)
  have hpos := hok.wpos id b hl
  have hwd := hok.wids id b hl
  induction hr with
  | top v => simp only [frz]; exact .top _
  | int k n => exact leaf (.int k n) (.int k n)
  | bool b => exact leaf (.bool b) (.bool b)
  | str s => exact leaf (.str s) (.str s)
  | nil => exact leaf .nil .nil
  | lit v => exact leaf (.lit v) (.lit v)
  | sl base cap wd xs vs bl o hcap hp hw hc hbase hlen hcell hrep ih => exact leaf (.sl base cap wd xs vs bl o hcap hp hw hc hbase hlen hcell hrep) (.sl wd xs)
  | ro x off bl o vs hb hp hc hlen hcell hrep ih => exact leaf (.ro x off bl o vs hb hp hc hlen hcell hrep) (.ro x off)
  | mu blk i off len oc bl q cap hlive hb hq hlen hsz hoc =>
    by_cases hi : i = id
    · subst hi
      rw [hl] at hlive
      cases hlive
      simp only [frz, if_true]
      split
      · rename_i hle
        have hcl' : ∀ c ∈ ((b.xs.drop off).take len).flatMap AV.cells, Cl c := by
          intro c hc
          obtain ⟨x, hx, hc⟩ := List.mem_flatMap.1 hc
          exact hcl c (List.mem_flatMap.2 ⟨x, List.mem_of_mem_drop (List.mem_of_mem_take hx), hc⟩)
        have hlen2 : ((b.xs.drop off).take len).length = len := by simp; omega
        have hw2 : ∀ x ∈ (b.xs.drop off).take len, x.cells.length = b.wd := fun x hx => hwd x (List.mem_of_mem_drop (List.mem_of_mem_take hx))
        rcases Nat.eq_zero_or_pos len with h0 | h0
        · have : (b.xs.drop off).take len = [] := by rw [h0]; simp
          rw [this, h0]
          exact .sl _ cap b.wd [] [] bl q (Nat.zero_le _) hpos (by simp) (by simp) (.inl rfl) rfl (fun k v hk => by simp at hk) (fun k v a hk => by simp at hk)
        · have hq' : q = off * b.wd := by
            rcases hq with hq | ⟨hq, _⟩
            · exact hq
            · omega
          subst hq'
          obtain ⟨c, e, r⟩ := hok.row i b bl hl hb
          have hfl : b.flat.length = b.xs.length * b.wd := a1x hwd
          have hle2 : off * b.wd + len * b.wd ≤ b.flat.length := by rw [hfl, ← Nat.add_mul]; exact Nat.mul_le_mul_right _ hle
          obtain ⟨vs, v1, v2, v3⟩ := c3V r (off * b.wd) (len * b.wd) hle2
          have key := Rep.sl (E := ⟨E.φ, frzH i b E.H, E.w⟩) (some ⟨bl, off * b.wd, none⟩) cap b.wd ((b.xs.drop off).take len) vs bl (off * b.wd) (by rw [hlen2]; exact hlen) hpos hw2 hcl' (.inr ⟨rfl, hnm bl hb⟩) (by rw [a1x hw2, hlen2, v1]) v2 (by
            intro k v a hk ha
            have hkl := a0c hk
            rw [v1] at hkl
            have ha' := ha
            rw [a9i hwd off len k hle hkl] at ha'
            exact clr (v3 k v a hk ha') (hcl' a (List.mem_of_getElem? ha)))
          rw [hlen2] at key
          exact key
      · exact .top _
    · exact leaf (.mu blk i off len oc bl q cap hlive hb hq hlen hsz hoc) (.mu i off len oc hi)
  | mu0 blk i off oc hlive hb hoc =>
    by_cases hi : i = id
    · subst hi
      rw [hl] at hlive
      cases hlive
      simp only [frz, if_true]
      split
      · simp only [List.take_zero]
        exact .sl none 0 b.wd [] [] 0 0 (Nat.zero_le _) hpos (by simp) (by simp) (.inl rfl) rfl (fun k v hk => by simp at hk) (fun k v a hk => by simp at hk)
      · exact .top _
    · exact leaf (.mu0 blk i off oc hlive hb hoc) (.mu i off 0 oc hi)
  | loc blk i k off bl hlive hb =>
    by_cases hi : i = id
    · subst hi
      rw [hl] at hlive
      cases hlive
      simp only [frz, if_true]
      split
      · rename_i hk
        obtain ⟨c, e, r⟩ := hok.row i b bl hl hb
        have hfl : b.flat.length = b.xs.length * b.wd := a1x hwd
        have hxc : (b.xs.getD k .top).cells = ((b.xs.drop k).take 1).flatMap AV.cells := by
          rw [List.getD_eq_getElem?_getD, List.getElem?_eq_getElem hk, Option.getD_some, List.drop_eq_getElem_cons hk, List.take_succ_cons]
          simp
        have hmem : b.xs.getD k .top ∈ b.xs := by rw [List.getD_eq_getElem?_getD, List.getElem?_eq_getElem hk, Option.getD_some]; exact List.getElem_mem hk
        have hle2 : k * b.wd + 1 * b.wd ≤ b.flat.length := by rw [hfl, ← Nat.add_mul]; exact Nat.mul_le_mul_right _ hk
        obtain ⟨vs, v1, v2, v3⟩ := c3V r (k * b.wd) (1 * b.wd) hle2
        rw [Nat.one_mul] at v1
        have hcl2 : ∀ c ∈ (b.xs.getD k .top).cells, Cl c := fun c hc => hcl c (List.mem_flatMap.2 ⟨_, hmem, hc⟩)
        exact .ro (b.xs.getD k .top) off bl (k * b.wd) vs (hnm bl hb) (by rw [hwd _ hmem]; exact hpos) hcl2 (by rw [hwd _ hmem, v1]) v2 (by
          intro j v a hj ha
          have hjl := a0c hj
          rw [v1] at hjl
          refine clr (v3 j v a hj ?_) (hcl2 a (List.mem_of_getElem? ha))
          rw [← a9i hwd k 1 j hk (by omega), ← hxc]
          exact ha)
      · exact .top _
    · exact leaf (.loc blk i k off bl hlive hb) (.loc i k off hi)
  | dead v a i hr hd h1 =>
    have hi : i ≠ id := by rintro rfl; rw [hl] at hd; simp at hd
    have hn : Ref (· ≠ id) a := by
      cases a <;> simp [AV.ref] at hr
      · subst hr; exact .mu _ _ _ _ hi
      · subst hr; exact .loc _ _ _ hi
    exact leaf (.dead v a i hr hd h1) hn
  | agg vs cs hlen h1 hrep ih =>
    simp only [frz]
    exact .agg vs _ (by simp [hlen]) h1 (fun k v a hk ha => by
      simp at ha
      obtain ⟨a0, h0, rfl⟩ := ha
      exact ih k v a0 hk h0)
  | tup vs cs hlen hrep ih =>
    simp only [frz]
    exact .tup vs _ (by simp [hlen]) (fun k v a hk ha => by
      simp at ha
      obtain ⟨a0, h0, rfl⟩ := ha
      exact ih k v a0 hk h0)
  | fn f vs cs hlen hrep ih =>
    simp only [frz]
    exact .fn f vs _ (by simp [hlen]) (fun k v a hk ha => by
      simp at ha
      obtain ⟨a0, h0, rfl⟩ := ha
      exact ih k v a0 hk h0)
theorem d1U {E : Emb} (hok : HOk E) {id : Nat} {b : Blk} (hl : E.H[id]? = some (some b)) (hcl : ∀ c ∈ b.flat, Cl c) : HOk ⟨E.φ, frzH id b E.H, E.w⟩ := by
  refine ⟨fun j x h => ?_, fun j x h => ?_, fun j x bl h hp => ?_, fun j x h hp => ?_, fun i j x y bl h1 h2 p1 p2 => ?_⟩
  · obtain ⟨_, y, h1, rfl⟩ := a2n h; exact hok.wpos j y h1
  · obtain ⟨_, y, h1, rfl⟩ := a2n h
    intro z hz
    simp only [frzB, List.mem_map] at hz
    obtain ⟨z0, hz0, rfl⟩ := hz
    rw [c1C, List.length_map]; exact hok.wids j y h1 z0 hz0
  · obtain ⟨_, y, h1, rfl⟩ := a2n h
    obtain ⟨c, e, r⟩ := hok.row j y bl h1 hp
    refine ⟨c, e, r.heap, by rw [b6x, List.length_map]; exact r.fits, fun k v hk hv => r.one k v (by rw [b6x, List.length_map] at hk; exact hk) hv, fun k v a hk ha => ?_⟩
    rw [b6x] at ha
    simp at ha
    obtain ⟨a0, h0, rfl⟩ := ha
    exact c3i hok hl hcl (r.rep k v a0 hk h0)
  · obtain ⟨_, y, h1, rfl⟩ := a2n h
    simp [frzB, hok.emp j y h1 hp]
  · obtain ⟨_, x', h1, _⟩ := a2n h1
    obtain ⟨_, y', h2, _⟩ := a2n h2
    exact hok.inj i j _ _ bl h1 h2 p1 p2
theorem c1s (id : Nat) (b : Blk) (env : Env) (t : Nat) : look (frzE id b env) t = frz id b (look env t) := by
  induction env with
  | nil => simp only [frzE, List.map_nil, look, frz]
  | cons p env ih =>
    simp only [frzE, List.map_cons, look]
    split
    · rfl
    · exact ih
section
variable {x : Cx} {todo : List AItem} {env : Env} {H : Heap} {R : AV → Heap → Prop}
theorem Safe.freezeG {id : Nat} {b : Blk} (hid : x.n0 ≤ id) (hl : H[id]? = some (some b)) (hcl : ∀ c ∈ b.flat, Cl c) (h : Safe x todo (frzE id b env) (frzH id b H) R) : Safe x todo env H R := by
  intro φ w tmps bf k cs hg hn hb hk ht hsz hok he
  have hok' := d1U hok hl hcl
  obtain ⟨v, w', fr, r, φ', H', q1, q2, q3, q4, q5, q6⟩ := h φ w tmps bf k cs hg (by simp [frzH]; exact hn) hb hk ht hsz hok' (fun t => by rw [c1s]; exact c3i hok hl hcl (he t))
  exact ⟨v, w', fr, r, φ', H', q1, q2, q3, q4, (c3l.sub fun _ _ => trivial).trans q5, q6⟩
def frzL (id : Nat) (b : Blk) (L : Heap) : Heap := L.map (Option.map (frzB id b))
theorem d0O (id : Nat) (b : Blk) : frzL id b [] = [] := rfl
theorem c8w (id : Nat) (b : Blk) (x : Blk) (L : Heap) : frzL id b (some x :: L) = some ⟨x.wd, x.xs.map (frz id b)⟩ :: frzL id b L := rfl
theorem c8v (id : Nat) (b : Blk) (L : Heap) : frzL id b (none :: L) = none :: frzL id b L := rfl
theorem d4b {id : Nat} {b y : Blk} (h : ∀ a ∈ y.flat, Ref (· ≠ id) a) : frzB id b y = y := by
  obtain ⟨wd, xs⟩ := y
  simp only [frzB, Blk.mk.injEq, true_and]
  rw [List.map_congr_left (g := fun x => x)]
  · simp
  · intro a ha
    have hc : ∀ c ∈ a.cells, Ref (· ≠ id) c := fun c hc => h c (List.mem_flatMap.2 ⟨a, ha, hc⟩)
    cases a
    case agg cs => exact b1X (.agg cs hc)
    all_goals exact b1X (hc _ (by simp [AV.cells]))
theorem c4j (hH : a0U H) (i : Nat) (b : Blk) (L : Heap) : frzH (lid H i) b (hap H L) = hap H ((frzL (lid H i) b L).set i none) := by
  unfold frzH hap
  rw [List.map_append]
  have : H.map (Option.map (frzB (lid H i) b)) = H := by
    rw [List.map_congr_left (g := fun x => x)]
    · simp
    · intro o ho
      obtain ⟨j, hj, rfl⟩ := List.getElem_of_mem ho
      cases hy : H[j] with
      | none => rfl
      | some y =>
        simp only [Option.map_some]
        rw [d4b]
        intro a ha
        refine (hH j y (by rw [List.getElem?_eq_getElem hj, hy]) a ha).mono fun k hk => ?_
        show k ≠ lid H i
        unfold lid; omega
  rw [this, List.set_append_right _ _ (by simp [lid]), show lid H i - H.length = i by simp [lid]]
  rfl
/-- The call's own i-th row told as a value. -/
theorem Safe.freeze (i : Nat) {L : Heap} {b : Blk} (hH : a0U H) (hx : x.n0 = H.length) (hl : L[i]? = some (some b)) (hcl : ∀ c ∈ b.flat, Cl c)
    (h : Safe x todo (frzE (lid H i) b env) (hap H ((frzL (lid H i) b L).set i none)) R) : Safe x todo env (hap H L) R := by
  refine Safe.freezeG (id := lid H i) (b := b) (by rw [hx]; exact a3n H i) ?_ hcl ?_
  · unfold hap lid
    rw [List.getElem?_append_right (by omega), Nat.add_sub_cancel_left]; exact hl
  · rw [c4j hH]; exact h
theorem d0Q (id : Nat) (b : Blk) : frzE id b [] = [] := rfl
theorem c8x (id : Nat) (b : Blk) (t : Nat) (a : AV) (env : Env) : frzE id b ((t, a) :: env) = (t, frz id b a) :: frzE id b env := rfl
/-- A nil told as an empty row. -/
theorem Safe.nilrow (t wd : Nat) {L : Heap} (hwd : 0 < wd) (ht : look env t = .nil) (h : Safe x todo ((t, .mu (lid H L.length) 0 0 none) :: env) (hap H (L ++ [some ⟨wd, []⟩])) R) : Safe x todo env (hap H L) R := by
  intro φ w tmps bf k cs hg hn hb hk htd hsz hok he
  obtain ⟨hok', hx⟩ := hok.alloc (w := w) rfl rfl rfl (Nat.le_refl _) none (by simp) (fun _ _ => rfl) ⟨wd, []⟩ hwd (by simp) (.inl ⟨rfl, rfl⟩)
  simp only [hap, List.append_assoc] at hok' hx
  obtain ⟨v, w', fr, r, φ', H', q1, q2, q3, q4, q5, q6⟩ := h _ w tmps bf k cs hg (by simp only [hap, List.length_append] at hn ⊢; omega) hb hk htd hsz (by simpa [hap] using hok') (fun j => by
    simp only [look]
    split
    · rename_i hj
      subst hj
      have h0 := he t
      rw [ht] at h0
      have hv : tmps.getD t undef = .slice none 0 0 := by
        generalize tmps.getD t undef = u at h0
        cases h0 with
        | nil => rfl
        | dead v a i hr hd h1 => simp [AV.ref] at hr
      rw [hv]
      refine .mu0 ⟨wd, []⟩ _ 0 none ?_ ?_ (by simp)
      · simp only [hap, lid]
        rw [← List.append_assoc, List.getElem?_append_right (by simp)]; simp
      · simp [lid, hap]
    · have := (he j).mono' hx
      simpa [hap] using this)
  refine ⟨v, w', fr, r, φ', H', q1, q2, q3, q4, ?_, q6⟩
  have hx' := hx.sub (T := (· < x.n0)) (fun i hi => Nat.lt_of_lt_of_le hi hn)
  exact hx'.trans (by simpa [hap] using q5)
/-- A nil told as a slice without elements. -/
theorem b7W {E : Emb} {v : Value} (wd : Nat) (hwd : 0 < wd) (h : Rep E v .nil) : Rep E v (.sl wd []) := by
  cases h with
  | nil => exact .sl none 0 wd [] [] 0 0 (Nat.zero_le _) hwd (by simp) (by simp) (.inl rfl) rfl (fun k v hk => by simp at hk) (fun k v a hk => by simp at hk)
  | dead v a i hr hd h1 => simp [AV.ref] at hr
end
/-- Called over any rows, it answers r and leaves the rows. -/
def a0e (P : Program) (f : FuncId) (args : List AV) (r : AV) : Prop := ∀ H, a0n P f args H fun r' H' => r' = r ∧ H' = H
theorem a0n.cut {P : Program} {f : FuncId} {args : List AV} {H : Heap} {r : AV} (hr : Ref (· < H.length) r) (h : a0n P f args H fun r' H' => r' = r ∧ ∃ L, H' = hap H L) : a0n P f args H fun r' H' => r' = r ∧ H' = H := by
  refine ⟨h.1, fun φ w vs hok hl hrep => (h.2 φ w vs hok hl hrep).mono ?_⟩
  rintro e w' ⟨v, r', φ', H', rfl, ⟨rfl, L, rfl⟩, q1, q2, q3, q4⟩
  have hfree : ∀ (j : Nat) bj, j < H.length → (hap H L)[j]? = some (some bj) → ∀ a ∈ bj.flat, Ref (· < H.length) a := by
    intro j bj hj hb
    simp only [hap] at hb
    rw [List.getElem?_append_left hj] at hb
    exact hok.refs hb
  have hcut := HOk.cut q1 H.length hfree
  have ht : (hap H L).take H.length = H := by simp [hap]
  simp only [ht] at hcut
  refine ⟨v, r', φ', H, rfl, ⟨rfl, rfl⟩, hcut.1, q2.mono hcut.2 hr, Nat.le_refl _, q4.trans hcut.2⟩
theorem a0e.intro {P : Program} {mu : Nat → Nat → Bool} {f : FuncId} {fn : Func} (hf : P.funcs[f]? = some fn) {ac : ACode} {rs : List ResV} {nt : Nat} (hc : fchk P mu fn = some (ac, rs, nt))
    {args : List AV} {r : AV} (ha : args.length ≤ nt) (hr : Cl r) (h : ∀ H, a0U H → Safe ⟨P, mu, f, nt, rs, H.length⟩ [.code ac] (b3H 0 args) (hap H []) fun r' H' => r' = r ∧ ∃ L, H' = hap H L) : a0e P f args r := by
  intro H
  refine a0n.cut hr.ref (a0n.intro hf hc ha fun hH => ?_)
  have := h H hH
  rw [a2V] at this
  exact this
end Go.Abs
set_option linter.unusedVariables false
set_option linter.unusedSimpArgs false
set_option linter.defProp false
namespace Go.Abs
section
variable (P : Program) (n0 : Nat) (K : Env → Heap → Prop) (env : Env) (H : Heap)
theorem d1c : dops P n0 [] K env H = K env H := rfl
theorem c8E (d : Option Nat) (o : AOp) (l : List AIns) : dops P n0 (⟨d, none, o⟩ :: l) K env H = b0d P n0 o d (dops P n0 l K) env H := rfl
theorem c8D (d : Option Nat) (t : Nat) (want : Bool) (o : AOp) (l : List AIns) :
    dops P n0 (⟨d, some (t, want), o⟩ :: l) K env H = a9h want (look env t) fun c => if c = want then b0d P n0 o d (dops P n0 l K) env H else dops P n0 l K (put d (.tup []) env) H := rfl
theorem d3I (o : POp) (d : Option Nat) : b0d P n0 (.p o) d K env H = b4Q (pv o env H) fun v => K (put d v env) H := rfl
theorem d3J (o : EOp) (d : Option Nat) : b0d P n0 (.e o) d K env H = b3L (ev n0 o env H) fun v env' H' => K (put d v env') H' := rfl
/-- A call in a drawn region. -/
def dcall (P : Program) (f : FuncId) (args : List AV) (H : Heap) (K : AV → Prop) : Prop := ∃ r, (∀ L, a0n P f args (H ++ L) fun r' H' => r' = r ∧ H' = H ++ L) ∧ K r
def dres (K : Env → Heap → Prop) (d : Option Nat) (env : Env) (H : Heap) : AV → Prop := fun r => K (put d r env) H
theorem d3L (d : Option Nat) (r : AV) : dres K d env H r = K (put d r env) H := rfl
theorem c6q (f : FuncId) (args : List Src) (d : Option Nat) : b0d P n0 (.call f args) d K env H = dcall P f (args.map (·.ev env)) H (dres K d env H) := rfl
def c1M (P : Program) (g : AV) (args : List AV) (H : Heap) (K : AV → Prop) : Prop := match g with
  | .fn f caps => dcall P f (args ++ caps) H K
  | _ => False
theorem c3v (g : Src) (args : List Src) (d : Option Nat) : b0d P n0 (.callv g args) d K env H = c1M P (g.ev env) (args.map (·.ev env)) H (dres K d env H) := by
  simp only [b0d, c1M]; split <;> simp_all [dcall, dres]
theorem c8L (f : FuncId) (caps args : List AV) (K : AV → Prop) : c1M P (.fn f caps) args H K = dcall P f (args ++ caps) H K := rfl
end
@[congr] theorem d4p {P : Program} {n0 : Nat} {l : List AIns} {K : Env → Heap → Prop} {env env' : Env} {H H' : Heap} (h : env = env') (h' : H = H') : dops P n0 l K env H = dops P n0 l K env' H' := by rw [h, h']
@[congr] theorem d3K {P : Program} {n0 : Nat} {o : AOp} {d : Option Nat} {K : Env → Heap → Prop} {env env' : Env} {H H' : Heap} (h : env = env') (h' : H = H') : b0d P n0 o d K env H = b0d P n0 o d K env' H' := by rw [h, h']
@[congr] theorem d3P {P : Program} {f : FuncId} {as as' : List AV} {H H' : Heap} {K : AV → Prop} (h : as = as') (h' : H = H') : dcall P f as H K = dcall P f as' H' K := by rw [h, h']
@[congr] theorem d2b {P : Program} {g g' : AV} {as as' : List AV} {H H' : Heap} {K : AV → Prop} (h : g = g') (h2 : as = as') (h' : H = H') : c1M P g as H K = c1M P g' as' H' K := by rw [h, h2, h']
theorem a0e.acall {P : Program} {f : FuncId} {args : List AV} {H : Heap} {r : AV} {R : AV → Heap → Prop} (h : a0e P f args r) (k : R r H) : a0n P f args H R :=
  (h H).mono fun r' H' ⟨h1, h2⟩ => by subst h1; subst h2; exact k
theorem a0e.dcall {P : Program} {f : FuncId} {args : List AV} {H : Heap} {r : AV} {K : AV → Prop} (h : a0e P f args r) (k : K r) : dcall P f args H K := ⟨r, fun L => h (H ++ L), k⟩
theorem b7d {a : AV} (h : Cl a) : clb a = true := c8S.2 h
theorem a1y {id : Nat} {a : AV} (h : Cl a) : nref id a = true := a0q.2 h.ref
theorem d3X (k : IntKind) (n : Int) : clb (.int k n) = true := b7d (.int k n)
theorem d1i (b : Bool) : clb (.bool b) = true := b7d (.bool b)
theorem d3V (s : ByteArray) : clb (.str s) = true := b7d (.str s)
theorem d3W : clb .nil = true := b7d .nil
theorem d0b (id : Nat) : nref id .top = true := a1y .top
theorem d0g (id : Nat) (k : IntKind) (n : Int) : nref id (.int k n) = true := a1y (.int k n)
theorem c7y (id : Nat) (b : Bool) : nref id (.bool b) = true := a1y (.bool b)
theorem d0c (id : Nat) (s : ByteArray) : nref id (.str s) = true := a1y (.str s)
theorem d0d (id : Nat) : nref id .nil = true := a1y .nil
theorem d0f (id : Nat) (v : Value) : nref id (.lit v) = true := a1y (.lit v)
theorem d2W (id wd : Nat) (xs : List AV) : nref id (.sl wd xs) = true := a0q.2 (.sl wd xs)
theorem d2X (id off : Nat) (x : AV) : nref id (.ro x off) = true := a0q.2 (.ro x off)
theorem d0h (id : Nat) (cs : List AV) : nref id (.agg cs) = cs.all (nref id) := by
  rw [Bool.eq_iff_iff, a0q, List.all_eq_true]
  constructor
  · intro h c hc; cases h with | agg _ h => exact a0q.2 (h c hc)
  · intro h; exact .agg _ fun c hc => a0q.1 (h c hc)
theorem d0a (id : Nat) (cs : List AV) : nref id (.tup cs) = cs.all (nref id) := by
  rw [Bool.eq_iff_iff, a0q, List.all_eq_true]
  constructor
  · intro h c hc; cases h with | tup _ h => exact a0q.2 (h c hc)
  · intro h; exact .tup _ fun c hc => a0q.1 (h c hc)
theorem d2Z (id : Nat) (f : FuncId) (cs : List AV) : nref id (.fn f cs) = cs.all (nref id) := by
  rw [Bool.eq_iff_iff, a0q, List.all_eq_true]
  constructor
  · intro h c hc; cases h with | fn _ _ h => exact a0q.2 (h c hc)
  · intro h; exact .fn _ _ fun c hc => a0q.1 (h c hc)
theorem d2Y (H : Heap) (i j off len : Nat) (oc : Option Nat) : nref (lid H i) (.mu (lid H j) off len oc) = decide (j ≠ i) := by
  rw [Bool.eq_iff_iff, a0q, decide_eq_true_eq]
  constructor
  · intro h; cases h with | mu _ _ _ _ h => intro e; exact h (by rw [e])
  · intro h; exact .mu _ _ _ _ (by simp only [lid]; omega)
theorem d0e (H : Heap) (i j k off : Nat) : nref (lid H i) (.loc (lid H j) k off) = decide (j ≠ i) := by
  rw [Bool.eq_iff_iff, a0q, decide_eq_true_eq]
  constructor
  · intro h; cases h with | loc _ _ _ h => intro e; exact h (by rw [e])
  · intro h; exact .loc _ _ _ (by simp only [lid]; omega)
theorem c7j (id : Nat) : scrub id [] = [] := rfl
theorem c5k (id t : Nat) (a : AV) (env : Env) : scrub id ((t, a) :: env) = (t, if nref id a then a else .top) :: scrub id env := rfl
theorem d3r (id : Nat) (b : Blk) (k : IntKind) (n : Int) : frz id b (.int k n) = .int k n := by simp only [frz]
theorem d0N (id : Nat) (b : Blk) (c : Bool) : frz id b (.bool c) = .bool c := by simp only [frz]
theorem d3o (id : Nat) (b : Blk) (s : ByteArray) : frz id b (.str s) = .str s := by simp only [frz]
theorem d3p (id : Nat) (b : Blk) : frz id b .nil = .nil := by simp only [frz]
theorem d3n (id : Nat) (b : Blk) : frz id b .top = .top := by simp only [frz]
theorem d3q (id : Nat) (b : Blk) (v : Value) : frz id b (.lit v) = .lit v := by simp only [frz]
theorem d5g (id : Nat) (b : Blk) (wd : Nat) (xs : List AV) : frz id b (.sl wd xs) = .sl wd xs := by simp only [frz]
theorem d5h (id : Nat) (b : Blk) (x : AV) (off : Nat) : frz id b (.ro x off) = .ro x off := by simp only [frz]
theorem d3s (id : Nat) (b : Blk) (cs : List AV) : frz id b (.agg cs) = .agg (cs.map (frz id b)) := by simp only [frz]
theorem d3m (id : Nat) (b : Blk) (cs : List AV) : frz id b (.tup cs) = .tup (cs.map (frz id b)) := by simp only [frz]
theorem d5i (id : Nat) (b : Blk) (f : FuncId) (cs : List AV) : frz id b (.fn f cs) = .fn f (cs.map (frz id b)) := by simp only [frz]
theorem b6v (H : Heap) (i : Nat) (b : Blk) (len : Nat) (oc : Option Nat) (h : len = b.xs.length) : frz (lid H i) b (.mu (lid H i) 0 len oc) = .sl b.wd b.xs := by
  simp [frz, h]
theorem c3j (H : Heap) (i : Nat) (b : Blk) (off len : Nat) (oc : Option Nat) (h : off + len ≤ b.xs.length) : frz (lid H i) b (.mu (lid H i) off len oc) = .sl b.wd ((b.xs.drop off).take len) := by
  simp [frz, h]
theorem a1k (H : Heap) (i j : Nat) (b : Blk) (off len : Nat) (oc : Option Nat) (h : j ≠ i) : frz (lid H i) b (.mu (lid H j) off len oc) = .mu (lid H j) off len oc := by
  have : lid H j ≠ lid H i := by simp only [lid]; omega
  simp [frz, this]
theorem a0O (H : Heap) (i j : Nat) (b : Blk) (k off : Nat) (h : j ≠ i) : frz (lid H i) b (.loc (lid H j) k off) = .loc (lid H j) k off := by
  have : lid H j ≠ lid H i := by simp only [lid]; omega
  simp [frz, this]
theorem b3s (H : Heap) (i : Nat) (b : Blk) (k off : Nat) (h : k < b.xs.length) : frz (lid H i) b (.loc (lid H i) k off) = .ro (b.xs.getD k .top) off := by
  simp [frz, h]
section
variable (n0 : Nat) (env : Env) (H L : Heap)
def a1C (n : Nat) (p v : AV) (env : Env) (H : Heap) : Option (AV × Env × Heap) := match p with
  | .loc id i off => (hrow H id).bind fun b =>
        if i < b.xs.length ∧ v.fit = true ∧ v.cells.length = n ∧ off + n ≤ b.wd then some (.top, env, H.set id (some ⟨b.wd, b.xs.set i (upd (b.xs.getD i .top) b.wd off n v)⟩)) else none
  | _ => none
theorem d0X (n : Nat) (a v : Src) : ev n0 (.store n a v) env H = a1C n (a.ev env) (v.ev env) env H := by simp only [ev, a1C]; split <;> simp_all
theorem a5j (n i k off : Nat) (v : AV) {b : Blk} (hl : L[i]? = some (some b)) (hk : k < b.xs.length) (hf : v.fit = true) (hn : v.cells.length = n) (ho : off + n ≤ b.wd) :
    a1C n (.loc (lid H i) k off) v env (hap H L) = some (.top, env, hap H (L.set i (some ⟨b.wd, b.xs.set k (upd (b.xs.getD k .top) b.wd off n v)⟩))) := by
  simp only [a1C, a1r, hl, Option.join_some, Option.bind_some, a3J]
  rw [if_pos ⟨hk, hf, hn, ho⟩]
theorem d5q (n : Nat) (v : Src) : ev n0 (.box n v) env H = if (v.ev env).fit = true ∧ (v.ev env).cells.length = n ∧ 0 < n then some (.loc H.length 0 0, env, H ++ [some ⟨n, [v.ev env]⟩]) else none := rfl
theorem d5p (wd : Nat) (ps : List Src) : ev n0 (.bsl wd ps) env H = if 0 < wd ∧ ps.all (fun s => (s.ev env).fit && decide ((s.ev env).cells.length = wd) && (s.ev env).cells.all clb) then some (.sl wd (ps.map (·.ev env)), env, H) else none := rfl
theorem d3D (wd : Nat) (ps : List Src) : ev n0 (.bslm wd ps) env H = if 0 < wd ∧ ps.all (fun s => (s.ev env).fit && decide ((s.ev env).cells.length = wd)) then
      some (.mu H.length 0 ps.length (some ps.length), env, H ++ [some ⟨wd, ps.map (·.ev env)⟩]) else none := rfl
def b5J (wd bytes : Nat) (z l c : AV) (env : Env) (H : Heap) : Option (AV × Env × Heap) := match l, c with
    | .int _ l, .int _ c => if 0 < wd ∧ 0 ≤ l ∧ l ≤ c ∧ (bytes : Int) * c ≤ 281474976710656 ∧ c ≤ 9223372036854775807 then
        some (.mu H.length 0 l.toNat (some c.toNat), env, H ++ [some ⟨wd, List.replicate l.toNat z⟩]) else none
    | _, _ => none
theorem d3C (wd bytes : Nat) (z : AV) (l c : Src) : ev n0 (.mksl wd bytes z l c) env H = b5J wd bytes z (l.ev env) (c.ev env) env H := by simp only [ev, b5J]; split <;> simp_all
theorem b0K (wd bytes : Nat) (z : AV) (k k' : IntKind) (l c : Nat) (h0 : 0 < wd) (h1 : l ≤ c) (h2 : bytes * c ≤ 281474976710656) (h3 : c ≤ 9223372036854775807) :
    b5J wd bytes z (.int k l) (.int k' c) env (hap H L) = some (.mu (lid H L.length) 0 l (some c), env, hap H (L ++ [some ⟨wd, List.replicate l z⟩])) := by
  simp only [b5J, b6i, b7i, Int.toNat_natCast]
  rw [if_pos ⟨h0, by omega, by omega, by rw [← Int.natCast_mul]; omega, by omega⟩]
noncomputable def appV (n0 wd bytes : Nat) (str : Bool) (x y : AV) (env : Env) (H : Heap) : Option (AV × Env × Heap) := (a0I H wd str y).bind fun ys =>
      match x with
      | .nil => if 0 < wd ∧ ys.length * bytes ≤ 140737488355328 ∧ ys.length ≤ 9223372036854775807 then some (.mu H.length 0 ys.length none, env, H ++ [some ⟨wd, ys⟩]) else none
      | .mu id off len oc => (hrow H id).bind fun r =>
          if r.wd = wd ∧ off = 0 ∧ len ≤ r.xs.length ∧ n0 ≤ id ∧ 0 < ys.length ∧ (oc.any fun c => decide (len + ys.length ≤ c)) = true then
            some (.mu id 0 (len + ys.length) oc, env, H.set id (some ⟨wd, r.xs.take len ++ ys⟩)) else
          if r.wd = wd ∧ off = 0 ∧ len ≤ r.xs.length ∧ n0 ≤ id ∧ free H id = true ∧ (ys.flatMap AV.cells).all (nref id) = true ∧ (r.xs.flatMap AV.cells).all (nref id) = true ∧
              (len + ys.length) * bytes ≤ 140737488355328 ∧ len + ys.length ≤ 9223372036854775807 then
            some (.mu id 0 (len + ys.length) (a1d oc (len + ys.length)), scrub id env, H.set id (some ⟨wd, r.xs.take len ++ ys⟩)) else
          if r.wd = wd ∧ off + len ≤ r.xs.length ∧ 0 < ys.length ∧ (oc.any fun c => decide (c < len + ys.length)) = true ∧ (len + ys.length) * bytes ≤ 140737488355328 ∧ len + ys.length ≤ 9223372036854775807 then
            some (.mu H.length 0 (len + ys.length) none, env, H ++ [some ⟨wd, (r.xs.drop off).take len ++ ys⟩]) else none
      | _ => none
theorem d5r (wd bytes : Nat) (str : Bool) (a b : Src) : ev n0 (.app wd bytes str a b) env H = appV n0 wd bytes str (a.ev env) (b.ev env) env H := by
  simp only [ev, appV]; cases a0I H wd str (b.ev env) <;> simp only [Option.bind_none, Option.bind_some]; split <;> simp_all
theorem c4H (wd bytes : Nat) (str : Bool) (y : AV) (ys : List AV) (hy : a0I (hap H L) wd str y = some ys) (h0 : 0 < wd) (h1 : ys.length * bytes ≤ 140737488355328) (h2 : ys.length ≤ 9223372036854775807) :
    appV n0 wd bytes str .nil y env (hap H L) = some (.mu (lid H L.length) 0 ys.length none, env, hap H (L ++ [some ⟨wd, ys⟩])) := by
  simp only [appV, hy, Option.bind_some, b6i, b7i]
  rw [if_pos ⟨h0, h1, h2⟩]
/-- No row of these names the i-th. -/
def d4m (H : Heap) (L : Heap) (i : Nat) : Prop := ∀ (j : Nat) b, L[j]? = some (some b) → ∀ a ∈ b.flat, Ref (· ≠ lid H i) a
theorem c0s {H L : Heap} {i : Nat} (h : ∀ b, some b ∈ L → ∀ a ∈ b.flat, Cl a) : d4m H L i := fun j b hb a ha => (h b (List.mem_of_getElem? hb) a ha).ref
theorem c4l {H L : Heap} {i : Nat} (hH : a0U H) (h : d4m H L i) : free (hap H L) (lid H i) = true := by
  rw [c4k]
  intro j bj hj hb a ha
  rcases Nat.lt_or_ge j H.length with hlt | hge
  · simp only [hap] at hb
    rw [List.getElem?_append_left hlt] at hb
    exact (hH j bj hb a ha).mono fun k hk => by show k ≠ lid H i; simp only [lid]; omega
  · simp only [hap] at hb
    rw [List.getElem?_append_right hge] at hb
    exact h _ bj hb a ha
theorem b4f (wd bytes : Nat) (str : Bool) (i len : Nat) (oc : Option Nat) (y : AV) (xs ys : List AV) (hH : a0U H) (hl : L[i]? = some (some ⟨wd, xs⟩)) (hlen : len = xs.length) (hn : n0 ≤ lid H i) (hy : a0I (hap H L) wd str y = some ys) (ha : d4m H L i)
    (hys : ∀ a ∈ ys.flatMap AV.cells, Ref (· ≠ lid H i) a) (h1 : (len + ys.length) * bytes ≤ 140737488355328) (h2 : len + ys.length ≤ 9223372036854775807) (hoc : (oc.any fun c => decide (len + ys.length ≤ c)) = false) :
    appV n0 wd bytes str (.mu (lid H i) 0 len oc) y env (hap H L) = some (.mu (lid H i) 0 (len + ys.length) (a1d oc (len + ys.length)), scrub (lid H i) env, hap H (L.set i (some ⟨wd, xs ++ ys⟩))) := by
  subst hlen
  simp only [appV, hy, Option.bind_some, a1r, hl, Option.join_some, a3J]
  rw [if_neg (fun h => by rw [hoc] at h; exact absurd h.2.2.2.2.2 (by decide)), if_pos]
  · simp
  · refine ⟨trivial, trivial, Nat.le_refl _, hn, c4l hH ha, ?_, ?_, h1, h2⟩
    · rw [List.all_eq_true]; intro a h; exact a0q.2 (hys a h)
    · rw [List.all_eq_true]; intro a h; exact a0q.2 (ha i _ hl a h)
/-- Where there is room, what else names the row stays. -/
theorem c9i (wd bytes : Nat) (str : Bool) (i len c : Nat) (y : AV) (xs ys : List AV) (hl : L[i]? = some (some ⟨wd, xs⟩)) (hlen : len = xs.length) (hn : n0 ≤ lid H i) (hy : a0I (hap H L) wd str y = some ys) (h0 : 0 < ys.length) (hc : len + ys.length ≤ c) :
    appV n0 wd bytes str (.mu (lid H i) 0 len (some c)) y env (hap H L) = some (.mu (lid H i) 0 (len + ys.length) (some c), env, hap H (L.set i (some ⟨wd, xs ++ ys⟩))) := by
  subst hlen
  simp only [appV, hy, Option.bind_some, a1r, hl, Option.join_some, a3J]
  rw [if_pos]
  · simp
  · exact ⟨trivial, trivial, Nat.le_refl _, hn, h0, by simpa using hc⟩
theorem a5k (wd : Nat) (xs : List AV) : a0I H wd false (.sl wd xs) = some xs := by simp [a0I]
theorem c0P (wd i off len : Nat) (oc : Option Nat) (xs : List AV) (hl : L[i]? = some (some ⟨wd, xs⟩)) (h : off + len ≤ xs.length) : a0I (hap H L) wd false (.mu (lid H i) off len oc) = some ((xs.drop off).take len) := by
  simp [a0I, a1r, hl, h]
end
theorem d3z (k : IntKind) (n : Int) : (AV.int k n).fit = true := rfl
theorem d0U (b : Bool) : (AV.bool b).fit = true := rfl
theorem d3w (s : ByteArray) : (AV.str s).fit = true := rfl
theorem d3A (cs : List AV) : (AV.agg cs).fit = true := rfl
theorem d5j (wd : Nat) (xs : List AV) : (AV.sl wd xs).fit = true := rfl
theorem d3x : AV.nil.fit = true := rfl
theorem d5l (id off len : Nat) (oc : Option Nat) : (AV.mu id off len oc).fit = true := rfl
theorem d3y (id i off : Nat) : (AV.loc id i off).fit = true := rfl
theorem d5m (f : FuncId) (cs : List AV) : (AV.fn f cs).fit = true := rfl
theorem d5k (x : AV) (off : Nat) : (AV.ro x off).fit = true := rfl
theorem a2j (x : AV) (wd : Nat) (v : AV) : upd x wd 0 wd v = v := by simp [upd]
theorem c9M (env : Env) (H : Heap) : resL env H [] = some [] := rfl
theorem c9L (env : Env) (H : Heap) (t : Nat) (r : List ResV) : resL env H (.tmp t :: r) = (resL env H r).map (look env t :: ·) := rfl
theorem c7n (env : Env) (H : Heap) (t : Nat) (n : Option Nat) (r : List ResV) : resL env H (.cell t n :: r) = (b6h H n (look env t)).bind fun a => (resL env H r).map (a :: ·) := rfl
theorem c7v (a : AV) : b3E [a] = a := rfl
theorem c7u (a b : AV) (r : List AV) : b3E (a :: b :: r) = .tup (a :: b :: r) := rfl
theorem c7w : b3E [] = .tup [] := rfl
/-- What a call answers with. -/
def gret (o : Option (List AV)) (k : AV → Prop) : Prop := match o with
  | some as => k (b3E as)
  | none => False
theorem c8o (as : List AV) (k : AV → Prop) : gret (some as) k = k (b3E as) := rfl
@[congr] theorem d4o {x y : Option (List AV)} {k : AV → Prop} (h : x = y) : gret x k = gret y k := by rw [h]
theorem Safe.retn {x : Cx} {todo : List AItem} {env : Env} {H : Heap} {R : AV → Heap → Prop} (h : gret (resL env H x.rs) fun r => R r H) : Safe x (.code .ret :: todo) env H R := by
  unfold gret at h
  split at h
  · rename_i as ha; exact Safe.ret ha h
  · exact h.elim
theorem c0E : (0 < 1) = True := by decide
/-- The evaluator. -/
def EV := And.intro (And.intro (And.intro (@c3h) (@c1x)) (And.intro (@d4i) (@d3L))) <| And.intro (And.intro (And.intro (And.intro (And.intro (And.intro (And.intro (@d1F) (@c9k)) (And.intro (@c9j) (And.intro (@d4f) (@d4g)))) (And.intro (And.intro (@c6y) (@c3F)) (And.intro (@c8Z) (And.intro (@d1c) (@c8E))))) (And.intro (And.intro (And.intro (@c8D) (@d3I)) (And.intro (@d3J) (And.intro (@c6q) (@c3v)))) (And.intro (And.intro (@c8L) (@c5s)) (And.intro (@c5t) (And.intro (@c6o) (@c6p)))))) (And.intro (And.intro (And.intro (And.intro (@c6i) (@d5L)) (And.intro (@d5M) (And.intro (@c7Q) (@d0v)))) (And.intro (And.intro (@c9Q) (@c9R)) (And.intro (@c8C) (And.intro (@c6l) (@d5Q))))) (And.intro (And.intro (And.intro (@d2I) (@c5p)) (And.intro (@c7r) (And.intro (@c9V) (@d4L)))) (And.intro (And.intro (@d2L) (@d0x)) (And.intro (@d4O) (And.intro (@d4P) (@d5y))))))) (And.intro (And.intro (And.intro (And.intro (And.intro (@d5x) (@d5P)) (And.intro (@d2p) (And.intro (@d2o) (@d2P)))) (And.intro (And.intro (@c8O) (@d4M)) (And.intro (@d0W) (And.intro (@d2O) (@d3t))))) (And.intro (And.intro (And.intro (@d0R) (@d2N)) (And.intro (@d2M) (And.intro (@d0F) (@d2K)))) (And.intro (And.intro (@d4J) (@d2H)) (And.intro (@d4N) (And.intro (@d2J) (@d4K)))))) (And.intro (And.intro (And.intro (And.intro (@c4a) (@d4Q)) (And.intro (@d1C) (And.intro (@c2W) (@d0w)))) (And.intro (And.intro (@b6j) (@d1t)) (And.intro (@d1s) (And.intro (@c4E) (@d1r))))) (And.intro (And.intro (And.intro (@d1v) (@d4d)) (And.intro (@d1B) (And.intro (@d1q) (@d1A)))) (And.intro (And.intro (@d1u) (And.intro (@d1w) (@d1x))) (And.intro (@d1y) (And.intro (@d1z) (@c9f)))))))) (And.intro (And.intro (And.intro (And.intro (And.intro (And.intro (@c9e) (@c7S)) (And.intro (@d5C) (And.intro (@b0e) (@c8Y)))) (And.intro (And.intro (@c8X) (@c6v)) (And.intro (@c8U) (And.intro (@c8V) (@c8W))))) (And.intro (And.intro (And.intro (@d1j) (@c4x)) (And.intro (@c1O) (And.intro (@d1k) (@a1r)))) (And.intro (And.intro (@b6i) (@a3J)) (And.intro (@b7i) (And.intro (@d5a) (@c6x)))))) (And.intro (And.intro (And.intro (And.intro (@join_some) (@d0y)) (And.intro (@c8b) (And.intro (@d0X) (@d5q)))) (And.intro (And.intro (@d5p) (@d3D)) (And.intro (@d3C) (And.intro (@d5r) (@d3z))))) (And.intro (And.intro (And.intro (@d0U) (@d3w)) (And.intro (@d3A) (And.intro (@d5j) (@d3x)))) (And.intro (And.intro (@d5l) (@d3y)) (And.intro (@d5m) (And.intro (@d5k) (@d3X))))))) (And.intro (And.intro (And.intro (And.intro (And.intro (@d1i) (@d3V)) (And.intro (@d3W) (And.intro (@d0b) (@d0g)))) (And.intro (And.intro (@c7y) (@d0c)) (And.intro (@d0d) (And.intro (@d0f) (@d2W))))) (And.intro (And.intro (And.intro (@d2X) (@d0h)) (And.intro (@d0a) (And.intro (@d2Z) (@d2Y)))) (And.intro (And.intro (@d0e) (@c7j)) (And.intro (@c5k) (And.intro (@d3r) (@d0N)))))) (And.intro (And.intro (And.intro (And.intro (@d3o) (@d3p)) (And.intro (@d3n) (And.intro (@d3q) (@d5g)))) (And.intro (And.intro (@d5h) (@d3s)) (And.intro (@d3m) (And.intro (@d5i) (@d0Q))))) (And.intro (And.intro (And.intro (@c8x) (@d0O)) (And.intro (@c8w) (And.intro (@c8v) (@a2j)))) (And.intro (And.intro (@c9M) (And.intro (@c9L) (@c7n))) (And.intro (@c7v) (And.intro (@c7u) (And.intro @c7w (And.intro @c8o @c0E)))))))))
def EVC := And.intro (And.intro (And.intro (And.intro (And.intro (@List.map_cons.{0,0}) (@List.map_nil.{0,0})) (And.intro (@List.length_cons.{0}) (And.intro (@List.length_nil.{0}) (@List.cons_append.{0})))) (And.intro (And.intro (@List.nil_append.{0}) (@List.all_cons.{0})) (And.intro (@List.all_nil.{0}) (And.intro (@Option.map_some.{0,0}) (@Option.map_none.{0,0}))))) (And.intro (And.intro (And.intro (@Option.bind_some.{0,0}) (@Option.bind_none.{0,0})) (And.intro (@Option.isSome_some.{0}) (And.intro (@List.getElem?_cons_zero.{0}) (@List.getElem?_cons_succ.{0})))) (And.intro (And.intro (@List.set_cons_zero.{0}) (@List.set_cons_succ.{0})) (And.intro (@Option.join_some.{0}) (And.intro (@List.getD_cons_zero.{0}) (@List.drop_zero.{0})))))) (And.intro (And.intro (And.intro (And.intro (And.intro (@if_true.{0}) (@if_true.{1})) (And.intro (@if_false.{0}) (@if_false.{1}))) (And.intro (@Bool.false_eq_true) (And.intro (@Bool.true_and) (@Bool.and_true)))) (And.intro (And.intro (@Bool.not_true) (@Bool.not_false)) (And.intro (@decide_true) (And.intro (@decide_false) (@Bool.and_self))))) (And.intro (And.intro (And.intro (@ne_eq.{1}) (@not_true_eq_false)) (And.intro (@not_false_eq_true) (And.intro (@and_self) (@and_true)))) (And.intro (And.intro (@true_and) (@Nat.zero_add)) (And.intro (@Nat.add_zero) (And.intro (@Option.some.injEq.{0}) (@Nat.lt_add_one))))))
end Go.Abs
set_option linter.unusedVariables false
set_option linter.unusedSimpArgs false
set_option linter.defProp false
namespace Go.Abs
/-- Whatever is the one is the other. -/
def Le (a b : AV) : Prop := ∀ E v, Rep E v a → Rep E v b
theorem Le.refl (a : AV) : Le a a := fun _ _ h => h
theorem Le.trans {a b c : AV} (h : Le a b) (k : Le b c) : Le a c := fun E v r => k E v (h E v r)
theorem Le.nil (wd : Nat) (h : 0 < wd) : Le .nil (.sl wd []) := fun E v r => b7W wd h r
theorem Le.top (a : AV) : Le a .top := fun E v r => .top v
theorem Le.agg {as bs : List AV} (hl : as.length = bs.length) (h : ∀ (k : Nat) a b, as[k]? = some a → bs[k]? = some b → Le a b) : Le (.agg as) (.agg bs) := by
  intro E v r
  cases r with
  | agg vs _ hlen h1 hrep =>
    refine .agg vs bs (by omega) h1 fun k v b hv hb => ?_
    have hk := a0c hb
    exact h k _ b (List.getElem?_eq_getElem (by omega)) hb E v (hrep k v _ hv (List.getElem?_eq_getElem (by omega)))
  | dead v a id hr hd h1 => simp [AV.ref] at hr
theorem Le.tup {as bs : List AV} (hl : as.length = bs.length) (h : ∀ (k : Nat) a b, as[k]? = some a → bs[k]? = some b → Le a b) : Le (.tup as) (.tup bs) := by
  intro E v r
  cases r with
  | tup vs _ hlen hrep =>
    refine .tup vs bs (by omega) fun k v b hv hb => ?_
    have hk := a0c hb
    exact h k _ b (List.getElem?_eq_getElem (by omega)) hb E v (hrep k v _ hv (List.getElem?_eq_getElem (by omega)))
  | dead v a id hr hd h1 => simp [AV.ref] at hr
theorem Le.agg2 {a b c d : AV} (h : Le a c) (k : Le b d) : Le (.agg [a, b]) (.agg [c, d]) := Le.agg rfl fun i x y hx hy => by
  match i with
  | 0 => cases hx; cases hy; exact h
  | 1 => cases hx; cases hy; exact k
theorem Le.tup2 {a b c d : AV} (h : Le a c) (k : Le b d) : Le (.tup [a, b]) (.tup [c, d]) := Le.tup rfl fun i x y hx hy => by
  match i with
  | 0 => cases hx; cases hy; exact h
  | 1 => cases hx; cases hy; exact k
theorem Le.tup3 {a b e c d f : AV} (h : Le a c) (k : Le b d) (l : Le e f) : Le (.tup [a, b, e]) (.tup [c, d, f]) := Le.tup rfl fun i x y hx hy => by
  match i with
  | 0 => cases hx; cases hy; exact h
  | 1 => cases hx; cases hy; exact k
  | 2 => cases hx; cases hy; exact l
theorem a0n.cutL {P : Program} {f : FuncId} {args : List AV} {H : Heap} {r : AV} (hr : Ref (· < H.length) r) (h : a0n P f args H fun r' H' => Le r' r ∧ ∃ L, H' = hap H L) : a0n P f args H fun r' H' => r' = r ∧ H' = H := by
  refine ⟨h.1, fun φ w vs hok hl hrep => (h.2 φ w vs hok hl hrep).mono ?_⟩
  rintro e w' ⟨v, r', φ', H', rfl, ⟨hle, L, rfl⟩, q1, q2, q3, q4⟩
  have hfree : ∀ (j : Nat) bj, j < H.length → (hap H L)[j]? = some (some bj) → ∀ a ∈ bj.flat, Ref (· < H.length) a := by
    intro j bj hj hb
    simp only [hap] at hb
    rw [List.getElem?_append_left hj] at hb
    exact hok.refs hb
  have hcut := HOk.cut q1 H.length hfree
  have ht : (hap H L).take H.length = H := by simp [hap]
  simp only [ht] at hcut
  exact ⟨v, r, φ', H, rfl, ⟨rfl, rfl⟩, hcut.1, (hle _ _ q2).mono hcut.2 hr, Nat.le_refl _, q4.trans hcut.2⟩
theorem a0e.introL {P : Program} {mu : Nat → Nat → Bool} {f : FuncId} {fn : Func} (hf : P.funcs[f]? = some fn) {ac : ACode} {rs : List ResV} {nt : Nat} (hc : fchk P mu fn = some (ac, rs, nt))
    {args : List AV} {r : AV} (ha : args.length ≤ nt) (hr : Cl r) (h : ∀ H, a0U H → Safe ⟨P, mu, f, nt, rs, H.length⟩ [.code ac] (b3H 0 args) (hap H []) fun r' H' => Le r' r ∧ ∃ L, H' = hap H L) : a0e P f args r := by
  intro H
  refine a0n.cutL hr.ref (a0n.intro hf hc ha fun hH => ?_)
  have := h H hH
  rw [a2V] at this
  exact this
/-- A row's elements told as others that tell less. -/
theorem Safe.toldRow (i : Nat) {x : Cx} {todo : List AItem} {env : Env} {H L : Heap} {R : AV → Heap → Prop} {b b' : Blk} (hl : L[i]? = some (some b)) (hw : b'.wd = b.wd) (hx : ∀ y ∈ b'.xs, y.cells.length = b.wd) (hlen : b'.flat.length = b.flat.length) (hemp : b.xs = [] → b'.xs = [])
    (hle : ∀ (k : Nat) a c, b.flat[k]? = some a → b'.flat[k]? = some c → Le a c) (h : Safe x todo env (hap H (L.set i (some b'))) R) : Safe x todo env (hap H L) R := by
  intro φ w tmps bf k cs hg hn hb hk htd hsz hok he
  have hl' : (hap H L)[lid H i]? = some (some b) := by
    unfold hap lid
    rw [List.getElem?_append_right (by omega), Nat.add_sub_cancel_left]; exact hl
  have hget : ∀ (j : Nat), (hap H (L.set i (some b')))[j]? = if lid H i = j then some (some b') else (hap H L)[j]? := by
    intro j
    rw [← a3J]
    exact a7c _ _ _ (a0k hl') j
  have hx2 : ∀ w : World, Ext All ⟨φ, hap H L, w⟩ ⟨φ, hap H (L.set i (some b')), w⟩ := by
    intro w
    refine ⟨rfl, rfl, rfl, Nat.le_refl _, by simp [hap], fun _ _ _ => rfl, ?_, fun _ _ _ _ _ _ _ => rfl, ?_, fun _ _ _ => rfl⟩
    · intro j blk' _ _ hb'
      rw [hget] at hb'
      split at hb'
      · rename_i hj; subst hj; simp at hb'; subst hb'; exact ⟨b, hl', hw.symm⟩
      · exact ⟨blk', hb', rfl⟩
    · rintro b0 _ ⟨j, blk', hb', hp⟩
      simp only [hget] at hb'
      split at hb'
      · rename_i hj; subst hj; exact ⟨_, b, hl', hp⟩
      · exact ⟨j, blk', hb', hp⟩
  have live : ∀ (j : Nat) blk', (hap H (L.set i (some b')))[j]? = some (some blk') → (j = lid H i ∧ blk' = b') ∨ (j ≠ lid H i ∧ (hap H L)[j]? = some (some blk')) := by
    intro j blk' hb'
    rw [hget] at hb'
    split at hb'
    · rename_i hj; simp at hb'; exact .inl ⟨hj.symm, hb'.symm⟩
    · rename_i hj; exact .inr ⟨fun e => hj e.symm, hb'⟩
  have hok' : HOk ⟨φ, hap H (L.set i (some b')), w⟩ := by
    refine ⟨fun j x h => ?_, fun j x h => ?_, fun j x bl h hp => ?_, fun j x h hp => ?_, fun j1 j2 x y bl h1 h2 p1 p2 => ?_⟩
    · rcases live j x h with ⟨rfl, rfl⟩ | ⟨_, h'⟩
      · rw [hw]; exact hok.wpos _ b hl'
      · exact hok.wpos j x h'
    · rcases live j x h with ⟨rfl, rfl⟩ | ⟨_, h'⟩
      · rw [hw]; exact hx
      · exact hok.wids j x h'
    · have mv : ∀ {v a}, Rep ⟨φ, hap H L, w⟩ v a → Rep ⟨φ, hap H (L.set i (some b')), w⟩ v a := fun r => r.mono (hx2 w) (r.ref.mono fun _ _ => trivial)
      rcases live j x h with ⟨rfl, rfl⟩ | ⟨_, h'⟩
      · obtain ⟨c, e, r⟩ := hok.row _ b bl hl' hp
        refine ⟨c, e, r.heap, by rw [hlen]; exact r.fits, fun k v hk hv => r.one k v (by rw [← hlen]; exact hk) hv, fun k v a hv ha => ?_⟩
        have hk := a0c ha
        have ha' : b.flat[k]? = some (b.flat[k]'(by omega)) := List.getElem?_eq_getElem (by omega)
        exact mv (hle k _ a ha' ha _ _ (r.rep k v _ hv ha'))
      · obtain ⟨c, e, r⟩ := hok.row j x bl h' hp
        exact ⟨c, e, r.heap, r.fits, r.one, fun k v a hv ha => mv (r.rep k v a hv ha)⟩
    · rcases live j x h with ⟨rfl, rfl⟩ | ⟨_, h'⟩
      · exact hemp (hok.emp _ b hl' hp)
      · exact hok.emp j x h' hp
    · have g1 : ∃ z, (hap H L)[j1]? = some (some z) := by rcases live j1 x h1 with ⟨rfl, _⟩ | ⟨_, h'⟩; exact ⟨b, hl'⟩; exact ⟨x, h'⟩
      have g2 : ∃ z, (hap H L)[j2]? = some (some z) := by rcases live j2 y h2 with ⟨rfl, _⟩ | ⟨_, h'⟩; exact ⟨b, hl'⟩; exact ⟨y, h'⟩
      obtain ⟨_, g1⟩ := g1
      obtain ⟨_, g2⟩ := g2
      exact hok.inj j1 j2 _ _ bl g1 g2 p1 p2
  obtain ⟨v, w', fr, r, φ', H', q1, q2, q3, q4, q5, q6⟩ := h φ w tmps bf k cs hg (by simpa [hap] using hn) hb hk htd hsz hok' (fun t => (he t).mono (hx2 w) ((he t).ref.mono fun _ _ => trivial))
  exact ⟨v, w', fr, r, φ', H', q1, q2, q3, q4, ((hx2 w).sub fun _ _ => trivial).trans q5, q6⟩
theorem d2t (n i off : Nat) (v : AV) (env : Env) (H L : Heap) : a1C n (.loc (lid H i) 0 off) v env (hap H L) = (L[i]?).join.bind fun b =>
    if 0 < b.xs.length ∧ v.fit = true ∧ v.cells.length = n ∧ off + n ≤ b.wd then some (.top, env, hap H (L.set i (some ⟨b.wd, b.xs.set 0 (upd (b.xs.getD 0 .top) b.wd off n v)⟩))) else none := by
  simp only [a1C, a1r, a3J]
theorem d1p (env : Env) (cs : List AV) : bldV env cs [] = some cs := rfl
theorem c9c (env : Env) (cs : List AV) (off n : Nat) (s : Src) (r : List (Nat × Nat × Src)) :
    bldV env cs ((off, n, s) :: r) = if (s.ev env).cells.length = n ∧ off + n ≤ cs.length ∧ (s.ev env).fit = true then bldV env (a1D cs off (s.ev env).cells) r else none := rfl
theorem c6V (cs : List AV) (off : Nat) (as : List AV) : a1D cs off as = cs.take off ++ as ++ cs.drop (off + as.length) := rfl
def EV2 := And.intro (And.intro @d2t (And.intro @d1p (And.intro @c9c @c6V))) (And.intro (And.intro (And.intro (@List.drop_succ_cons.{0}) (@List.take_succ_cons.{0})) (And.intro (@List.take_zero.{0}) (@List.take_nil.{0}))) (And.intro (And.intro (@List.drop_nil.{0}) (@List.append_nil.{0})) (And.intro (@Nat.le_refl) (@Nat.lt_irrefl))))
end Go.Abs
set_option linter.unusedVariables false
set_option linter.unusedSimpArgs false
namespace Go.Abs
section
variable {x : Cx} {l : ACode} {todo : List AItem} {R : AV → Heap → Prop}
/-- The structural steps. -/
def stl : Nat → List AItem → List AItem
  | 0, k => k
  | n + 1, .code (.seq a b) :: k => stl n (.code a :: .code b :: k)
  | n + 1, .code .skip :: k => stl n k
  | n + 1, .code (.block id a) :: k => stl n (.code a :: .inBlock id :: k)
  | n + 1, .inBlock _ :: k => stl n k
  | n + 1, .code (.scope a) :: k => stl n (.code a :: .inScope a :: k)
  | n + 1, .inScope _ :: k => stl n k
  | n + 1, .code (.exit id) :: k => match b7K id k with
    | some k' => stl n k'
    | none => .code (.exit id) :: k
  | n + 1, .code (.label _) :: k => stl n k
  | n + 1, .code (.goto l) :: k => match b7I l k with
    | some k' => stl n k'
    | none => .code (.goto l) :: k
  | _, k => k
theorem Safe.stl {env : Env} {H : Heap} : ∀ (n : Nat) (k : List AItem), Safe x (stl n k) env H R → Safe x k env H R := by
  intro n
  induction n with
  | zero => intro k h; cases k <;> exact h
  | succ n ih =>
    intro k h
    unfold Abs.stl at h
    split at h
    · rename_i h0; cases h0
    · rename_i h0; cases h0; exact Safe.seq (ih _ h)
    · rename_i h0; cases h0; exact Safe.skip (ih _ h)
    · rename_i h0; cases h0; exact Safe.block (ih _ h)
    · rename_i h0; cases h0; exact Safe.inBlock (ih _ h)
    · rename_i h0; cases h0; exact Safe.scope (ih _ h)
    · rename_i h0; cases h0; exact Safe.inScope (ih _ h)
    · rename_i h0; cases h0
      split at h
      · rename_i he; exact Safe.exit he (ih _ h)
      · exact h
    · rename_i h0; cases h0; exact Safe.label (ih _ h)
    · rename_i h0; cases h0
      split at h
      · rename_i he; exact Safe.goto he (ih _ h)
      · exact h
    · exact h
theorem Safe.rg {env : Env} {H : Heap} {k k' : List AItem} {b : Bool} {l : List AIns} (e : Abs.stl 40 k = .code (.region l b) :: k')
    (h : if b = true then dops x.P x.n0 l (fun env' H' => Safe x k' env' H' R) env H else aops x.P x.n0 l (fun env' H' => Safe x k' env' H' R) env H) : Safe x k env H R := by
  refine Safe.stl 40 k ?_
  rw [e]
  cases b
  · exact Safe.region h
  · exact Safe.regionD h
theorem Safe.rx {env : Env} {H : Heap} {k k' : List AItem} {p s1 s2 : List AIns} {sd : List (Nat × Nat)} (e : Abs.stl 40 k = .code (.regionX p s1 s2 sd) :: k') (hs : sdOk sd env)
    (h : dops x.P x.n0 p (fun env' H' => dops x.P x.n0 s1 (fun env' H' => Safe x k' env' H' R) env' H' ∧ dops x.P x.n0 s2 (fun env' H' => Safe x k' env' H' R) env' H') env H) : Safe x k env H R := by
  refine Safe.stl 40 k ?_
  rw [e]
  exact Safe.regionX hs h
theorem Safe.cd {env : Env} {H : Heap} {k k' : List AItem} {s : Src} {a b : ACode} (e : Abs.stl 40 k = .code (.cond s a b) :: k')
    (h : c6j (s.ev env) fun c => if c then Safe x (.code a :: k') env H R else Safe x (.code b :: k') env H R) : Safe x k env H R := by
  refine Safe.stl 40 k ?_
  rw [e]
  exact Safe.cond h
theorem Safe.lp {env : Env} {H : Heap} {k k' : List AItem} {a : ACode} (e : Abs.stl 40 k = .code (.loop a) :: k') (h : Safe x (.inLoop a :: k') env H R) : Safe x k env H R := by
  refine Safe.stl 40 k ?_
  rw [e]
  exact Safe.loop h
theorem Safe.rt {env : Env} {H : Heap} {k k' : List AItem} (e : Abs.stl 40 k = .code .ret :: k') (h : gret (resL env H x.rs) fun r => R r H) : Safe x k env H R := by
  refine Safe.stl 40 k ?_
  rw [e]
  exact Safe.retn h
theorem Safe.loopP (n : Nat) (E : Nat → Env) (G : Nat → Heap) (P : Nat → Prop) {env : Env} {H : Heap} (he : env = E 0) (hG : H = G 0) (h0 : P 0)
    (step : ∀ i, i < n → P i → (P (i + 1) → Safe x (.inLoop l :: todo) (E (i + 1)) (G (i + 1)) R) → Safe x (.inLoop l :: todo) (E i) (G i) R)
    (last : P n → Safe x (.inLoop l :: todo) (E n) (G n) R) : Safe x (.inLoop l :: todo) env H R := by
  subst he; subst hG
  have key : ∀ k i, i + k = n → P i → Safe x (.inLoop l :: todo) (E i) (G i) R := by
    intro k
    induction k with
    | zero => intro i hi hp; rw [show i = n by omega] at hp ⊢; exact last hp
    | succ k ih => intro i hi hp; exact step i (by omega) hp fun hp' => ih (i + 1) (by omega) hp'
  exact key n 0 (by omega) h0
theorem Safe.loopN (n : Nat) (E : Nat → Env) (G : Nat → Heap) {env : Env} {H : Heap} (he : env = E 0) (hG : H = G 0)
    (step : ∀ i, i < n → Safe x (.inLoop l :: todo) (E (i + 1)) (G (i + 1)) R → Safe x (.inLoop l :: todo) (E i) (G i) R)
    (last : Safe x (.inLoop l :: todo) (E n) (G n) R) : Safe x (.inLoop l :: todo) env H R :=
  Safe.loopP n E G (fun _ => True) he hG trivial (fun i hi _ ih => step i hi (ih trivial)) fun _ => last
/-- A loop that counts down. -/
theorem Safe.loopD (n : Nat) (E : Nat → Env) (G : Nat → Heap) {env : Env} {H : Heap} (he : env = E n) (hG : H = G n)
    (step : ∀ i, i < n → Safe x (.inLoop l :: todo) (E i) (G i) R → Safe x (.inLoop l :: todo) (E (i + 1)) (G (i + 1)) R)
    (last : Safe x (.inLoop l :: todo) (E 0) (G 0) R) : Safe x (.inLoop l :: todo) env H R := by
  subst he; subst hG
  have key : ∀ i, i ≤ n → Safe x (.inLoop l :: todo) (E i) (G i) R := by
    intro i
    induction i with
    | zero => intro _; exact last
    | succ i ih => intro hi; exact step i (by omega) (ih (by omega))
  exact key n (Nat.le_refl _)
/-- A loop with a measure. -/
theorem Safe.loopW {α : Type} (μ : α → Nat) (E : α → Env) (G : α → Heap) (P : α → Prop) (a0 : α) {env : Env} {H : Heap} (he : env = E a0) (hG : H = G a0) (h0 : P a0)
    (step : ∀ a, P a → (∀ b, P b → μ b < μ a → Safe x (.inLoop l :: todo) (E b) (G b) R) → Safe x (.inLoop l :: todo) (E a) (G a) R) : Safe x (.inLoop l :: todo) env H R := by
  subst he; subst hG
  have key : ∀ k a, μ a ≤ k → P a → Safe x (.inLoop l :: todo) (E a) (G a) R := by
    intro k
    induction k with
    | zero => intro a ha hp; exact step a hp fun b hb hlt => absurd hlt (by omega)
    | succ k ih => intro a ha hp; exact step a hp fun b hb hlt => ih b (by omega) hb
  exact key (μ a0) a0 (Nat.le_refl _) h0
theorem a1m {α β : Type} (f : α → β) (l : List α) {i : Nat} (h : i < l.length) : (l.take (i + 1)).map f = (l.take i).map f ++ [f l[i]] := by
  rw [List.take_succ_eq_append_getElem h, List.map_append]; rfl
theorem a3H {α : Type} (l : List α) {i : Nat} (h : i < l.length) : l.take (i + 1) = l.take i ++ [l[i]] := List.take_succ_eq_append_getElem h
end
end Go.Abs
set_option linter.unusedVariables false
set_option linter.unusedSimpArgs false
namespace Go.Abs
theorem Ref.both {S T : Nat → Prop} {a : AV} (h : Ref S a) (k : Ref T a) : Ref (fun i => S i ∧ T i) a := by
  induction h with
  | top => exact .top
  | int => exact .int _ _
  | bool => exact .bool _
  | str => exact .str _
  | nil => exact .nil
  | lit => exact .lit _
  | sl => exact .sl _ _
  | ro => exact .ro _ _
  | mu i off len oc h => cases k with | mu _ _ _ _ h' => exact .mu i off len oc ⟨h, h'⟩
  | loc i k off h => cases k with | loc _ _ _ h' => exact .loc i _ off ⟨h, h'⟩
  | agg cs h ih => cases k with | agg _ h' => exact .agg cs fun c hc => ih c hc (h' c hc)
  | tup cs h ih => cases k with | tup _ h' => exact .tup cs fun c hc => ih c hc (h' c hc)
  | fn f cs h ih => cases k with | fn _ _ h' => exact .fn f cs fun c hc => ih c hc (h' c hc)
theorem c1r {env : Env} {id : Nat} (h : env.all (fun p => nref id p.2) = true) (t : Nat) : Ref (· ≠ id) (look env t) := by
  induction env with
  | nil => exact .top
  | cons p env ih =>
    simp only [List.all_cons, Bool.and_eq_true] at h
    simp only [look]
    split
    · exact a0q.1 h.1
    · exact ih h.2
theorem Safe.drop {x : Cx} {todo : List AItem} {env : Env} {H L : Heap} {R : AV → Heap → Prop} {o : Option Blk} (hH : a0U H) (hx : x.n0 = H.length) (he : env.all (fun p => nref (lid H L.length) p.2) = true)
    (hL : ∀ b, some b ∈ L → ∀ a ∈ b.flat, nref (lid H L.length) a = true) (h : Safe x todo env (hap H L) R) : Safe x todo env (hap H (L ++ [o])) R := by
  intro φ w tmps b k cs hg hn hb hk htd hsz hok hrep
  have hlen : (hap H (L ++ [o])).length = lid H L.length + 1 := by simp [hap, lid, Nat.add_assoc]
  have lt : ∀ {a}, Ref (· < (hap H (L ++ [o])).length) a → Ref (· ≠ lid H L.length) a → Ref (· < lid H L.length) a := fun h1 h2 => (h1.both h2).mono fun i ⟨q1, q2⟩ => by rw [hlen] at q1; show i < _; omega
  have htake : (hap H (L ++ [o])).take (lid H L.length) = hap H L := by
    simp only [hap, lid, ← List.append_assoc]
    rw [show H.length + L.length = (H ++ L).length by simp, List.take_left']
    rfl
  have hcut := HOk.cut (E := ⟨φ, hap H (L ++ [o]), w⟩) hok (lid H L.length) (by
    intro j bj hj hbj a ha
    refine lt (hok.refs hbj a ha) ?_
    simp only [hap] at hbj
    rcases Nat.lt_or_ge j H.length with hlt | hge
    · rw [List.getElem?_append_left hlt] at hbj
      exact (hH j bj hbj a ha).mono fun i hi => by show i ≠ H.length + L.length; have : i < H.length := hi; omega
    · rw [List.getElem?_append_right hge] at hbj
      have hj2 : j - H.length < L.length := by simp only [lid] at hj; omega
      rw [List.getElem?_append_left hj2] at hbj
      exact a0q.1 (hL bj (List.mem_of_getElem? hbj) a ha))
  simp only [htake] at hcut
  obtain ⟨v, w', fr, r, φ', H', q1, q2, q3, q4, q5, q6⟩ := h φ w tmps b k cs hg (by rw [hx]; simp [hap]) hb hk htd hsz hcut.1 (fun t => (hrep t).mono hcut.2 (lt (hrep t).ref (c1r he t)))
  exact ⟨v, w', fr, r, φ', H', q1, q2, q3, q4, (hcut.2.sub fun i hi => by rw [hx] at hi; show i < H.length + L.length; have : i < H.length := hi; omega).trans q5, q6⟩
/-- The same where the other rows are closed. -/
theorem Safe.dropC {x : Cx} {todo : List AItem} {env : Env} {H L : Heap} {R : AV → Heap → Prop} {o : Option Blk} (hH : a0U H) (hx : x.n0 = H.length) (he : env.all (fun p => nref (lid H L.length) p.2) = true)
    (hL : ∀ b, some b ∈ L → ∀ a ∈ b.flat, Cl a) (h : Safe x todo env (hap H L) R) : Safe x todo env (hap H (L ++ [o])) R :=
  Safe.drop hH hx he (fun b hb a ha => a1y (hL b hb a ha)) h
end Go.Abs
set_option linter.unusedVariables false
set_option linter.unusedSimpArgs false
namespace Go.Abs
theorem a0U.set {H : Heap} (h : a0U H) (id : Nat) {b : Blk} (hb : ∀ a ∈ b.flat, Ref (· < H.length) a) : a0U (H.set id (some b)) := by
  intro j bj hj a ha
  rw [List.length_set]
  rw [List.getElem?_set] at hj
  split at hj
  · split at hj
    · cases hj; exact hb a ha
    · cases hj
  · exact h j bj hj a ha
/-- A function's rows of its own are forgotten; what it wrote below stays. -/
theorem a0n.eff {P : Program} {mu : Nat → Nat → Bool} {f : FuncId} {fn : Func} (hf : P.funcs[f]? = some fn) {ac : ACode} {rs : List ResV} {nt : Nat} (hc : fchk P mu fn = some (ac, rs, nt))
    {args : List AV} {H : Heap} {R : AV → Heap → Prop} (ha : args.length ≤ nt)
    (h : a0U H → Safe ⟨P, mu, f, nt, rs, H.length⟩ [.code ac] (b3H 0 args) (hap H []) fun r' H' => ∃ H1 L, H' = hap H1 L ∧ H1.length = H.length ∧ a0U H1 ∧ Ref (· < H.length) r' ∧ R r' H1) : a0n P f args H R := by
  have h0 : a0n P f args H fun r' H' => ∃ H1 L, H' = hap H1 L ∧ H1.length = H.length ∧ a0U H1 ∧ Ref (· < H.length) r' ∧ R r' H1 := a0n.intro hf hc ha fun hH => by
    have := h hH
    rw [a2V] at this
    exact this
  refine ⟨h0.1, fun φ w vs hok hl hrep => (h0.2 φ w vs hok hl hrep).mono ?_⟩
  rintro e w' ⟨v, r', φ', H', rfl, ⟨H1, L, rfl, hlen, hrefs, hcl, hR⟩, q1, q2, q3, q4⟩
  have hfree : ∀ (j : Nat) bj, j < H.length → (hap H1 L)[j]? = some (some bj) → ∀ a ∈ bj.flat, Ref (· < H.length) a := by
    intro j bj hj hb
    simp only [hap] at hb
    rw [List.getElem?_append_left (by omega)] at hb
    have := hrefs j bj hb
    rwa [hlen] at this
  have hcut := HOk.cut q1 H.length hfree
  have ht : (hap H1 L).take H.length = H1 := by simp [hap, ← hlen]
  simp only [ht] at hcut
  exact ⟨v, r', φ', H1, rfl, hR, hcut.1, q2.mono hcut.2 hcl, by omega, q4.trans hcut.2⟩
section
variable {H L : Heap} {id : Nat} (hid : id < H.length)
include hid
theorem c2A (b : Blk) : hrow (hap (H.set id (some b)) L) id = some b := by
  rw [a5X _ _ _ (by simpa using hid)]
  simp [hrow, hid]
theorem d2U (b : Option Blk) (b' : Option Blk) : (hap (H.set id b) L).set id b' = hap (H.set id b') L := by
  unfold hap
  rw [List.set_append_left _ _ (by simpa using hid), List.set_set]
theorem b1y (wd : Nat) (X : List AV) (off len j : Nat) (oc : Option Nat) (k : IntKind) (h : j < len) : idxV (hap (H.set id (some ⟨wd, X⟩)) L) wd (.mu id off len oc) (.int k j) = some (.loc id (off + j) 0) := by
  rw [b6r _ _ _ _ _ _ _ _ (by omega) (by omega), c2A hid]
  simp
theorem d4W (b : Blk) (j : Nat) (h : j < b.xs.length) : atV (hap (H.set id (some b)) L) (.loc id j 0) = some (b.xs.getD j .top).cells := by
  rw [b0e, c2A hid]; simp [h]
theorem d4V (env : Env) (b : Blk) (n j : Nat) (v : AV) (h : j < b.xs.length) (hf : v.fit = true) (hn : v.cells.length = n) (ho : n ≤ b.wd) :
    a1C n (.loc id j 0) v env (hap (H.set id (some b)) L) = some (.top, env, hap (H.set id (some ⟨b.wd, b.xs.set j (upd (b.xs.getD j .top) b.wd 0 n v)⟩)) L) := by
  simp only [a1C, c2A hid, Option.bind_some, d2U hid]
  rw [if_pos ⟨h, hf, hn, by omega⟩]
end
theorem c9H {H : Heap} {id : Nat} {b : Option Blk} (h : H[id]? = some b) : H.set id b = H := by
  apply List.ext_getElem?
  intro j
  rw [List.getElem?_set]
  split
  · rename_i e; subst e
    have := (List.getElem?_eq_some_iff.1 h).1
    rw [if_pos this, h]
  · rfl
end Go.Abs
set_option linter.unusedVariables false
set_option linter.unusedSimpArgs false
namespace Go.Abs
def fr (n : Nat) (f : Nat → AV) : List AV := (List.range n).map f
theorem c1D (n : Nat) (f : Nat → AV) : (fr n f).length = n := by simp [fr]
theorem d1W {n : Nat} {f : Nat → AV} {i : Nat} (h : i < n) : (fr n f).getD i .top = f i := by simp [fr, List.getD_eq_getElem?_getD, h]
theorem a8x {n : Nat} {f g : Nat → AV} (h : ∀ i, i < n → f i = g i) : fr n f = fr n g := List.map_congr_left fun i hi => h i (List.mem_range.1 hi)
theorem c8y (n : Nat) (f : Nat → AV) (i : Nat) (v : AV) : (fr n f).set i v = fr n fun j => if j = i then v else f j := by
  apply List.ext_getElem?
  intro j
  rw [List.getElem?_set]
  simp only [fr, List.getElem?_map, List.length_map, List.length_range]
  rcases Nat.lt_or_ge j n with h | h
  · rw [List.getElem?_range h]
    by_cases e : i = j
    · subst e; simp [h]
    · simp [e, Ne.symm e]
  · by_cases e : i = j
    · subst e; simp [h]
    · simp [e, h]
theorem d1V {n : Nat} {f : Nat → AV} {a : AV} (h : a ∈ fr n f) : ∃ i, i < n ∧ a = f i := by
  obtain ⟨i, hi, rfl⟩ := List.mem_map.1 h
  exact ⟨i, List.mem_range.1 hi, rfl⟩
theorem d1h {a : AV} (h : Cl a) : ∀ c ∈ a.cells, Cl c := by
  cases h with
  | agg cs h => exact h
  | top => intro c hc; simp [AV.cells] at hc; subst hc; exact .top
  | int k n => intro c hc; simp [AV.cells] at hc; subst hc; exact .int k n
  | bool b => intro c hc; simp [AV.cells] at hc; subst hc; exact .bool b
  | str b => intro c hc; simp [AV.cells] at hc; subst hc; exact .str b
  | nil => intro c hc; simp [AV.cells] at hc; subst hc; exact .nil
  | lit v => intro c hc; simp [AV.cells] at hc; subst hc; exact .lit v
  | sl wd xs h => intro c hc; simp [AV.cells] at hc; subst hc; exact .sl wd xs h
  | ro x off h => intro c hc; simp [AV.cells] at hc; subst hc; exact .ro x off h
  | tup cs h => intro c hc; simp [AV.cells] at hc; subst hc; exact .tup cs h
  | fn f cs h => intro c hc; simp [AV.cells] at hc; subst hc; exact .fn f cs h
/-- Rows bound anew: the outer one, and n inner ones behind it. -/
def hm (G : Heap) (β n : Nat) (O : List AV) (R : Nat → Option Blk) : Heap := G.mapIdx fun j o => if j = β then some ⟨1, O⟩ else if β < j ∧ j ≤ β + n then R (j - (β + 1)) else o
theorem a1u (G : Heap) (β n : Nat) (O : List AV) (R : Nat → Option Blk) : (hm G β n O R).length = G.length := by simp [hm]
theorem a2P (G : Heap) (β n : Nat) (O : List AV) (R : Nat → Option Blk) (j : Nat) (hj : j < G.length) : (hm G β n O R)[j]? = if j = β then some (some ⟨1, O⟩) else if β < j ∧ j ≤ β + n then some (R (j - (β + 1))) else G[j]? := by
  simp only [hm, List.getElem?_mapIdx, List.getElem?_eq_getElem hj, Option.map_some]
  split
  · rfl
  · split <;> rfl
theorem d3i {G : Heap} {β n : Nat} {O : List AV} {R : Nat → Option Blk} (ho : G[β]? = some (some ⟨1, O⟩)) (hr : ∀ j, j < n → G[β + 1 + j]? = some (R j)) : hm G β n O R = G := by
  apply List.ext_getElem?
  intro j
  rcases Nat.lt_or_ge j G.length with hj | hj
  · rw [a2P _ _ _ _ _ _ hj]
    split
    · rename_i e; subst e; exact ho.symm
    · split
      · rename_i e1 e2
        have := hr (j - (β + 1)) (by omega)
        rw [show β + 1 + (j - (β + 1)) = j by omega] at this
        exact this.symm
      · rfl
  · rw [List.getElem?_eq_none (by rw [a1u]; exact hj), List.getElem?_eq_none hj]
theorem c0d {G : Heap} {β n : Nat} {O O' : List AV} {R R' : Nat → Option Blk} (ho : O = O') (hr : ∀ j, j < n → R j = R' j) : hm G β n O R = hm G β n O' R' := by
  subst ho
  apply List.ext_getElem?
  intro j
  rcases Nat.lt_or_ge j G.length with hj | hj
  · rw [a2P _ _ _ _ _ _ hj, a2P _ _ _ _ _ _ hj]
    split
    · rfl
    · split
      · rw [hr _ (by omega)]
      · rfl
  · rw [List.getElem?_eq_none (by rw [a1u]; exact hj), List.getElem?_eq_none (by rw [a1u]; exact hj)]
theorem b4H (A B : Heap) (id : Nat) (b : Option Blk) (h : id < A.length) : (hap A B).set id b = hap (A.set id b) B := by
  unfold hap; exact List.set_append_left _ _ h
theorem c7U (G : Heap) (β n : Nat) (O : List AV) (R : Nat → Option Blk) (i : Nat) : lid (hm G β n O R) i = lid G i := by unfold lid; rw [a1u]
section
variable {G L : Heap} {β n : Nat} {O : List AV} {R : Nat → Option Blk}
/-- Local rows behind. -/
theorem d0H (i : Nat) : hrow (hap (hm G β n O R) L) (lid G i) = (L[i]?).join := by
  rw [← c7U G β n O R, a1r]
theorem d2C (i : Nat) (x : Option Blk) : (hap (hm G β n O R) L).set (lid G i) x = hap (hm G β n O R) (L.set i x) := by
  rw [← c7U G β n O R, a3J]
variable (hG : β + n < G.length)
include hG
theorem d0G : hrow (hap (hm G β n O R) L) β = some ⟨1, O⟩ := by
  rw [a5X _ _ _ (by rw [a1u]; omega)]
  simp only [hrow]
  rw [a2P _ _ _ _ _ _ (by omega), if_pos rfl]; rfl
theorem d3g {j : Nat} (hj : j < n) : hrow (hap (hm G β n O R) L) (β + 1 + j) = R j := by
  rw [a5X _ _ _ (by rw [a1u]; omega)]
  simp only [hrow]
  rw [a2P _ _ _ _ _ _ (by omega), if_neg (by omega), if_pos (by omega), show β + 1 + j - (β + 1) = j by omega]; rfl
theorem d2B (O' : List AV) : (hap (hm G β n O R) L).set β (some ⟨1, O'⟩) = hap (hm G β n O' R) L := by
  rw [b4H _ _ _ _ (by rw [a1u]; omega)]
  congr 1
  apply List.ext_getElem?
  intro j
  rw [List.getElem?_set]
  rcases Nat.lt_or_ge j G.length with hj | hj
  · rw [a2P _ _ _ _ _ _ hj, a2P _ _ _ _ _ _ hj, a1u]
    by_cases h : β = j
    · subst h; simp [hj]
    · rw [if_neg h, if_neg (Ne.symm h), if_neg (Ne.symm h)]
  · rw [List.getElem?_eq_none (by rw [a1u]; exact hj), List.getElem?_eq_none (by rw [a1u]; exact hj), if_neg (by omega)]
theorem d4G {j : Nat} (hj : j < n) (b : Option Blk) : (hap (hm G β n O R) L).set (β + 1 + j) b = hap (hm G β n O fun t => if t = j then b else R t) L := by
  rw [b4H _ _ _ _ (by rw [a1u]; omega)]
  congr 1
  apply List.ext_getElem?
  intro i
  rw [List.getElem?_set]
  rcases Nat.lt_or_ge i G.length with hi | hi
  · rw [a2P _ _ _ _ _ _ hi, a2P _ _ _ _ _ _ hi, a1u]
    by_cases h : β + 1 + j = i
    · subst h
      rw [if_pos rfl, if_pos (by omega), if_neg (by omega), if_pos (by omega), if_pos (by omega)]
    · rw [if_neg h]
      by_cases h1 : i = β
      · rw [if_pos h1, if_pos h1]
      · rw [if_neg h1, if_neg h1]
        by_cases h2 : β < i ∧ i ≤ β + n
        · rw [if_pos h2, if_pos h2, if_neg (by omega)]
        · rw [if_neg h2, if_neg h2]
  · rw [List.getElem?_eq_none (by rw [a1u]; exact hi), List.getElem?_eq_none (by rw [a1u]; exact hi), if_neg (by omega)]
end
/-- A matrix: inner rows of c elements of w cells; logical row i lies at π i. -/
def orow (β n c : Nat) (oc : Option Nat) (π : Nat → Nat) : List AV := fr n fun i => .mu (β + 1 + π i) 0 c oc
def hM (G : Heap) (β n w c : Nat) (oc : Option Nat) (π : Nat → Nat) (S : Nat → Nat → AV) : Heap := hm G β n (orow β n c oc π) fun j => some ⟨w, fr c (S j)⟩
def upd2 (S : Nat → Nat → AV) (j k : Nat) (v : AV) : Nat → Nat → AV := fun a b => if a = j then (if b = k then v else S a b) else S a b
def swp (π : Nat → Nat) (p r : Nat) : Nat → Nat := fun i => if i = p then π r else if i = r then π p else π i
theorem c1v (G : Heap) (β n w c : Nat) (oc : Option Nat) (π : Nat → Nat) (S : Nat → Nat → AV) : (hM G β n w c oc π S).length = G.length := a1u _ _ _ _ _
theorem a3m (G : Heap) (β n w c : Nat) (oc : Option Nat) (π : Nat → Nat) (S : Nat → Nat → AV) (i : Nat) : lid (hM G β n w c oc π S) i = lid G i := c7U _ _ _ _ _ _
theorem d0I {G : Heap} {β n w c : Nat} {oc : Option Nat} {π : Nat → Nat} {S S' : Nat → Nat → AV} (h : ∀ j k, j < n → k < c → S j k = S' j k) : hM G β n w c oc π S = hM G β n w c oc π S' :=
  c0d rfl fun j hj => by rw [a8x fun k hk => h j k hj hk]
section
variable {G L : Heap} {β n w c : Nat} {oc : Option Nat} {π : Nat → Nat} {S : Nat → Nat → AV}
theorem a1f (i : Nat) : hrow (hap (hM G β n w c oc π S) L) (lid G i) = (L[i]?).join := d0H i
theorem a1L (i : Nat) (x : Option Blk) : (hap (hM G β n w c oc π S) L).set (lid G i) x = hap (hM G β n w c oc π S) (L.set i x) := d2C i x
variable (hG : β + n < G.length)
include hG
theorem b0Q : hrow (hap (hM G β n w c oc π S) L) β = some ⟨1, orow β n c oc π⟩ := d0G hG
theorem b3Y {j : Nat} (hj : j < n) : hrow (hap (hM G β n w c oc π S) L) (β + 1 + j) = some ⟨w, fr c (S j)⟩ := d3g hG hj
/-- A row of the matrix. -/
theorem b2f {i : Nat} (hi : i < n) (oc' : Option Nat) (k : IntKind) : idxV (hap (hM G β n w c oc π S) L) 1 (.mu β 0 n oc') (.int k i) = some (.loc β i 0) := by
  rw [b6r _ _ _ _ _ _ _ _ (by omega) (by omega), b0Q hG]; simp
theorem M_at {i : Nat} (hi : i < n) : atV (hap (hM G β n w c oc π S) L) (.loc β i 0) = some [.mu (β + 1 + π i) 0 c oc] := by
  rw [b0e, b0Q hG]
  simp only [Option.bind_some, orow, c1D]
  rw [if_pos hi, d1W hi]; rfl
theorem c1X (len : Nat) (oc' : Option Nat) : lenV (hap (hM G β n w c oc π S) L) (.mu β 0 len oc') = some (.int .i64 len) := by
  rw [b6j, b0Q hG]; rfl
theorem d5F {j : Nat} (hj : j < n) (len : Nat) (oc' : Option Nat) : lenV (hap (hM G β n w c oc π S) L) (.mu (β + 1 + j) 0 len oc') = some (.int .i64 len) := by
  rw [b6j, b3Y hG hj]; rfl
/-- An entry. -/
theorem b3M {j k : Nat} (hj : j < n) (hk : k < c) (oc' : Option Nat) (ki : IntKind) : idxV (hap (hM G β n w c oc π S) L) w (.mu (β + 1 + j) 0 c oc') (.int ki k) = some (.loc (β + 1 + j) k 0) := by
  rw [b6r _ _ _ _ _ _ _ _ (by omega) (by omega), b3Y hG hj]; simp
theorem E_at {j k : Nat} (hj : j < n) (hk : k < c) : atV (hap (hM G β n w c oc π S) L) (.loc (β + 1 + j) k 0) = some (S j k).cells := by
  rw [b0e, b3Y hG hj]
  simp only [Option.bind_some, c1D]
  rw [if_pos hk, d1W hk]; rfl
theorem E_st {j k : Nat} (hj : j < n) (hk : k < c) {v : AV} (hf : v.fit = true) (hw : v.cells.length = w) (env : Env) : a1C w (.loc (β + 1 + j) k 0) v env (hap (hM G β n w c oc π S) L) = some (.top, env, hap (hM G β n w c oc π (upd2 S j k v)) L) := by
  simp only [a1C, b3Y hG hj, Option.bind_some, c1D]
  rw [if_pos ⟨hk, hf, hw, by omega⟩]
  rw [a2j, c8y]
  unfold hM
  rw [d4G hG hj]
  refine congrArg (fun x => some (AV.top, env, hap x L)) (c0d rfl fun t ht => ?_)
  split
  · rename_i e; subst e
    congr 2; exact a8x fun a _ => by simp [upd2]
  · rename_i e
    congr 2; exact a8x fun a _ => by simp [upd2, e]
/-- A row put at another place. -/
theorem M_st {i j : Nat} (hi : i < n) (env : Env) : a1C 1 (.loc β i 0) (.mu (β + 1 + j) 0 c oc) env (hap (hM G β n w c oc π S) L) = some (.top, env, hap (hM G β n w c oc (fun t => if t = i then j else π t) S) L) := by
  simp only [a1C, b0Q hG, Option.bind_some, orow, c1D]
  rw [if_pos ⟨hi, rfl, rfl, by omega⟩, a2j, c8y]
  unfold hM
  rw [d2B hG]
  refine congrArg (fun x => some (AV.top, env, hap x L)) (c0d (a8x fun t _ => ?_) fun _ _ => rfl)
  by_cases e : t = i <;> simp [e]
end
theorem Safe.dropG {x : Cx} {todo : List AItem} {env : Env} {H L : Heap} {R : AV → Heap → Prop} {o : Option Blk} (hH : a0U H) (hx : x.n0 ≤ H.length) (he : env.all (fun p => nref (lid H L.length) p.2) = true)
    (hL : ∀ b, some b ∈ L → ∀ a ∈ b.flat, nref (lid H L.length) a = true) (h : Safe x todo env (hap H L) R) : Safe x todo env (hap H (L ++ [o])) R := by
  intro φ w tmps b k cs hg hn hb hk htd hsz hok hrep
  have hlen : (hap H (L ++ [o])).length = lid H L.length + 1 := by simp [hap, lid, Nat.add_assoc]
  have lt : ∀ {a}, Ref (· < (hap H (L ++ [o])).length) a → Ref (· ≠ lid H L.length) a → Ref (· < lid H L.length) a := fun h1 h2 => (h1.both h2).mono fun i ⟨q1, q2⟩ => by rw [hlen] at q1; show i < _; omega
  have htake : (hap H (L ++ [o])).take (lid H L.length) = hap H L := by
    simp only [hap, lid, ← List.append_assoc]
    rw [show H.length + L.length = (H ++ L).length by simp, List.take_left']
    rfl
  have hcut := HOk.cut (E := ⟨φ, hap H (L ++ [o]), w⟩) hok (lid H L.length) (by
    intro j bj hj hbj a ha
    refine lt (hok.refs hbj a ha) ?_
    simp only [hap] at hbj
    rcases Nat.lt_or_ge j H.length with hlt | hge
    · rw [List.getElem?_append_left hlt] at hbj
      exact (hH j bj hbj a ha).mono fun i hi => by show i ≠ H.length + L.length; have : i < H.length := hi; omega
    · rw [List.getElem?_append_right hge] at hbj
      have hj2 : j - H.length < L.length := by simp only [lid] at hj; omega
      rw [List.getElem?_append_left hj2] at hbj
      exact a0q.1 (hL bj (List.mem_of_getElem? hbj) a ha))
  simp only [htake] at hcut
  obtain ⟨v, w', fr, r, φ', H', q1, q2, q3, q4, q5, q6⟩ := h φ w tmps b k cs hg (by simp [hap]; omega) hb hk htd hsz hcut.1 (fun t => (hrep t).mono hcut.2 (lt (hrep t).ref (c1r he t)))
  exact ⟨v, w', fr, r, φ', H', q1, q2, q3, q4, (hcut.2.sub fun i hi => by show i < H.length + L.length; have : i < x.n0 := hi; omega).trans q5, q6⟩
theorem Safe.freezeB {x : Cx} {todo : List AItem} {env : Env} {H : Heap} {R : AV → Heap → Prop} (i : Nat) {L : Heap} {b : Blk} (hH : a0U H) (hx : x.n0 ≤ H.length) (hl : L[i]? = some (some b)) (hcl : ∀ c ∈ b.flat, Cl c)
    (h : Safe x todo (frzE (lid H i) b env) (hap H ((frzL (lid H i) b L).set i none)) R) : Safe x todo env (hap H L) R := by
  refine Safe.freezeG (id := lid H i) (b := b) (Nat.le_trans hx (a3n H i)) ?_ hcl ?_
  · unfold hap lid
    rw [List.getElem?_append_right (by omega), Nat.add_sub_cancel_left]; exact hl
  · rw [c4j hH]; exact h
/-- A matrix as it comes out of a function: the outer row, the inner ones behind it. -/
def a4Q (β n w c : Nat) (oc : Option Nat) (S : Nat → Nat → AV) : Heap := some ⟨1, orow β n c oc fun i => i⟩ :: (List.range n).map fun j => some ⟨w, fr c (S j)⟩
theorem b5I (β n w c : Nat) (oc : Option Nat) (S : Nat → Nat → AV) : (a4Q β n w c oc S).length = n + 1 := by simp [a4Q]
theorem c1l {β n w c : Nat} {oc : Option Nat} {S : Nat → Nat → AV} {j : Nat} (h : j < n) : (a4Q β n w c oc S)[j + 1]? = some (some ⟨w, fr c (S j)⟩) := by simp [a4Q, h]
theorem d3j (H X : Heap) (n w c : Nat) (oc : Option Nat) (S : Nat → Nat → AV) : hM (hap H (X ++ a4Q (lid H X.length) n w c oc S)) (lid H X.length) n w c oc (fun i => i) S = hap H (X ++ a4Q (lid H X.length) n w c oc S) := by
  refine d3i ?_ fun j hj => ?_
  · simp only [hap, lid, ← List.append_assoc]
    rw [List.getElem?_append_right (by simp)]
    simp [a4Q, lid]
  · simp only [hap, lid, ← List.append_assoc]
    rw [List.getElem?_append_right (by simp; omega)]
    have : H.length + X.length + 1 + j - (H ++ X).length = j + 1 := by simp; omega
    rw [this]; exact c1l hj
theorem d0p (H X : Heap) (n w c : Nat) (oc : Option Nat) (S : Nat → Nat → AV) : lid H X.length + n < (hap H (X ++ a4Q (lid H X.length) n w c oc S)).length := by
  simp [hap, lid, b5I]; omega
theorem c1a {β n c : Nat} {oc : Option Nat} {π : Nat → Nat} {P : Nat → Prop} (h : ∀ i, i < n → P (β + 1 + π i)) : ∀ a ∈ (Blk.mk 1 (orow β n c oc π)).flat, Ref P a := by
  intro a ha
  obtain ⟨y, hy, hya⟩ := List.mem_flatMap.1 ha
  obtain ⟨i, hi, rfl⟩ := d1V hy
  simp [AV.cells] at hya
  subst hya
  exact .mu _ _ _ _ (h i hi)
theorem b9m {w c : Nat} {f : Nat → AV} (h : ∀ k, k < c → Cl (f k)) : ∀ a ∈ (Blk.mk w (fr c f)).flat, Cl a := by
  intro a ha
  obtain ⟨y, hy, hya⟩ := List.mem_flatMap.1 ha
  obtain ⟨k, hk, rfl⟩ := d1V hy
  exact d1h (h k hk) a hya
theorem c5W {H X : Heap} (hH : a0U H) (hX : ∀ b, some b ∈ X → ∀ a ∈ b.flat, Cl a) {n w c : Nat} {oc : Option Nat} {S : Nat → Nat → AV} (hS : ∀ j k, j < n → k < c → Cl (S j k)) : a0U (hap H (X ++ a4Q (lid H X.length) n w c oc S)) := by
  have hlen : (hap H (X ++ a4Q (lid H X.length) n w c oc S)).length = lid H X.length + 1 + n := by simp [hap, lid, b5I]; omega
  intro id b hb a ha
  rw [hlen]
  simp only [hap] at hb
  rcases Nat.lt_or_ge id H.length with h1 | h1
  · rw [List.getElem?_append_left h1] at hb
    exact (hH id b hb a ha).mono fun i hi => by have : i < H.length := hi; show i < _; unfold lid; omega
  · rw [List.getElem?_append_right h1] at hb
    rcases Nat.lt_or_ge (id - H.length) X.length with h2 | h2
    · rw [List.getElem?_append_left h2] at hb
      exact (hX b (List.mem_of_getElem? hb) a ha).ref
    · rw [List.getElem?_append_right h2] at hb
      generalize id - H.length - X.length = j at hb
      cases j with
      | zero =>
        simp [a4Q] at hb; subst hb
        exact c1a (fun i hi => by show _ < _; omega) a ha
      | succ j =>
        have hj := a0c hb
        rw [b5I] at hj
        rw [c1l (by omega)] at hb
        cases hb
        exact (b9m (fun k hk => hS j k (by omega) hk) a ha).ref
theorem c8n {G : Heap} {β n w c : Nat} {oc : Option Nat} {π π' : Nat → Nat} {S S' : Nat → Nat → AV} (hG : β + n < G.length) (h : a0U (hM G β n w c oc π S)) (hπ : ∀ i, i < n → π' i < n) (hS : ∀ j k, j < n → k < c → Cl (S' j k)) : a0U (hM G β n w c oc π' S') := by
  intro id b hb a ha
  rw [c1v]
  have hid := a0k hb
  rw [c1v] at hid
  unfold hM at hb
  rw [a2P _ _ _ _ _ _ hid] at hb
  split at hb
  · cases hb
    exact c1a (fun i hi => by show _ < _; have := hπ i hi; omega) a ha
  · split at hb
    · cases hb
      exact (b9m (fun k hk => hS _ k (by omega) hk) a ha).ref
    · rename_i h1 h2
      have := h id b (by unfold hM; rw [a2P _ _ _ _ _ _ hid, if_neg h1, if_neg h2]; exact hb) a ha
      rwa [c1v] at this
theorem d5d (G L : Heap) (β n : Nat) (O : List AV) (R : Nat → Option Blk) (hG : β + n < G.length) : hap (hm G β n O R) L = hm (hap G L) β n O R := by
  apply List.ext_getElem?
  intro j
  have hl : (hap G L).length = G.length + L.length := by simp [hap]
  rcases Nat.lt_or_ge j (G.length + L.length) with hj | hj
  · rw [a2P _ _ _ _ _ _ (by omega)]
    unfold hap
    rcases Nat.lt_or_ge j G.length with h1 | h1
    · rw [List.getElem?_append_left (by rw [a1u]; exact h1), a2P _ _ _ _ _ _ h1, List.getElem?_append_left h1]
    · rw [List.getElem?_append_right (by rw [a1u]; exact h1), List.getElem?_append_right h1, if_neg (by omega), if_neg (by omega), a1u]
  · rw [List.getElem?_eq_none (by simp [hap, a1u]; omega), List.getElem?_eq_none (by rw [a1u]; omega)]
theorem d5e (G L : Heap) (β n w c : Nat) (oc : Option Nat) (π : Nat → Nat) (S : Nat → Nat → AV) (hG : β + n < G.length) : hap (hM G β n w c oc π S) L = hM (hap G L) β n w c oc π S := d5d G L β n _ _ hG
theorem a1X {G L : Heap} {β n w c : Nat} {oc : Option Nat} {π : Nat → Nat} {S : Nat → Nat → AV} (m i off : Nat) (v : AV) (env : Env) : a1C m (.loc (lid G i) 0 off) v env (hap (hM G β n w c oc π S) L) = (L[i]?).join.bind fun b =>
    if 0 < b.xs.length ∧ v.fit = true ∧ v.cells.length = m ∧ off + m ≤ b.wd then some (.top, env, hap (hM G β n w c oc π S) (L.set i (some ⟨b.wd, b.xs.set 0 (upd (b.xs.getD 0 .top) b.wd off m v)⟩))) else none := by
  simp only [a1C, a1f, a1L]
theorem Safe.dropM {G : Heap} {β n w c : Nat} {oc : Option Nat} {π : Nat → Nat} {S : Nat → Nat → AV} {x : Cx} {todo : List AItem} {env : Env} {R : AV → Heap → Prop} (L : Heap) {o : Option Blk} (hH : a0U (hM G β n w c oc π S)) (hx : x.n0 ≤ G.length)
    (he : env.all (fun p => nref (lid G L.length) p.2) = true) (hL : ∀ b, some b ∈ L → ∀ a ∈ b.flat, Cl a) (h : Safe x todo env (hap (hM G β n w c oc π S) L) R) : Safe x todo env (hap (hM G β n w c oc π S) (L ++ [o])) R :=
  Safe.dropG hH (by rw [c1v]; exact hx) (by rw [a3m]; exact he) (fun b hb a ha => a1y (hL b hb a ha)) h
theorem Safe.freezeM {G : Heap} {β n w c : Nat} {oc : Option Nat} {π : Nat → Nat} {S : Nat → Nat → AV} {x : Cx} {todo : List AItem} {env : Env} {R : AV → Heap → Prop} (i : Nat) {L : Heap} {b : Blk} (hH : a0U (hM G β n w c oc π S)) (hx : x.n0 ≤ G.length) (hl : L[i]? = some (some b)) (hcl : ∀ c ∈ b.flat, Cl c)
    (h : Safe x todo (frzE (lid G i) b env) (hap (hM G β n w c oc π S) ((frzL (lid G i) b L).set i none)) R) : Safe x todo env (hap (hM G β n w c oc π S) L) R :=
  Safe.freezeB i hH (by rw [c1v]; exact hx) hl hcl (by rw [a3m]; exact h)
theorem a8v (H L M : Heap) : hap (hap H L) M = hap H (L ++ M) := by simp [hap]
theorem c4g {G L : Heap} {β n id : Nat} {O : List AV} {R : Nat → Option Blk} (hG : β + n < G.length) (hid : id < β) : hrow (hap (hm G β n O R) L) id = hrow G id := by
  rw [a5X _ _ _ (by rw [a1u]; omega)]
  simp only [hrow]
  rw [a2P _ _ _ _ _ _ (by omega), if_neg (by omega), if_neg (by omega)]
theorem c7h {G L : Heap} {β n id : Nat} {O : List AV} {R : Nat → Option Blk} (hG : β + n < G.length) (hid : id < β) (b : Option Blk) : (hap (hm G β n O R) L).set id b = hap (hm (G.set id b) β n O R) L := by
  rw [b4H _ _ _ _ (by rw [a1u]; omega)]
  congr 1
  apply List.ext_getElem?
  intro j
  rcases Nat.lt_or_ge j G.length with hj | hj
  · rw [List.getElem?_set, a2P _ _ _ _ _ _ hj, a2P _ _ _ _ _ _ (by rw [List.length_set]; exact hj), a1u, List.getElem?_set]
    by_cases h : id = j
    · subst h
      rw [if_pos rfl, if_pos (by omega), if_neg (by omega), if_neg (by omega), if_pos rfl]
    · rw [if_neg h, if_neg h]
  · rw [List.getElem?_eq_none (by rw [List.length_set, a1u]; exact hj), List.getElem?_eq_none (by rw [a1u, List.length_set]; exact hj)]
theorem d4z {G L : Heap} {β n w c id m : Nat} {oc : Option Nat} {π : Nat → Nat} {S : Nat → Nat → AV} (hG : β + n < G.length) (hid : id < β) {x v : AV} (h : G[id]? = some (some ⟨m, [x]⟩)) (hf : v.fit = true) (hv : v.cells.length = m) (env : Env) :
    a1C m (.loc id 0 0) v env (hap (hM G β n w c oc π S) L) = some (.top, env, hap (hM (G.set id (some ⟨m, [v]⟩)) β n w c oc π S) L) := by
  have hr : hrow (hap (hM G β n w c oc π S) L) id = some ⟨m, [x]⟩ := by unfold hM; rw [c4g hG hid]; simp [hrow, h]
  simp only [a1C, hr, Option.bind_some]
  rw [if_pos ⟨by simp, hf, hv, by omega⟩, a2j, List.set_cons_zero]
  unfold hM
  rw [c7h hG hid]
theorem d5A {G L : Heap} {β n w c id m : Nat} {oc : Option Nat} {π : Nat → Nat} {S : Nat → Nat → AV} (hG : β + n < G.length) (hid : id < β) {x : AV} (h : G[id]? = some (some ⟨m, [x]⟩)) : atV (hap (hM G β n w c oc π S) L) (.loc id 0 0) = some x.cells := by
  have hr : hrow (hap (hM G β n w c oc π S) L) id = some ⟨m, [x]⟩ := by unfold hM; rw [c4g hG hid]; simp [hrow, h]
  rw [b0e, hr]; rfl
theorem d1S {H L : Heap} {β n w c : Nat} {oc : Option Nat} {π : Nat → Nat} {S : Nat → Nat → AV} (hβ : H.length ≤ β) (hG : β + n < (hap H L).length) : ∃ L', hM (hap H L) β n w c oc π S = hap H L' := by
  refine ⟨(hM (hap H L) β n w c oc π S).drop H.length, ?_⟩
  have ht : (hM (hap H L) β n w c oc π S).take H.length = H := by
    apply List.ext_getElem?
    intro j
    rw [List.getElem?_take]
    split
    · rename_i hj
      unfold hM
      have hl : (hap H L).length = H.length + L.length := by simp [hap]
      rw [a2P _ _ _ _ _ _ (by omega), if_neg (by omega), if_neg (by omega)]
      simp only [hap]
      rw [List.getElem?_append_left hj]
    · rename_i hj
      rw [List.getElem?_eq_none (by omega)]
  exact (List.take_append_drop H.length _).symm.trans (by rw [ht]; rfl)
end Go.Abs
set_option linter.unusedVariables false
set_option linter.unusedSimpArgs false
namespace Go.Abs
theorem HOk.hrefs {φ : Nat → Option Nat} {H : Heap} {w : World} (h : HOk ⟨φ, H, w⟩) : a0U H := fun id b hb a ha => h.refs (E := ⟨φ, H, w⟩) hb a ha
/-- A row of what is handed out is no longer written. -/
theorem a0n.frz {P : Program} {f : FuncId} {args : List AV} {H : Heap} {R R2 : AV → Heap → Prop} (h : a0n P f args H R)
    (hR : a0U H → ∀ r H', R r H' → ∃ id b, H'[id]? = some (some b) ∧ (∀ c ∈ b.flat, Cl c) ∧ R2 (Abs.frz id b r) (frzH id b H')) : a0n P f args H R2 := by
  refine ⟨h.1, fun φ w vs hok hl hrep => (h.2 φ w vs hok hl hrep).mono ?_⟩
  rintro e w' ⟨v, r, φ', H', rfl, hr, q1, q2, q3, q4⟩
  obtain ⟨id, b, h1, h2, h3⟩ := hR hok.hrefs r H' hr
  exact ⟨v, _, φ', _, rfl, h3, d1U q1 h1 h2, c3i q1 h1 h2 q2, by simpa [frzH] using q3, q4.trans ((c3l (E := ⟨φ', H', w'⟩)).sub fun _ _ => trivial)⟩
end Go.Abs

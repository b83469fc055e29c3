/- A function's body: what is left to do, and what it comes to. -/
import Derived.Test.YtmbjamifiadncaaDoorA8
set_option linter.unusedVariables false
set_option linter.unusedSimpArgs false
namespace Go.Abs

inductive AItem where
  | code (c : ACode)
  | inBlock (id : Nat)
  | inLoop (c : ACode)
  | inScope (c : ACode)

inductive ResV where
  | tmp (t : Nat)
  | cell (t : Nat) (n : Option Nat)

/-- A function in its program. -/
structure Cx where
  P : Program
  mu : Nat → Nat → Bool
  f : FuncId
  nt : Nat
  rs : List ResV
  n0 : Nat

def ItemRel (x : Cx) : AItem → Item → Prop
  | .code ac, .code c => ccode x.P x.mu x.nt c = some ac
  | .inBlock i, .inBlock j => i = j
  | .inLoop ac, .inLoop c => ccode x.P x.mu x.nt c = some ac
  | .inScope ac, .inScope c => ccode x.P x.mu x.nt c = some ac
  | _, _ => False

def TodoRel (x : Cx) : List AItem → List Item → Prop
  | [], [] => True
  | a :: as, b :: bs => ItemRel x a b ∧ TodoRel x as bs
  | _, _ => False

def cres (P : Program) : List ResultVar → Option (List ResV)
  | [] => some []
  | .tmp t :: r => (cres P r).map (.tmp t :: ·)
  | .cell a t :: r => match P.underlying t with
    | some d => if isAggD d then (match sizeD P t with
        | some n => (cres P r).map (.cell a (some n) :: ·)
        | none => none) else (cres P r).map (.cell a none :: ·)
    | none => none

def resL (env : Env) (H : Heap) : List ResV → Option (List AV)
  | [] => some []
  | .tmp t :: r => (resL env H r).map (look env t :: ·)
  | .cell t n :: r => (loadV H n (look env t)).bind fun a => (resL env H r).map (a :: ·)

def oneOf : List AV → AV
  | [a] => a
  | as => .tup as

def Cx.Good (x : Cx) : Prop := ∃ fn, x.P.funcs[x.f]? = some fn ∧ cres x.P fn.results.toList = some x.rs

def Safe (x : Cx) (todo : List AItem) (env : Env) (H : Heap) (R : AV → Heap → Prop) : Prop :=
  ∀ (φ : Nat → Option Nat) (w : World) (tmps : Array Value) (b : Frame) (k : List Item) (cs : List Frame), x.Good → x.n0 ≤ H.length → b.fn = x.f → b.kind = .normal → TodoRel x todo k → tmps.size = x.nt →
    HOk ⟨φ, H, w⟩ → RepEnv ⟨φ, H, w⟩ env tmps →
    ∃ v w' fr r φ' H', R r H' ∧ HOk ⟨φ', H', w'⟩ ∧ Rep ⟨φ', H', w'⟩ v r ∧ x.n0 ≤ H'.length ∧ Ext (· < x.n0) ⟨φ, H, w⟩ ⟨φ', H', w'⟩ ∧
      Steps x.P (lone (b.at ⟨tmps, []⟩ k) cs w) (lone fr cs w') ∧ fr.fn = x.f ∧ fr.leaving x.P w' (.returned v)

section
variable {x : Cx} {todo : List AItem} {env : Env} {H : Heap} {R : AV → Heap → Prop}

theorem todo_cons {a : AItem} {k : List Item} (h : TodoRel x (a :: todo) k) : ∃ b k', k = b :: k' ∧ ItemRel x a b ∧ TodoRel x todo k' := by
  cases k with
  | nil => simp [TodoRel] at h
  | cons b k' => exact ⟨b, k', rfl, h.1, h.2⟩

/-- One step of the machine that leaves variables and memory alone. -/
theorem Safe.one {todo' : List AItem} (hs : ∀ k, TodoRel x todo k → ∃ k', TodoRel x todo' k' ∧ ∀ (b : Frame) (tmps : Array Value) (cs : List Frame) (w : World), step x.P (lone (b.at ⟨tmps, []⟩ k) cs w) = .next (lone (b.at ⟨tmps, []⟩ k') cs w))
    (h : Safe x todo' env H R) : Safe x todo env H R := by
  intro φ w tmps b k cs hg hn hb hk ht hsz hok he
  obtain ⟨k', ht', hst⟩ := hs k ht
  obtain ⟨v, w', fr, r, φ', H', q1, q2, q3, q4, q5, q6, q7⟩ := h φ w tmps b k' cs hg hn hb hk ht' hsz hok he
  exact ⟨v, w', fr, r, φ', H', q1, q2, q3, q4, q5, .head (hst b tmps cs w) q6, q7⟩

section inv
variable {P : Program} {mu : Nat → Nat → Bool} {nt : Nat} {c : Code}
theorem cregB_none {ops : Array Oper} {l : List AIns} {b : List (Nat × Nat × AIns × AIns)} {a : ACode} (h : cregB P ops l b = some a) : ∃ k sd, xchk P ops l k sd = true ∧ a = .regionX (l.take k) (l.drop k) (twist (l.drop k)) sd := by
  unfold cregB cregX at h
  split at h
  · rename_i hk; cases h; exact ⟨_, _, hk, rfl⟩
  · cases h
theorem inv_reg {id : Nat} {ops : Array Oper} {draw : Bool} {a : ACode} (h : ccode P mu nt (.region id ops draw) = some a) : a = .bad ∨ ∃ l, clist P mu nt id ops 0 ops.toList = some l ∧
    ((a = .region l draw ∧ (draw = true → dchk P ops l = true)) ∨ (draw = true ∧ ∃ k sd, xchk P ops l k sd = true ∧ a = .regionX (l.take k) (l.drop k) (twist (l.drop k)) sd)) := by
  simp only [ccode] at h
  split at h
  · rename_i l' h1
    split at h
    · rename_i hd
      subst hd
      split at h
      · rename_i hk
        cases h
        exact .inr ⟨l', h1, .inl ⟨rfl, fun _ => hk⟩⟩
      · cases hB : cregB P ops l' (badAll (tcTab ops.toList []) 0 [] l') with
        | none =>
          rw [hB] at h
          cases h
          exact .inl rfl
        | some a' =>
          rw [hB] at h
          cases h
          obtain ⟨k, sd, h2, h3⟩ := cregB_none hB
          exact .inr ⟨l', h1, .inr ⟨rfl, k, sd, h2, h3⟩⟩
    · rename_i hd
      cases h
      cases draw
      · exact .inr ⟨l', h1, .inl ⟨rfl, by simp⟩⟩
      · simp at hd
  · cases h; exact .inl rfl
theorem reg_is {id : Nat} {ops : Array Oper} {draw : Bool} {a : ACode} (h : ccode P mu nt (.region id ops draw) = some a) (hr : ∀ l d, a ≠ .region l d) (hx : ∀ p s1 s2 sd, a ≠ .regionX p s1 s2 sd) (hb : a ≠ .bad) : False := by
  rcases inv_reg h with h1 | ⟨l, _, ⟨h1, _⟩ | ⟨_, k, sd, _, h1⟩⟩
  · exact hb h1
  · exact hr _ _ h1
  · exact hx _ _ _ _ h1
theorem inv_skip (h : ccode P mu nt c = some .skip) : c = .skip := by
  cases c
  case region => exact (reg_is h (by simp) (by simp) (by simp)).elim
  case skip => rfl
  all_goals simp only [ccode] at h <;> first | (exfalso; revert h; (repeat' split) <;> simp; done) | (exfalso; simp at h; done)
theorem inv_label {l : Nat} (h : ccode P mu nt c = some (.label l)) : c = .label l := by
  cases c
  case region => exact (reg_is h (by simp) (by simp) (by simp)).elim
  all_goals simp only [ccode] at h <;> first | (cases h; rfl) | (exfalso; revert h; (repeat' split) <;> simp; done) | (exfalso; simp at h; done)
theorem inv_goto {l : Nat} (h : ccode P mu nt c = some (.goto l)) : c = .goto l := by
  cases c
  case region => exact (reg_is h (by simp) (by simp) (by simp)).elim
  all_goals simp only [ccode] at h <;> first | (cases h; rfl) | (exfalso; revert h; (repeat' split) <;> simp; done) | (exfalso; simp at h; done)
theorem inv_ret (h : ccode P mu nt c = some .ret) : c = .ret := by
  cases c
  case region => exact (reg_is h (by simp) (by simp) (by simp)).elim
  all_goals simp only [ccode] at h <;> first | rfl | (exfalso; revert h; (repeat' split) <;> simp; done) | (exfalso; simp at h; done)
theorem inv_exit {id : Nat} (h : ccode P mu nt c = some (.exit id)) : c = .exit id := by
  cases c
  case region => exact (reg_is h (by simp) (by simp) (by simp)).elim
  all_goals simp only [ccode] at h <;> first | (cases h; rfl) | (exfalso; revert h; (repeat' split) <;> simp; done) | (exfalso; simp at h; done)
theorem inv_seq {a b : ACode} (h : ccode P mu nt c = some (.seq a b)) : ∃ a' b', c = .seq a' b' ∧ ccode P mu nt a' = some a ∧ ccode P mu nt b' = some b := by
  cases c
  case region => exact (reg_is h (by simp) (by simp) (by simp)).elim
  case seq a' b' =>
    simp only [ccode] at h
    split at h
    · rename_i h1 h2; cases h; exact ⟨_, _, rfl, h1, h2⟩
    · simp at h
  all_goals simp only [ccode] at h <;> first | (exfalso; revert h; (repeat' split) <;> simp; done) | (exfalso; simp at h; done)
theorem inv_cond {s : Src} {a b : ACode} (h : ccode P mu nt c = some (.cond s a b)) : ∃ o a' b', c = .cond o a' b' ∧ srcOf o = some s ∧ ccode P mu nt a' = some a ∧ ccode P mu nt b' = some b := by
  cases c
  case region => exact (reg_is h (by simp) (by simp) (by simp)).elim
  case cond o a' b' =>
    simp only [ccode] at h
    split at h
    · rename_i h0 h1 h2; cases h; exact ⟨_, _, _, rfl, h0, h1, h2⟩
    · simp at h
  all_goals simp only [ccode] at h <;> first | (exfalso; revert h; (repeat' split) <;> simp; done) | (exfalso; simp at h; done)
theorem inv_block {id : Nat} {a : ACode} (h : ccode P mu nt c = some (.block id a)) : ∃ a', c = .block id a' ∧ ccode P mu nt a' = some a := by
  cases c
  case region => exact (reg_is h (by simp) (by simp) (by simp)).elim
  case block i a' =>
    simp only [ccode, Option.map_eq_some_iff] at h
    obtain ⟨a1, h1, h2⟩ := h
    cases h2; exact ⟨_, rfl, h1⟩
  all_goals simp only [ccode] at h <;> first | (exfalso; revert h; (repeat' split) <;> simp; done) | (exfalso; simp at h; done)
theorem inv_loop {a : ACode} (h : ccode P mu nt c = some (.loop a)) : ∃ a', c = .loop a' ∧ ccode P mu nt a' = some a := by
  cases c
  case region => exact (reg_is h (by simp) (by simp) (by simp)).elim
  case loop a' =>
    simp only [ccode, Option.map_eq_some_iff] at h
    obtain ⟨a1, h1, h2⟩ := h
    cases h2; exact ⟨_, rfl, h1⟩
  all_goals simp only [ccode] at h <;> first | (exfalso; revert h; (repeat' split) <;> simp; done) | (exfalso; simp at h; done)
theorem inv_scope {a : ACode} (h : ccode P mu nt c = some (.scope a)) : ∃ a', c = .scope a' ∧ ccode P mu nt a' = some a := by
  cases c
  case region => exact (reg_is h (by simp) (by simp) (by simp)).elim
  case scope a' =>
    simp only [ccode, Option.map_eq_some_iff] at h
    obtain ⟨a1, h1, h2⟩ := h
    cases h2; exact ⟨_, rfl, h1⟩
  all_goals simp only [ccode] at h <;> first | (exfalso; revert h; (repeat' split) <;> simp; done) | (exfalso; simp at h; done)
theorem inv_region {l : List AIns} {d : Bool} (h : ccode P mu nt c = some (.region l d)) : ∃ id ops, c = .region id ops d ∧ clist P mu nt id ops 0 ops.toList = some l ∧ (d = true → dchk P ops l = true) := by
  cases c
  case region id ops draw =>
    rcases inv_reg h with h1 | ⟨l', h0, ⟨h1, h2⟩ | ⟨_, k, sd, _, h1⟩⟩
    · cases h1
    · cases h1; exact ⟨_, _, rfl, h0, h2⟩
    · cases h1
  all_goals simp only [ccode] at h <;> first | (exfalso; revert h; (repeat' split) <;> simp; done) | (exfalso; simp at h; done)
theorem inv_regionX {p s1 s2 : List AIns} {sd : List (Nat × Nat)} (h : ccode P mu nt c = some (.regionX p s1 s2 sd)) : ∃ id ops l k, c = .region id ops true ∧ clist P mu nt id ops 0 ops.toList = some l ∧ xchk P ops l k sd = true ∧ p = l.take k ∧ s1 = l.drop k ∧ s2 = twist (l.drop k) := by
  cases c
  case region id ops draw =>
    rcases inv_reg h with h1 | ⟨l', h0, ⟨h1, h2⟩ | ⟨rfl, k, sd', h2, h1⟩⟩
    · cases h1
    · cases h1
    · cases h1; exact ⟨_, _, _, _, rfl, h0, h2, rfl, rfl, rfl⟩
  all_goals simp only [ccode] at h <;> first | (exfalso; revert h; (repeat' split) <;> simp; done) | (exfalso; simp at h; done)
end inv

theorem code_item {c : ACode} {b : Item} (h : ItemRel x (.code c) b) : ∃ c', b = .code c' ∧ ccode x.P x.mu x.nt c' = some c := by
  cases b <;> first | exact ⟨_, rfl, h⟩ | (simp [ItemRel] at h; done)
theorem loop_item {c : ACode} {b : Item} (h : ItemRel x (.inLoop c) b) : ∃ c', b = .inLoop c' ∧ ccode x.P x.mu x.nt c' = some c := by
  cases b <;> first | exact ⟨_, rfl, h⟩ | (simp [ItemRel] at h; done)
theorem block_item {i : Nat} {b : Item} (h : ItemRel x (.inBlock i) b) : b = .inBlock i := by
  cases b <;> first | (simp only [ItemRel] at h; subst h; rfl) | (simp [ItemRel] at h; done)

theorem Safe.skip (h : Safe x todo env H R) : Safe x (.code .skip :: todo) env H R := by
  refine Safe.one (fun k hk => ?_) h
  obtain ⟨b, k', rfl, h1, h2⟩ := todo_cons hk
  obtain ⟨c, rfl, h1⟩ := code_item h1
  obtain rfl := inv_skip h1
  exact ⟨k', h2, fun _ _ _ _ => step_skip⟩
theorem Safe.label {l : Nat} (h : Safe x todo env H R) : Safe x (.code (.label l) :: todo) env H R := by
  refine Safe.one (fun k hk => ?_) h
  obtain ⟨b, k', rfl, h1, h2⟩ := todo_cons hk
  obtain ⟨c, rfl, h1⟩ := code_item h1
  obtain rfl := inv_label h1
  exact ⟨k', h2, fun _ _ _ _ => step_label⟩

theorem step_scope {P : Program} {b : Frame} {a : Act} {cs : List Frame} {w : World} {c : Code} {k : List Item} : step P (lone (b.at a (.code (.scope c) :: k)) cs w) = .next (lone (b.at a (.code c :: .inScope c :: k)) cs w) :=
  step_lone_go (by simp [stepG, stepG.exec, Frame.at])
theorem step_inScope {P : Program} {b : Frame} {a : Act} {cs : List Frame} {w : World} {c : Code} {k : List Item} : step P (lone (b.at a (.inScope c :: k)) cs w) = .next (lone (b.at a k) cs w) :=
  step_lone_go (by simp [stepG, stepG.exec, Frame.at])
theorem scope_item {c : ACode} {b : Item} (h : ItemRel x (.inScope c) b) : ∃ c', b = .inScope c' ∧ ccode x.P x.mu x.nt c' = some c := by
  cases b <;> first | exact ⟨_, rfl, h⟩ | (simp [ItemRel] at h; done)
theorem Safe.scope {a : ACode} (h : Safe x (.code a :: .inScope a :: todo) env H R) : Safe x (.code (.scope a) :: todo) env H R := by
  refine Safe.one (fun k hk => ?_) h
  obtain ⟨i, k', rfl, h1, h2⟩ := todo_cons hk
  obtain ⟨c, rfl, h1⟩ := code_item h1
  obtain ⟨a', rfl, g1⟩ := inv_scope h1
  exact ⟨.code a' :: .inScope a' :: k', ⟨g1, g1, h2⟩, fun _ _ _ _ => step_scope⟩
theorem Safe.inScope {a : ACode} (h : Safe x todo env H R) : Safe x (.inScope a :: todo) env H R := by
  refine Safe.one (fun k hk => ?_) h
  obtain ⟨i, k', rfl, h1, h2⟩ := todo_cons hk
  obtain ⟨a', rfl, h1⟩ := scope_item h1
  exact ⟨k', h2, fun _ _ _ _ => step_inScope⟩

theorem Safe.seq {a b : ACode} (h : Safe x (.code a :: .code b :: todo) env H R) : Safe x (.code (.seq a b) :: todo) env H R := by
  refine Safe.one (fun k hk => ?_) h
  obtain ⟨i, k', rfl, h1, h2⟩ := todo_cons hk
  obtain ⟨c, rfl, h1⟩ := code_item h1
  obtain ⟨a', b', rfl, g1, g2⟩ := inv_seq h1
  exact ⟨.code a' :: .code b' :: k', ⟨g1, g2, h2⟩, fun _ _ _ _ => step_seq⟩

theorem Safe.block {id : Nat} {a : ACode} (h : Safe x (.code a :: .inBlock id :: todo) env H R) : Safe x (.code (.block id a) :: todo) env H R := by
  refine Safe.one (fun k hk => ?_) h
  obtain ⟨i, k', rfl, h1, h2⟩ := todo_cons hk
  obtain ⟨c, rfl, h1⟩ := code_item h1
  obtain ⟨a', rfl, g1⟩ := inv_block h1
  exact ⟨.code a' :: .inBlock id :: k', ⟨g1, rfl, h2⟩, fun _ _ _ _ => step_block⟩

theorem Safe.inBlock {id : Nat} (h : Safe x todo env H R) : Safe x (.inBlock id :: todo) env H R := by
  refine Safe.one (fun k hk => ?_) h
  obtain ⟨i, k', rfl, h1, h2⟩ := todo_cons hk
  obtain rfl := block_item h1
  exact ⟨k', h2, fun _ _ _ _ => step_inBlock⟩

theorem Safe.loop {a : ACode} (h : Safe x (.inLoop a :: todo) env H R) : Safe x (.code (.loop a) :: todo) env H R := by
  intro φ w tmps b k cs hg hn hb hk ht hsz hok he
  obtain ⟨i, k', rfl, h1, h2⟩ := todo_cons ht
  obtain ⟨c, rfl, h1⟩ := code_item h1
  obtain ⟨a', rfl, g1⟩ := inv_loop h1
  obtain ⟨v, w', fr, r, φ', H', q1, q2, q3, q4, q5, q6, q7⟩ := h φ w tmps b (.inLoop a' :: k') cs hg hn hb hk ⟨g1, h2⟩ hsz hok he
  refine ⟨v, w', fr, r, φ', H', q1, q2, q3, q4, q5, ?_, q7⟩
  -- both begin with the same state behind one step
  obtain ⟨n, hn'⟩ := q6
  cases n with
  | zero =>
    simp only [runN] at hn'
    cases hn'
    exfalso
    obtain ⟨_, hl⟩ := q7
    simp [Frame.leaving, Frame.at] at hl
  | succ n =>
    simp only [runN, step_inLoop] at hn'
    exact .head step_loop ⟨n, hn'⟩

theorem Safe.inLoop {a : ACode} (h : Safe x (.code a :: .inLoop a :: todo) env H R) : Safe x (.inLoop a :: todo) env H R := by
  refine Safe.one (fun k hk => ?_) h
  obtain ⟨i, k', rfl, h1, h2⟩ := todo_cons hk
  obtain ⟨a', rfl, h1⟩ := loop_item h1
  exact ⟨.code a' :: .inLoop a' :: k', ⟨h1, h1, h2⟩, fun _ _ _ _ => step_inLoop⟩

theorem Safe.cond {s : Src} {a b : ACode} (h : gcond (s.ev env) fun c => if c then Safe x (.code a :: todo) env H R else Safe x (.code b :: todo) env H R) : Safe x (.code (.cond s a b) :: todo) env H R := by
  intro φ w tmps bf k cs hg hn hb hk ht hsz hok he
  obtain ⟨i, k', rfl, h1, h2⟩ := todo_cons ht
  obtain ⟨c, rfl, h1⟩ := code_item h1
  obtain ⟨o, a', b', rfl, g0, g1, g2⟩ := inv_cond h1
  simp only [gcond] at h
  split at h
  · rename_i c hc
    have hr := rep_src he g0
    rw [hc] at hr
    have hv := rep_bool_inv hr
    cases c
    · simp only [Bool.false_eq_true, if_false] at h
      obtain ⟨v, w', fr, r, φ', H', q1, q2, q3, q4, q5, q6, q7⟩ := h φ w tmps bf (.code b' :: k') cs hg hn hb hk ⟨g2, h2⟩ hsz hok he
      exact ⟨v, w', fr, r, φ', H', q1, q2, q3, q4, q5, .head (step_cond hv) (by simpa using q6), q7⟩
    · simp only [if_true] at h
      obtain ⟨v, w', fr, r, φ', H', q1, q2, q3, q4, q5, q6, q7⟩ := h φ w tmps bf (.code a' :: k') cs hg hn hb hk ⟨g1, h2⟩ hsz hok he
      exact ⟨v, w', fr, r, φ', H', q1, q2, q3, q4, q5, .head (step_cond hv) (by simpa using q6), q7⟩
  · exact h.elim

/-- Where an exit goes. -/
def aexit (id : Nat) : List AItem → Option (List AItem)
  | .inBlock i :: k => if i = id then some k else aexit id k
  | _ :: k => aexit id k
  | [] => none

theorem aexit_rel {id : Nat} : ∀ {todo : List AItem} {k : List Item} {todo' : List AItem}, TodoRel x todo k → aexit id todo = some todo' → ∃ k', exitTo id k = some k' ∧ TodoRel x todo' k'
  | [], _, _, _, h => by simp [aexit] at h
  | a :: todo, k, todo', hr, h => by
    obtain ⟨b, k', rfl, h1, h2⟩ := todo_cons hr
    cases a with
    | code c =>
      obtain ⟨c', rfl, _⟩ := code_item h1
      obtain ⟨k2, g1, g2⟩ := aexit_rel h2 (by simpa [aexit] using h)
      exact ⟨k2, by simpa [exitTo] using g1, g2⟩
    | inLoop c =>
      obtain ⟨c', rfl, _⟩ := loop_item h1
      obtain ⟨k2, g1, g2⟩ := aexit_rel h2 (by simpa [aexit] using h)
      exact ⟨k2, by simpa [exitTo] using g1, g2⟩
    | inScope c =>
      obtain ⟨c', rfl, _⟩ := scope_item h1
      obtain ⟨k2, g1, g2⟩ := aexit_rel h2 (by simpa [aexit] using h)
      exact ⟨k2, by simpa [exitTo] using g1, g2⟩
    | inBlock i =>
      obtain rfl := block_item h1
      simp only [aexit] at h
      split at h
      · rename_i hi
        cases h
        exact ⟨k', by simp [exitTo, hi], h2⟩
      · rename_i hi
        obtain ⟨k2, g1, g2⟩ := aexit_rel h2 h
        exact ⟨k2, by simp [exitTo, hi]; exact g1, g2⟩

theorem Safe.exit {id : Nat} {todo' : List AItem} (he : aexit id todo = some todo') (h : Safe x todo' env H R) : Safe x (.code (.exit id) :: todo) env H R := by
  refine Safe.one (fun k hk => ?_) h
  obtain ⟨i, k', rfl, h1, h2⟩ := todo_cons hk
  obtain ⟨c, rfl, h1⟩ := code_item h1
  obtain rfl := inv_exit h1
  obtain ⟨k2, g1, g2⟩ := aexit_rel h2 he
  exact ⟨k2, g2, fun _ _ _ _ => step_exit g1⟩

/-! A jump to a label. -/
def afind : ACode → Nat → Option ACode
  | .seq a b, l => match afind a l with
    | some r => some (.seq r b)
    | none => afind b l
  | .label m, l => if m == l then some .skip else none
  | _, _ => none
def agoto (l : Nat) : List AItem → Option (List AItem)
  | .inScope a :: k => match afind a l with
    | some r => some (.code r :: .inScope a :: k)
    | none => agoto l k
  | _ :: k => agoto l k
  | [] => none
theorem afind_rel {P : Program} {mu : Nat → Nat → Bool} {nt : Nat} (l : Nat) : ∀ {c : Code} {a : ACode}, ccode P mu nt c = some a →
    (∃ r r', findLabel c l = some r ∧ afind a l = some r' ∧ ccode P mu nt r = some r') ∨ (findLabel c l = none ∧ afind a l = none) := by
  intro c
  induction c with
  | seq c d ih1 ih2 =>
    intro a h
    simp only [ccode] at h
    split at h
    · rename_i a1 b1 h1 h2
      cases h
      rcases ih1 h1 with ⟨r, r', f1, f2, f3⟩ | ⟨f1, f2⟩
      · exact .inl ⟨.seq r d, .seq r' b1, by simp only [findLabel, f1], by simp only [afind, f2], by simp only [ccode, f3, h2]⟩
      · rcases ih2 h2 with ⟨r, r', g1, g2, g3⟩ | ⟨g1, g2⟩
        · exact .inl ⟨r, r', by simp only [findLabel, f1]; exact g1, by simp only [afind, f2]; exact g2, g3⟩
        · exact .inr ⟨by simp only [findLabel, f1]; exact g1, by simp only [afind, f2]; exact g2⟩
    · simp at h
  | label m =>
    intro a h
    simp only [ccode, Option.some.injEq] at h
    subst h
    by_cases e : (m == l) = true
    · exact .inl ⟨.skip, .skip, by simp only [findLabel]; rw [if_pos e], by simp only [afind]; rw [if_pos e], rfl⟩
    · exact .inr ⟨by simp only [findLabel]; rw [if_neg e], by simp only [afind]; rw [if_neg e]⟩
  | region id ops draw =>
    intro a h
    refine .inr ⟨rfl, ?_⟩
    rcases inv_reg h with h1 | ⟨l, _, ⟨h1, _⟩ | ⟨_, k, sd, _, h1⟩⟩ <;> subst h1 <;> rfl
  | _ =>
    intro a h
    refine .inr ⟨rfl, ?_⟩
    simp only [ccode] at h
    first
      | (cases h; rfl)
      | (split at h <;> first | (cases h; rfl) | (simp at h; done))
      | (rw [Option.map_eq_some_iff] at h; obtain ⟨_, _, rfl⟩ := h; rfl)
      | (simp at h; done)
theorem agoto_rel {l : Nat} : ∀ {todo : List AItem} {k : List Item} {todo' : List AItem}, TodoRel x todo k → agoto l todo = some todo' → ∃ k', gotoIn l k = some k' ∧ TodoRel x todo' k'
  | [], _, _, _, h => by simp [agoto] at h
  | a :: todo, k, todo', hr, h => by
    obtain ⟨b, k', rfl, h1, h2⟩ := todo_cons hr
    cases a with
    | code c =>
      obtain ⟨c', rfl, _⟩ := code_item h1
      obtain ⟨k2, g1, g2⟩ := agoto_rel h2 (by simpa [agoto] using h)
      exact ⟨k2, by simpa [gotoIn] using g1, g2⟩
    | inLoop c =>
      obtain ⟨c', rfl, _⟩ := loop_item h1
      obtain ⟨k2, g1, g2⟩ := agoto_rel h2 (by simpa [agoto] using h)
      exact ⟨k2, by simpa [gotoIn] using g1, g2⟩
    | inBlock i =>
      obtain rfl := block_item h1
      obtain ⟨k2, g1, g2⟩ := agoto_rel h2 (by simpa [agoto] using h)
      exact ⟨k2, by simpa [gotoIn] using g1, g2⟩
    | inScope c =>
      obtain ⟨c', rfl, hc⟩ := scope_item h1
      simp only [agoto] at h
      rcases afind_rel l hc with ⟨r, r', f1, f2, f3⟩ | ⟨f1, f2⟩
      · rw [f2] at h
        cases h
        exact ⟨.code r :: .inScope c' :: k', by simp only [gotoIn, f1], ⟨f3, hc, h2⟩⟩
      · rw [f2] at h
        obtain ⟨k2, g1, g2⟩ := agoto_rel h2 h
        exact ⟨k2, by simp only [gotoIn, f1]; exact g1, g2⟩
theorem step_goto {P : Program} {b : Frame} {a : Act} {cs : List Frame} {w : World} {l : Nat} {k k' : List Item} (h : gotoIn l k = some k') : step P (lone (b.at a (.code (.goto l) :: k)) cs w) = .next (lone (b.at a k') cs w) :=
  step_lone_go (by simp [stepG, stepG.exec, Frame.at, h])
theorem Safe.goto {l : Nat} {todo' : List AItem} (he : agoto l todo = some todo') (h : Safe x todo' env H R) : Safe x (.code (.goto l) :: todo) env H R := by
  refine Safe.one (fun k hk => ?_) h
  obtain ⟨i, k', rfl, h1, h2⟩ := todo_cons hk
  obtain ⟨c, rfl, h1⟩ := code_item h1
  obtain rfl := inv_goto h1
  obtain ⟨k2, g1, g2⟩ := agoto_rel h2 he
  exact ⟨k2, g2, fun _ _ _ _ => step_goto g1⟩

theorem Safe.region {l : List AIns} (h : aops x.P x.n0 l (fun env' H' => Safe x todo env' H' R) env H) : Safe x (.code (.region l false) :: todo) env H R := by
  intro φ w tmps b k cs hg hn hb hk ht hsz hok he
  obtain ⟨i, k', rfl, h1, h2⟩ := todo_cons ht
  obtain ⟨c, rfl, h1⟩ := code_item h1
  obtain ⟨id, ops, rfl, g1, _⟩ := inv_region h1
  have hw := aops_sound (P := x.P) (nt := x.nt) (rid := id) (ops := ops) (n0 := x.n0) (K := fun env' H' => Safe x todo env' H' R) (E0 := ⟨φ, H, w⟩)
    (Q := fun e a w' => e = .normal ∧ Kc x.n0 x.nt ⟨φ, H, w⟩ (fun env' H' => Safe x todo env' H' R) a w') (fun a w h => ⟨rfl, h⟩) ops.toList 0 l g1 ⟨φ, H, w⟩ env tmps hsz hok he hn (Ext.refl _ _) h
  obtain ⟨e, a', w', ⟨rfl, φ1, env1, H1, s1, s2, s3, s4, s5, s6, s7⟩, harr⟩ := wp_region_list hw b k' cs
  have ha : a' = ⟨a'.tmps, []⟩ := by cases a'; simp at s4; simp [s4]
  rw [ha] at harr
  obtain ⟨v, w2, fr, r, φ', H', q1, q2, q3, q4, q5, q6, q7⟩ := s1 φ1 w' a'.tmps b k' cs hg s6 hb hk h2 s5 s2 s3
  exact ⟨v, w2, fr, r, φ', H', q1, q2, q3, q4, s7.trans q5, Steps.trans harr q6, q7⟩

theorem res_sound {P : Program} {E : Emb} {tmps : Array Value} {env : Env} (hok : HOk E) (he : RepEnv E env tmps) : ∀ {rv : List ResultVar} {rs : List ResV} {as : List AV}, cres P rv = some rs → resL env E.H rs = some as →
    ∃ vs : List Value, (rv.mapM fun (r : ResultVar) => match r with
      | .tmp t => (pure (tmps.getD t undef) : Sem Value)
      | .cell a t => do loadVar t (← asAddr (tmps.getD a undef))).run P E.w = .ok vs E.w ∧ vs.length = as.length ∧ ∀ (k : Nat) v a, vs[k]? = some v → as[k]? = some a → Rep E v a
  | [], rs, as, h1, h2 => by
    simp [cres] at h1; subst h1
    simp [resL] at h2; subst h2
    exact ⟨[], rfl, rfl, fun k v a h => by simp at h⟩
  | .tmp t :: rv, rs, as, h1, h2 => by
    simp only [cres, Option.map_eq_some_iff] at h1
    obtain ⟨rs', g1, rfl⟩ := h1
    simp only [resL, Option.map_eq_some_iff] at h2
    obtain ⟨as', g2, rfl⟩ := h2
    obtain ⟨vs, q1, q2, q3⟩ := res_sound hok he g1 g2
    refine ⟨tmps.getD t undef :: vs, by simp only [List.mapM_cons, Sem.run_bind, Sem.run_pure, Result.andThen_ok, q1], by simp [q2], fun k v a hk ha => ?_⟩
    cases k with
    | zero => simp only [List.getElem?_cons_zero, Option.some.injEq] at hk ha; subst hk; subst ha; exact he t
    | succ k => exact q3 k v a (by simpa using hk) (by simpa using ha)
  | .cell p t :: rv, rs, as, h1, h2 => by
    simp only [cres] at h1
    have main : ∀ (n : Option Nat) (d : TypeDesc) (rs' : List ResV), P.underlying t = some d → ((n = none ∧ isAggD d = false) ∨ ∃ m, n = some m ∧ isAggD d = true ∧ sizeD P t = some m) → cres P rv = some rs' → rs = .cell p n :: rs' →
        ∃ vs : List Value, ((ResultVar.cell p t :: rv).mapM fun (r : ResultVar) => match r with
          | .tmp t => (pure (tmps.getD t undef) : Sem Value)
          | .cell a t => do loadVar t (← asAddr (tmps.getD a undef))).run P E.w = .ok vs E.w ∧ vs.length = as.length ∧ ∀ (k : Nat) v a, vs[k]? = some v → as[k]? = some a → Rep E v a := by
      intro n d rs' hd hn g1 hrs
      subst hrs
      simp only [resL, Option.bind_eq_some_iff, Option.map_eq_some_iff] at h2
      obtain ⟨a, ha, as', g2, rfl⟩ := h2
      obtain ⟨vs, q1, q2, q3⟩ := res_sound hok he g1 g2
      obtain ⟨v, hv, hr⟩ := load_sound (P := P) hok (he p) hd hn ha
      have hl : (do loadVar t (← asAddr (tmps.getD p undef)) : Sem Value).run P E.w = .ok v E.w := by
        simp only [loadV, Option.bind_eq_some_iff] at ha
        obtain ⟨cs, hat, _⟩ := ha
        obtain ⟨b, o, us, hp, _⟩ := at_sound hok (he p) hat
        rw [hp] at hv ⊢
        simpa [Instr.loadAt, Instr.sureAddr, asAddr] using hv
      refine ⟨v :: vs, by simp only [List.mapM_cons, Sem.run_bind]; rw [← Sem.run_bind, hl]; simp only [Result.andThen_ok, q1, Sem.run_pure], by simp [q2], fun k v a hk ha => ?_⟩
      cases k with
      | zero => simp only [List.getElem?_cons_zero, Option.some.injEq] at hk ha; subst hk; subst ha; exact hr
      | succ k => exact q3 k v a (by simpa using hk) (by simpa using ha)
    split at h1
    · rename_i d hd
      split at h1
      · rename_i hag
        split at h1
        · rename_i n hn
          simp only [Option.map_eq_some_iff] at h1
          obtain ⟨rs', g1, rfl⟩ := h1
          exact main (some n) d rs' hd (.inr ⟨n, rfl, hag, hn⟩) g1 rfl
        · simp at h1
      · rename_i hag
        simp only [Option.map_eq_some_iff] at h1
        obtain ⟨rs', g1, rfl⟩ := h1
        exact main none d rs' hd (.inl ⟨rfl, by simpa using hag⟩) g1 rfl
    · simp at h1

theorem results_sound {E : Emb} {tmps : Array Value} {env : Env} (hok : HOk E) (he : RepEnv E env tmps) {fn : Func} {P : Program} {rs : List ResV} {as : List AV} (h1 : cres P fn.results.toList = some rs) (h2 : resL env E.H rs = some as) :
    ∃ v, (results fn tmps).run P E.w = .ok v E.w ∧ Rep E v (oneOf as) := by
  obtain ⟨vs, q1, q2, q3⟩ := res_sound hok he h1 h2
  have hm : (fn.results.mapM fun (r : ResultVar) => match r with
      | .tmp t => (pure (tmps.getD t undef) : Sem Value)
      | .cell a t => do loadVar t (← asAddr (tmps.getD a undef))).run P E.w = .ok vs.toArray E.w := by
    rw [Array.mapM_eq_mapM_toList, Sem.run_map, q1]; rfl
  refine ⟨if h : vs.toArray.size = 1 then vs.toArray[0] else .tuple vs.toArray, ?_, ?_⟩
  · unfold results
    rw [Sem.run_bind]
    exact (congrArg (fun r => Result.andThen r _) hm).trans rfl
  · cases vs with
    | nil =>
      cases as with
      | nil => exact .tup [] [] rfl (fun k v a h => by simp at h)
      | cons a as => simp at q2
    | cons v vs =>
      cases vs with
      | nil =>
        cases as with
        | nil => simp at q2
        | cons a as =>
          cases as with
          | nil => exact q3 0 v a rfl rfl
          | cons b as => simp at q2
      | cons u vs =>
        cases as with
        | nil => simp at q2
        | cons a as =>
          cases as with
          | nil => simp at q2
          | cons b as =>
            rw [dif_neg (by simp)]
            exact .tup _ _ q2 q3

theorem Safe.fin (hr : ∀ (k : List Item), TodoRel x todo k → k = [] ∨ ∃ k', k = .code .ret :: k') {as : List AV} (h1 : resL env H x.rs = some as) (h : R (oneOf as) H) : Safe x todo env H R := by
  intro φ w tmps b k cs hg hn hb hk ht hsz hok he
  obtain ⟨fn, hf, hc⟩ := hg
  obtain ⟨v, q1, q2⟩ := results_sound (E := ⟨φ, H, w⟩) hok he hc h1
  rcases hr k ht with rfl | ⟨k', rfl⟩
  · exact ⟨v, w, _, oneOf as, φ, H, h, hok, q2, hn, Ext.refl _ _, .one step_end, hb, rfl, rfl, hk, fn, hb ▸ hf, q1⟩
  · exact ⟨v, w, _, oneOf as, φ, H, h, hok, q2, hn, Ext.refl _ _, .one step_ret, hb, rfl, rfl, hk, fn, hb ▸ hf, q1⟩

theorem Safe.ret {as : List AV} (h1 : resL env H x.rs = some as) (h : R (oneOf as) H) : Safe x (.code .ret :: todo) env H R := by
  refine Safe.fin (fun k hk => ?_) h1 h
  obtain ⟨i, k', rfl, g1, g2⟩ := todo_cons hk
  obtain ⟨c, rfl, g1⟩ := code_item g1
  obtain rfl := inv_ret g1
  exact .inr ⟨k', rfl⟩

theorem Safe.done {as : List AV} (h1 : resL env H x.rs = some as) (h : R (oneOf as) H) : Safe x [] env H R := by
  refine Safe.fin (fun k hk => ?_) h1 h
  cases k with
  | nil => exact .inl rfl
  | cons b k => simp [TodoRel] at hk

end

/-! ### A call -/
/-- What a function's text comes to. -/
def fchk (P : Program) (mu : Nat → Nat → Bool) (fn : Func) : Option (ACode × List ResV × Nat) :=
  if fn.name == "runtime.NumGoroutine" then none else
  match fn.body with
  | some c => match ccode P mu fn.ntmps c, cres P fn.results.toList with
    | some ac, some rs => some (ac, rs, fn.ntmps)
    | _, _ => none
  | none => none

def envOf (k : Nat) : List AV → Env
  | [] => []
  | a :: as => (k, a) :: envOf (k + 1) as

theorem look_envOf : ∀ (as : List AV) (k t : Nat), look (envOf k as) t = if k ≤ t then (as[t - k]?).getD .top else .top
  | [], k, t => by simp [envOf, look]
  | a :: as, k, t => by
    simp only [envOf, look]
    by_cases h : k = t
    · subst h; simp
    · rw [if_neg h, look_envOf as (k + 1) t]
      by_cases h' : k ≤ t
      · rw [if_pos h', if_pos (by omega)]
        obtain ⟨m, hm⟩ : ∃ m, t - k = m + 1 := ⟨t - k - 1, by omega⟩
        rw [hm, show t - (k + 1) = m by omega]; simp
      · rw [if_neg h', if_neg (by omega)]

/-- The rows of a heap name rows of it. -/
def HRefs (H : Heap) : Prop := ∀ (id : Nat) blk, H[id]? = some (some blk) → ∀ a ∈ blk.flat, Ref (· < H.length) a

theorem ACalls.intro {P : Program} {mu : Nat → Nat → Bool} {f : FuncId} {fn : Func} (hf : P.funcs[f]? = some fn) {ac : ACode} {rs : List ResV} {nt : Nat} (hc : fchk P mu fn = some (ac, rs, nt))
    {args : List AV} {H : Heap} {R : AV → Heap → Prop} (ha : args.length ≤ nt) (h : HRefs H → Safe ⟨P, mu, f, nt, rs, H.length⟩ [.code ac] (envOf 0 args) H R) : ACalls P f args H R := by
  unfold fchk at hc
  split at hc
  · simp at hc
  · rename_i hname
    split at hc
    · rename_i c hb
      split at hc
      · rename_i ac' rs' h1 h2
        cases hc
        refine ⟨⟨fn, hf, by simpa using hname, by simp [hb]⟩, fun φ w vs hok hl hr => ?_⟩
        intro cs
        let b : Frame := { (default : Frame) with fn := f, kind := .normal }
        have henter : Frame.enter P f vs.toArray .normal = b.at ⟨vs.toArray ++ Array.replicate (fn.ntmps - vs.toArray.size) undef, []⟩ [.code c] := by
          simp [Frame.enter, Frame.at, hf, hb, b]
        obtain ⟨v, w', fr, r, φ', H', q1, q2, q3, q4, q5, q6, q7, q8⟩ := h (fun id blk hl => hok.refs hl) φ w (vs.toArray ++ Array.replicate (fn.ntmps - vs.toArray.size) undef) b [.code c] cs
          ⟨fn, hf, h2⟩ (Nat.le_refl _) rfl rfl ⟨h1, trivial⟩ (by simp; omega) hok (by
            intro t
            rw [look_envOf]
            simp only [Nat.zero_le, if_true, Nat.sub_zero]
            rcases Nat.lt_or_ge t args.length with ht | ht
            · rw [List.getElem?_eq_getElem ht, Option.getD_some]
              have : (vs.toArray ++ Array.replicate (fn.ntmps - vs.toArray.size) undef).getD t undef = vs[t]'(by omega) := by
                rw [Array.getD_eq_getD_getElem?, Array.getElem?_append_left (by simp; omega)]
                simp [List.getElem?_eq_getElem (show t < vs.length by omega)]
              rw [this]
              exact hr t _ _ (List.getElem?_eq_getElem (by omega)) (List.getElem?_eq_getElem ht)
            · rw [List.getElem?_eq_none ht]; exact .top _)
        rw [← henter] at q6
        exact ⟨.returned v, w', fr, ⟨v, r, φ', H', rfl, q1, q2, q3, q4, q5⟩, q6, q7, q8⟩
      · simp at hc
    · simp at hc
end Go.Abs

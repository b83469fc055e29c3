/- Part 4 of the proof of BookRests: A29, A30, Num. -/
import Derived.Test.YtclecbomkhgflaaGreatDoorBookRestsK3
import Derived.Test.YtclecbomkhgflaaGreatDoorProg
set_option linter.unusedVariables false
set_option linter.unusedSimpArgs false
namespace Go.Abs
def Stab (T : (Nat → Option Nat) → World → Prop) (n : Nat) : Prop := ∀ (φ : Nat → Option Nat) (H : Heap) (w : World) (φ' : Nat → Option Nat) (H' : Heap) (w' : World), n ≤ H.length → HOk ⟨φ, H, w⟩ → T φ w → Ext (· < n) ⟨φ, H, w⟩ ⟨φ', H', w'⟩ → T φ' w'
def a0f (T : (Nat → Option Nat) → World → Prop) (E0 : Emb) (x : Cx) (todo : List AItem) (env : Env) (H : Heap) (R : AV → Heap → Prop) : Prop :=
 ∀ (φ : Nat → Option Nat) (w : World) (tmps : Array Value) (b : Frame) (k : List Item) (cs : List Frame), x.Good → x.n0 ≤ H.length → b.fn = x.f → b.kind = .normal → a1y x todo k → tmps.size = x.nt →
  HOk ⟨φ, H, w⟩ → a0t ⟨φ, H, w⟩ env tmps → T φ w → Ext (· < E0.H.length) E0 ⟨φ, H, w⟩ → Stab T x.n0 → E0.H.length ≤ x.n0 →
  ∃ v w' fr r φ' H', R r H' ∧ HOk ⟨φ', H', w'⟩ ∧ Rep ⟨φ', H', w'⟩ v r ∧ E0.H.length ≤ H'.length ∧ Ext (· < E0.H.length) E0 ⟨φ', H', w'⟩ ∧
   Steps x.P (lone (b.at ⟨tmps, []⟩ k) cs w) (lone fr cs w') ∧ fr.fn = x.f ∧ fr.leaving x.P w' (.returned v)
variable {T : (Nat → Option Nat) → World → Prop} {E0 : Emb}
section
variable {x : Cx} {todo : List AItem} {env : Env} {H : Heap} {R : AV → Heap → Prop}
theorem a0f.one {todo' : List AItem} (hs : ∀ k, a1y x todo k → ∃ k', a1y x todo' k' ∧ ∀ (b : Frame) (tmps : Array Value) (cs : List Frame) (w : World), step x.P (lone (b.at ⟨tmps, []⟩ k) cs w) = .next (lone (b.at ⟨tmps, []⟩ k') cs w))
  (h : a0f T E0 x todo' env H R) : a0f T E0 x todo env H R := by
 intro φ w tmps b k cs hg hn hb hk ht hsz hok he hT hE hS hm
 obtain ⟨k', ht', hst⟩ := hs k ht
 obtain ⟨v, w', fr, r, φ', H', q1, q2, q3, q4, q5, q6, q7⟩ := h φ w tmps b k' cs hg hn hb hk ht' hsz hok he hT hE hS hm
 exact ⟨v, w', fr, r, φ', H', q1, q2, q3, q4, q5, .head (hst b tmps cs w) q6, q7⟩
theorem a0f.skip (h : a0f T E0 x todo env H R) : a0f T E0 x (.code .skip :: todo) env H R := by
 refine a0f.one (fun k hk => ?_) h
 obtain ⟨b, k', rfl, h1, h2⟩ := a0j hk
 obtain ⟨c, rfl, h1⟩ := a0m h1
 obtain rfl := c6x h1
 exact ⟨k', h2, fun _ _ _ _ => step_skip⟩
theorem a0f.label {l : Nat} (h : a0f T E0 x todo env H R) : a0f T E0 x (.code (.label l) :: todo) env H R := by
 refine a0f.one (fun k hk => ?_) h
 obtain ⟨b, k', rfl, h1, h2⟩ := a0j hk
 obtain ⟨c, rfl, h1⟩ := a0m h1
 obtain rfl := c2V h1
 exact ⟨k', h2, fun _ _ _ _ => step_label⟩
theorem a0f.goto {l : Nat} {todo' : List AItem} (he : b9S l todo = some todo') (h : a0f T E0 x todo' env H R) : a0f T E0 x (.code (.goto l) :: todo) env H R := by
 refine a0f.one (fun k hk => ?_) h
 obtain ⟨i, k', rfl, h1, h2⟩ := a0j hk
 obtain ⟨c, rfl, h1⟩ := a0m h1
 obtain rfl := c6z h1
 obtain ⟨k2, g1, g2⟩ := a8B h2 he
 exact ⟨k2, g2, fun _ _ _ _ => c0Y g1⟩
theorem a0f.scope {a : ACode} (h : a0f T E0 x (.code a :: .inScope a :: todo) env H R) : a0f T E0 x (.code (.scope a) :: todo) env H R := by
 refine a0f.one (fun k hk => ?_) h
 obtain ⟨i, k', rfl, h1, h2⟩ := a0j hk
 obtain ⟨c, rfl, h1⟩ := a0m h1
 obtain ⟨a', rfl, g1⟩ := c2T h1
 exact ⟨.code a' :: .inScope a' :: k', ⟨g1, g1, h2⟩, fun _ _ _ _ => b7a⟩
theorem a0f.inScope {a : ACode} (h : a0f T E0 x todo env H R) : a0f T E0 x (.inScope a :: todo) env H R := by
 refine a0f.one (fun k hk => ?_) h
 obtain ⟨i, k', rfl, h1, h2⟩ := a0j hk
 obtain ⟨a', rfl, h1⟩ := a9Z h1
 exact ⟨k', h2, fun _ _ _ _ => b2a⟩
theorem a0f.seq {a b : ACode} (h : a0f T E0 x (.code a :: .code b :: todo) env H R) : a0f T E0 x (.code (.seq a b) :: todo) env H R := by
 refine a0f.one (fun k hk => ?_) h
 obtain ⟨i, k', rfl, h1, h2⟩ := a0j hk
 obtain ⟨c, rfl, h1⟩ := a0m h1
 obtain ⟨a', b', rfl, g1, g2⟩ := d0o h1
 exact ⟨.code a' :: .code b' :: k', ⟨g1, g2, h2⟩, fun _ _ _ _ => step_seq⟩
theorem a0f.block {id : Nat} {a : ACode} (h : a0f T E0 x (.code a :: .inBlock id :: todo) env H R) : a0f T E0 x (.code (.block id a) :: todo) env H R := by
 refine a0f.one (fun k hk => ?_) h
 obtain ⟨i, k', rfl, h1, h2⟩ := a0j hk
 obtain ⟨c, rfl, h1⟩ := a0m h1
 obtain ⟨a', rfl, g1⟩ := c2W h1
 exact ⟨.code a' :: .inBlock id :: k', ⟨g1, rfl, h2⟩, fun _ _ _ _ => step_block⟩
theorem a0f.inBlock {id : Nat} (h : a0f T E0 x todo env H R) : a0f T E0 x (.inBlock id :: todo) env H R := by
 refine a0f.one (fun k hk => ?_) h
 obtain ⟨i, k', rfl, h1, h2⟩ := a0j hk
 obtain rfl := b0r h1
 exact ⟨k', h2, fun _ _ _ _ => step_inBlock⟩
theorem a0f.loop {a : ACode} (h : a0f T E0 x (.inLoop a :: todo) env H R) : a0f T E0 x (.code (.loop a) :: todo) env H R := by
 intro φ w tmps b k cs hg hn hb hk ht hsz hok he hT hE hS hm
 obtain ⟨i, k', rfl, h1, h2⟩ := a0j ht
 obtain ⟨c, rfl, h1⟩ := a0m h1
 obtain ⟨a', rfl, g1⟩ := c6y h1
 obtain ⟨v, w', fr, r, φ', H', q1, q2, q3, q4, q5, q6, q7⟩ := h φ w tmps b (.inLoop a' :: k') cs hg hn hb hk ⟨g1, h2⟩ hsz hok he hT hE hS hm
 refine ⟨v, w', fr, r, φ', H', q1, q2, q3, q4, q5, ?_, q7⟩
 -- both begin with the same state behind one step
 obtain ⟨n, hn'⟩ := q6
 cases n with
 | zero =>
  simp only [runN] at hn'
  cases hn'
  exfalso
  obtain ⟨_, hl⟩ := q7
  simp [Frame.leaving, Frame.at] at hl
 | succ n =>
  simp only [runN, step_inLoop] at hn'
  exact .head step_loop ⟨n, hn'⟩
theorem a0f.inLoop {a : ACode} (h : a0f T E0 x (.code a :: .inLoop a :: todo) env H R) : a0f T E0 x (.inLoop a :: todo) env H R := by
 refine a0f.one (fun k hk => ?_) h
 obtain ⟨i, k', rfl, h1, h2⟩ := a0j hk
 obtain ⟨a', rfl, h1⟩ := b2R h1
 exact ⟨.code a' :: .inLoop a' :: k', ⟨h1, h1, h2⟩, fun _ _ _ _ => step_inLoop⟩
theorem a0f.cond {s : Src} {a b : ACode} (h : b9N (s.ev env) fun c => if c then a0f T E0 x (.code a :: todo) env H R else a0f T E0 x (.code b :: todo) env H R) : a0f T E0 x (.code (.cond s a b) :: todo) env H R := by
 intro φ w tmps bf k cs hg hn hb hk ht hsz hok he hT hE hS hm
 obtain ⟨i, k', rfl, h1, h2⟩ := a0j ht
 obtain ⟨c, rfl, h1⟩ := a0m h1
 obtain ⟨o, a', b', rfl, g0, g1, g2⟩ := c6B h1
 simp only [b9N] at h
 split at h
 ·rename_i c hc
  have hr := a0n he g0
  rw [hc] at hr
  have hv := a1N hr
  cases c
  ·simp only [Bool.false_eq_true, if_false] at h
   obtain ⟨v, w', fr, r, φ', H', q1, q2, q3, q4, q5, q6, q7⟩ := h φ w tmps bf (.code b' :: k') cs hg hn hb hk ⟨g2, h2⟩ hsz hok he hT hE hS hm
   exact ⟨v, w', fr, r, φ', H', q1, q2, q3, q4, q5, .head (step_cond hv) (by simpa using q6), q7⟩
  ·simp only [if_true] at h
   obtain ⟨v, w', fr, r, φ', H', q1, q2, q3, q4, q5, q6, q7⟩ := h φ w tmps bf (.code a' :: k') cs hg hn hb hk ⟨g1, h2⟩ hsz hok he hT hE hS hm
   exact ⟨v, w', fr, r, φ', H', q1, q2, q3, q4, q5, .head (step_cond hv) (by simpa using q6), q7⟩
 ·exact h.elim
theorem a0f.exit {id : Nat} {todo' : List AItem} (he : b9T id todo = some todo') (h : a0f T E0 x todo' env H R) : a0f T E0 x (.code (.exit id) :: todo) env H R := by
 refine a0f.one (fun k hk => ?_) h
 obtain ⟨i, k', rfl, h1, h2⟩ := a0j hk
 obtain ⟨c, rfl, h1⟩ := a0m h1
 obtain rfl := c6A h1
 obtain ⟨k2, g1, g2⟩ := a8C h2 he
 exact ⟨k2, g2, fun _ _ _ _ => step_exit g1⟩
theorem a0f.region {l : List AIns} (h : aops x.P x.n0 l (fun env' H' => a0f T E0 x todo env' H' R) env H) : a0f T E0 x (.code (.region l false) :: todo) env H R := by
 intro φ w tmps b k cs hg hn hb hk ht hsz hok he hT hE hS hm
 obtain ⟨i, k', rfl, h1, h2⟩ := a0j ht
 obtain ⟨c, rfl, h1⟩ := a0m h1
 obtain ⟨id, ops, rfl, g1, _⟩ := a5I h1
 have hw := a7T (P := x.P) (nt := x.nt) (rid := id) (ops := ops) (n0 := x.n0) (K := fun env' H' => a0f T E0 x todo env' H' R) (E0 := ⟨φ, H, w⟩)
  (Q := fun e a w' => e = .normal ∧ Kc x.n0 x.nt ⟨φ, H, w⟩ (fun env' H' => a0f T E0 x todo env' H' R) a w') (fun a w h => ⟨rfl, h⟩) ops.toList 0 l g1 ⟨φ, H, w⟩ env tmps hsz hok he hn (Ext.refl _ _) h
 obtain ⟨e, a', w', ⟨rfl, φ1, env1, H1, s1, s2, s3, s4, s5, s6, s7⟩, harr⟩ := wp_region_list hw b k' cs
 have ha : a' = ⟨a'.tmps, []⟩ := by cases a'; simp at s4; simp [s4]
 rw [ha] at harr
 obtain ⟨v, w2, fr, r, φ', H', q1, q2, q3, q4, q5, q6, q7⟩ := s1 φ1 w' a'.tmps b k' cs hg s6 hb hk h2 s5 s2 s3 (hS _ _ _ _ _ _ hn hok hT s7) (hE.trans (s7.sub fun i hi => Nat.lt_of_lt_of_le hi hm)) hS hm
 exact ⟨v, w2, fr, r, φ', H', q1, q2, q3, q4, q5, Steps.trans harr q6, q7⟩
end
theorem a0f.weaken {x : Cx} {todo : List AItem} {env env' : Env} {H : Heap} {R : AV → Heap → Prop} (he : ∀ t, look env' t = look env t ∨ look env' t = .top) (h : a0f T E0 x todo env' H R) : a0f T E0 x todo env H R := by
 intro φ w tmps b k cs hg hn hb hk ht hsz hok hr hT hE hS hm
 refine h φ w tmps b k cs hg hn hb hk ht hsz hok (fun t => ?_) hT hE hS hm
 rcases he t with e | e
 ·rw [e]; exact hr t
 ·rw [e]; exact .top _
theorem a0f.keep (ts : List Nat) {x : Cx} {todo : List AItem} {env : Env} {H : Heap} {R : AV → Heap → Prop} (h : a0f T E0 x todo (keep env ts) H R) : a0f T E0 x todo env H R := a0f.weaken (c2I env ts) h
theorem a0f.mono {x : Cx} {todo : List AItem} {env : Env} {H : Heap} {R R' : AV → Heap → Prop} (h : a0f T E0 x todo env H R) (hr : ∀ r H', R r H' → R' r H') : a0f T E0 x todo env H R' := by
 intro φ w tmps b k cs hg hn hb hk ht hsz hok he hT hE hS hm
 obtain ⟨v, w', fr, r, φ', H', q1, q⟩ := h φ w tmps b k cs hg hn hb hk ht hsz hok he hT hE hS hm
 exact ⟨v, w', fr, r, φ', H', hr _ _ q1, q⟩
section
variable {x : Cx} {todo : List AItem} {env : Env} {H : Heap} {R : AV → Heap → Prop}
theorem a0f.fin (hr : ∀ (k : List Item), a1y x todo k → k = [] ∨ ∃ k', k = .code .ret :: k') {aXs : List AV} (h1 : resL env H x.rs = some aXs) (h : R (b3G aXs) H) : a0f T E0 x todo env H R := by
 intro φ w tmps b k cs hg hn hb hk ht hsz hok he hT hE hS hm
 obtain ⟨fn, hf, hc⟩ := hg
 obtain ⟨v, q1, q2⟩ := b5J (E := ⟨φ, H, w⟩) hok he hc h1
 rcases hr k ht with rfl | ⟨k', rfl⟩
 ·exact ⟨v, w, _, b3G aXs, φ, H, h, hok, q2, Nat.le_trans hm hn, hE, .one step_end, hb, rfl, rfl, hk, fn, hb ▸ hf, q1⟩
 ·exact ⟨v, w, _, b3G aXs, φ, H, h, hok, q2, Nat.le_trans hm hn, hE, .one step_ret, hb, rfl, rfl, hk, fn, hb ▸ hf, q1⟩
theorem a0f.ret {aXs : List AV} (h1 : resL env H x.rs = some aXs) (h : R (b3G aXs) H) : a0f T E0 x (.code .ret :: todo) env H R := by
 refine a0f.fin (fun k hk => ?_) h1 h
 obtain ⟨i, k', rfl, g1, g2⟩ := a0j hk
 obtain ⟨c, rfl, g1⟩ := a0m g1
 obtain rfl := d6s g1
 exact .inr ⟨k', rfl⟩
end
theorem a0f.retn {x : Cx} {todo : List AItem} {env : Env} {H : Heap} {R : AV → Heap → Prop} (h : gret (resL env H x.rs) fun r => R r H) : a0f T E0 x (.code .ret :: todo) env H R := by
 unfold gret at h
 split at h
 ·rename_i aXs ha; exact a0f.ret ha h
 ·exact h.elim
section
variable {x : Cx} {todo : List AItem} {R : AV → Heap → Prop} {l : ACode}
theorem a0f.stl {env : Env} {H : Heap} : ∀ (n : Nat) (k : List AItem), a0f T E0 x (stl n k) env H R → a0f T E0 x k env H R := by
 intro n
 induction n with
 | zero => intro k h; cases k <;> exact h
 | succ n ih =>
  intro k h
  unfold Abs.stl at h
  split at h
  ·rename_i h0; cases h0
  ·rename_i h0; cases h0; exact a0f.seq (ih _ h)
  ·rename_i h0; cases h0; exact a0f.skip (ih _ h)
  ·rename_i h0; cases h0; exact a0f.block (ih _ h)
  ·rename_i h0; cases h0; exact a0f.inBlock (ih _ h)
  ·rename_i h0; cases h0; exact a0f.scope (ih _ h)
  ·rename_i h0; cases h0; exact a0f.inScope (ih _ h)
  ·rename_i h0; cases h0
   split at h
   ·rename_i he; exact a0f.exit he (ih _ h)
   ·exact h
  ·rename_i h0; cases h0; exact a0f.label (ih _ h)
  ·rename_i h0; cases h0
   split at h
   ·rename_i he; exact a0f.goto he (ih _ h)
   ·exact h
  ·exact h
theorem a0f.rg {env : Env} {H : Heap} {k k' : List AItem} {l : List AIns} (e : Abs.stl 40 k = .code (.region l false) :: k')
  (h : aops x.P x.n0 l (fun env' H' => a0f T E0 x k' env' H' R) env H) : a0f T E0 x k env H R := by
 refine a0f.stl 40 k ?_
 rw [e]
 exact a0f.region h
theorem a0f.cd {env : Env} {H : Heap} {k k' : List AItem} {s : Src} {a b : ACode} (e : Abs.stl 40 k = .code (.cond s a b) :: k')
  (h : b9N (s.ev env) fun c => if c then a0f T E0 x (.code a :: k') env H R else a0f T E0 x (.code b :: k') env H R) : a0f T E0 x k env H R := by
 refine a0f.stl 40 k ?_
 rw [e]
 exact a0f.cond h
theorem a0f.lp {env : Env} {H : Heap} {k k' : List AItem} {a : ACode} (e : Abs.stl 40 k = .code (.loop a) :: k') (h : a0f T E0 x (.inLoop a :: k') env H R) : a0f T E0 x k env H R := by
 refine a0f.stl 40 k ?_
 rw [e]
 exact a0f.loop h
theorem a0f.rt {env : Env} {H : Heap} {k k' : List AItem} (e : Abs.stl 40 k = .code .ret :: k') (h : gret (resL env H x.rs) fun r => R r H) : a0f T E0 x k env H R := by
 refine a0f.stl 40 k ?_
 rw [e]
 exact a0f.retn h
theorem a0f.loopP (n : Nat) (E : Nat → Env) (G : Nat → Heap) (P : Nat → Prop) {env : Env} {H : Heap} (he : env = E 0) (hG : H = G 0) (h0 : P 0)
  (step : ∀ i, i < n → P i → (P (i + 1) → a0f T E0 x (.inLoop l :: todo) (E (i + 1)) (G (i + 1)) R) → a0f T E0 x (.inLoop l :: todo) (E i) (G i) R)
  (last : P n → a0f T E0 x (.inLoop l :: todo) (E n) (G n) R) : a0f T E0 x (.inLoop l :: todo) env H R := by
 subst he; subst hG
 have key : ∀ k i, i + k = n → P i → a0f T E0 x (.inLoop l :: todo) (E i) (G i) R := by
  intro k
  induction k with
  | zero => intro i hi hp; rw [show i = n by omega] at hp ⊢; exact last hp
  | succ k ih => intro i hi hp; exact step i (by omega) hp fun hp' => ih (i + 1) (by omega) hp'
 exact key n 0 (by omega) h0
theorem a0f.loopN (n : Nat) (E : Nat → Env) (G : Nat → Heap) {env : Env} {H : Heap} (he : env = E 0) (hG : H = G 0)
  (step : ∀ i, i < n → a0f T E0 x (.inLoop l :: todo) (E (i + 1)) (G (i + 1)) R → a0f T E0 x (.inLoop l :: todo) (E i) (G i) R)
  (last : a0f T E0 x (.inLoop l :: todo) (E n) (G n) R) : a0f T E0 x (.inLoop l :: todo) env H R :=
 a0f.loopP n E G (fun _ => True) he hG trivial (fun i hi _ ih => step i hi (ih trivial)) fun _ => last
theorem a0f.loopW {α : Type} (μ : α → Nat) (E : α → Env) (G : α → Heap) (P : α → Prop) (a0 : α) {env : Env} {H : Heap} (he : env = E a0) (hG : H = G a0) (h0 : P a0)
  (step : ∀ a, P a → (∀ b, P b → μ b < μ a → a0f T E0 x (.inLoop l :: todo) (E b) (G b) R) → a0f T E0 x (.inLoop l :: todo) (E a) (G a) R) : a0f T E0 x (.inLoop l :: todo) env H R := by
 subst he; subst hG
 have key : ∀ k a, μ a ≤ k → P a → a0f T E0 x (.inLoop l :: todo) (E a) (G a) R := by
  intro k
  induction k with
  | zero => intro a ha hp; exact step a hp fun b hb hlt => absurd hlt (by omega)
  | succ k ih => intro a ha hp; exact step a hp fun b hb hlt => ih b (by omega) hb
 exact key (μ a0) a0 (Nat.le_refl _) h0
end
theorem c3Z {x : Cx} {n : Nat} : ∀ {todo : List AItem} {k : List Item}, a1y x todo k → a1y ⟨x.P, x.mu, x.f, x.nt, x.rs, n⟩ todo k
 | [], [], _ => trivial
 | [], _ :: _, h => by simp [a1y] at h
 | _ :: _, [], h => by simp [a1y] at h
 | a :: todo, b :: k, h => ⟨by have := h.1; unfold a6T at this ⊢; exact this, c3Z h.2⟩
section
variable {P : Program} {nt : Nat}
theorem e3F {f : FuncId} {aXs : List AV} {E : Emb} {env : Env} {tmps : Array Value} {o : Oper} {mutable : Bool} {ao : AOp} (hc : caop P mutable o.op = some ao) (hd : d0E nt o.dst = true) (hsz : tmps.size = nt)
  (he : a0t E env tmps) (hcal : a2o env ao = some (f, aXs)) (hcb : a7Q P f) {Q : Exit → Act → World → Prop} {next : Act → World → Prop}
  (hcall : ∀ vs : List Value, vs.length = aXs.length → (∀ (k : Nat) v a, vs[k]? = some v → aXs[k]? = some a → Rep E v a) → Calls P f vs.toArray E.w fun e w' => ∃ v, e = .returned v ∧ next ((Act.mk tmps []).put o.dst v) w') :
  o.wp P ⟨tmps, []⟩ E.w next Q := by
 subst hsz
 have callb : ∀ (c : Call) (g : Operand) (f : FuncId) (bs caps : List Value) (aXs : List AV) (vs : List Value), o.op = .call c → c.callee = .value g → Act.eval ⟨tmps, []⟩ g = .func (.func f) bs.toArray caps.toArray →
   vs = bs ++ c.args.toList.map (Act.eval ⟨tmps, []⟩) ++ caps → vs.length = aXs.length → (∀ (k : Nat) v a, vs[k]? = some v → aXs[k]? = some a → Rep E v a) →
   a7Q P f → (∀ vs : List Value, vs.length = aXs.length → (∀ (k : Nat) v a, vs[k]? = some v → aXs[k]? = some a → Rep E v a) → Calls P f vs.toArray E.w fun e w' => ∃ v, e = .returned v ∧ next ((Act.mk tmps []).put o.dst v) w') → o.wp P ⟨tmps, []⟩ E.w next Q := by
  intro c g f bs caps aXs vs ho hcal hg hvs hl hr hcb ha
  have hx := c3g (w := E.w) ho hcal hg hcb
  simp only [Oper.wp, hx, Oper.upon]
  have harr : bs.toArray ++ c.args.map (Act.eval ⟨tmps, []⟩) ++ caps.toArray = vs.toArray := by
   rw [hvs]
   apply Array.ext'
   simp
  rw [harr]
  refine (ha vs hl hr).mono ?_
  rintro e w' ⟨v, rfl, h⟩
  exact h
 unfold caop at hc
 split at hc
 ·cases hc; simp [a2o] at hcal
 ·split at hc
  ·cases hc; simp [a2o] at hcal
  ·split at hc
   ·rename_i c ho
    split at hc
    ·rename_i f' hcal'
     simp only [Option.map_eq_some_iff] at hc
     obtain ⟨ss, hs, hao⟩ := hc
     obtain ⟨hl, hr⟩ := a5T he hs
     have : (f', ss.map (·.ev env)) = (f, aXs) := by
      split at hao
      ·subst hao; simp [a2o] at hcal
      ·subst hao; simpa [a2o] using hcal
     cases this
     exact callb c (.func f) f [] [] _ _ ho hcal' rfl rfl (by simp [hl]) (by simpa using hr) hcb hcall
    ·rename_i t hcal'
     simp only [Option.map_eq_some_iff] at hc
     obtain ⟨ss, hs, hao⟩ := hc
     obtain ⟨hl, hr⟩ := a5T he hs
     have hg := he t
     have hcv : a2o env (.callv (.t t) ss) = some (f, aXs) := by
      split at hao
      ·subst hao; simp [a2o] at hcal
      ·subst hao; exact hcal
     simp only [a2o, Src.ev] at hcv
     split at hcv
     ·rename_i f2 caps hcap
      cases hcv
      rw [hcap] at hg
      generalize hgv : tmps.getD t undef = gv at hg
      cases hg with
      | fn _ vs cs hlen hrep =>
       exact callb c (.tmp t) f [] vs _ (c.args.toList.map (Act.eval ⟨tmps, []⟩) ++ vs) ho hcal' hgv (by simp) (by simp [hl, hlen]) (a3J (Q := fun u b => Rep E u b) (by simp [hl]) hr hrep) hcb hcall
      | dead v a id hr hd h1 => simp [AV.ref] at hr
     ·rename_i f2 bs hcap
      cases hcv
      rw [hcap] at hg
      generalize hgv : tmps.getD t undef = gv at hg
      cases hg with
      | bfn _ vs cs hlen hrep =>
       exact callb c (.tmp t) f vs [] _ (vs ++ c.args.toList.map (Act.eval ⟨tmps, []⟩)) ho hcal' hgv (by simp) (by simp [hl, hlen]) (a3J (Q := fun u b => Rep E u b) hlen hrep hr) hcb hcall
      | dead v a id hr hd h1 => simp [AV.ref] at hr
     ·cases hcv
    ·simp at hc
   ·rename_i x str ho
    split at hc
    ·cases hc
    ·simp only [Option.map_eq_some_iff] at hc
     obtain ⟨s, hs, rfl⟩ := hc
     simp [a2o] at hcal
   ·simp at hc
theorem d2h {mu : Nat → Nat → Bool} {rid : Nat} {ops : Array Oper} {n0 : Nat} {c : AIns} {l2 : List AIns} {Q : Exit → Act → World → Prop} {E0 : Emb} :
  ∀ (l0 : List Oper) (k : Nat) (l : List AIns), a5K P mu nt rid ops k l0 = some (l ++ c :: l2) → ∀ (E : Emb) (env : Env) (tmps : Array Value), tmps.size = nt → HOk E → a0t E env tmps → n0 ≤ E.H.length → Ext (· < n0) E0 E →
   aops P n0 l (fun env' H' => ∀ (E' : Emb) (tmps' : Array Value) (o : Oper) (rest : List Oper) (k' : Nat), E'.H = H' → HOk E' → a0t E' env' tmps' → tmps'.size = nt → n0 ≤ E'.H.length → Ext (· < n0) E0 E' →
    cins P (mu rid k') nt ops o = some c → a5K P mu nt rid ops (k' + 1) rest = some l2 → wpList P ops Q (o :: rest) ⟨tmps', []⟩ E'.w) env E.H → wpList P ops Q l0 ⟨tmps, []⟩ E.w
 | [], k, l, hl, E, env, tmps, hsz, hok, he, hn, hx, h => by
  cases l <;> simp [a5K] at hl
 | o :: l0, k, [], hl, E, env, tmps, hsz, hok, he, hn, hx, h => by
  simp only [a5K] at hl
  split at hl
  ·rename_i i' l' hi hl'
   rw [List.nil_append] at hl
   obtain ⟨rfl, rfl⟩ := List.cons.inj (Option.some.inj hl)
   simp only [aops] at h
   exact h E tmps o l0 k rfl hok he hsz hn hx hi hl'
  ·simp at hl
 | o :: l0, k, i :: l, hl, E, env, tmps, hsz, hok, he, hn, hx, h => by
  simp only [a5K] at hl
  split at hl
  ·rename_i i' l' hi hl'
   rw [List.cons_append] at hl
   obtain ⟨rfl, rfl⟩ := List.cons.inj (Option.some.inj hl)
   unfold cins at hi
   split at hi
   ·rename_i hd
    split at hi
    ·rename_i g a hg ha
     cases hi
     generalize hK : (fun env' H' => ∀ (E' : Emb) (tmps' : Array Value) (o : Oper) (rest : List Oper) (k' : Nat), E'.H = H' → HOk E' → a0t E' env' tmps' → tmps'.size = nt → n0 ≤ E'.H.length → Ext (· < n0) E0 E' →
      cins P (mu rid k') nt ops o = some c → a5K P mu nt rid ops (k' + 1) rest = some l2 → wpList P ops Q (o :: rest) ⟨tmps', []⟩ E'.w) = K at h
     have next : ∀ a w, Kc n0 nt E (aops P n0 l K) a w → wpList P ops Q l0 a w := by
      intro a w ⟨φ, env', H', q1, q2, q3, q4, q5, q6, q7⟩
      have : a = ⟨a.tmps, []⟩ := by cases a; simp at q4; simp [q4]
      rw [this]
      subst hK
      exact d2h l0 (k + 1) l hl' ⟨φ, H', w⟩ env' a.tmps q5 q2 q3 q6 (hx.trans q7) q1
     have hw := a7X (o := o) he hg
     simp only [aops] at h
     unfold wpList
     split at h
     ·simp only at hw
      rw [if_pos hw]
      exact .inl (a2s ha hd hsz hok he hn h next)
     ·rename_i t want _
      simp only at hw
      simp only [a9p] at h
      have pass : Region.wanted o (yielded ops tmps) = false → aops P n0 l K (put o.dst (.tup []) env) E.H → wpList P ops Q (o :: l0) ⟨tmps, []⟩ E.w := by
       intro hf h
       unfold wpList
       rw [if_neg (by rw [hf]; simp)]
       refine next _ _ ⟨E.φ, _, E.H, h, hok, ?_, ?_, ?_, hn, Ext.refl _ _⟩
       ·subst hsz; exact a3e he hd b2d
       ·cases o.dst <;> rfl
       ·rw [a7x]; exact hsz
      split at h
      ·rename_i c' hc
       have hw' := hw.1 c' hc
       split at h
       ·rename_i hcw
        rw [if_pos (by rw [hw', hcw]; simp)]
        exact .inl (a2s ha hd hsz hok he hn h next)
       ·rename_i hcw
        have := pass (by rw [hw']; simpa using hcw) h
        unfold wpList at this
        exact this
      ·rename_i hc
       have hw' := hw.2 hc
       rw [if_neg (by cases want <;> simp)] at h
       have := pass hw' h
       unfold wpList at this
       exact this
      ·exact h.elim
    ·simp at hi
   ·simp at hi
  ·simp at hl
end
theorem c3w {P : Program} {n0 : Nat} {o : AOp} {d : Option Nat} {K K' : Env → Heap → Prop} (hk : ∀ env H, K env H → K' env H) {env : Env} {H : Heap} (h : a3a P n0 o d K env H) : a3a P n0 o d K' env H := by
 cases o with
 | p o => simp only [a3a, b9I] at h ⊢; split at h <;> first | exact hk _ _ h | exact h.elim
 | e o => simp only [a3a, b7R] at h ⊢; split at h <;> first | exact hk _ _ h | exact h.elim
 | call f aXs => exact a0h.mono h fun r H' => hk _ _
 | gcall f aXs => exact a0h.mono h fun r H' => hk _ _
 | callv g aXs =>
  simp only [a3a] at h ⊢
  split at h <;> first | exact a0h.mono h fun r H' => hk _ _ | exact h.elim
 | gcallv g aXs =>
  simp only [a3a] at h ⊢
  split at h <;> first | exact a0h.mono h fun r H' => hk _ _ | exact h.elim
 | nxt a =>
  simp only [a3a, c9O] at h ⊢
  split at h
  ·split at h
   ·split at h
    ·exact ⟨h.1, fun i p q1 q2 => hk _ _ (h.2.1 i p q1 q2), fun q => hk _ _ (h.2.2 q)⟩
    ·split at h
     ·exact ⟨h.1, h.2.1, fun i b k v q1 q2 q3 q4 => hk _ _ (h.2.2.1 i b k v q1 q2 q3 q4), fun q => hk _ _ (h.2.2.2 q)⟩
     ·exact h.elim
   ·exact h.elim
  ·exact h.elim
theorem a7U {P : Program} {n0 : Nat} : ∀ {l : List AIns} {K K' : Env → Heap → Prop} (hk : ∀ env H, K env H → K' env H) {env : Env} {H : Heap}, aops P n0 l K env H → aops P n0 l K' env H
 | [], K, K', hk, env, H, h => hk _ _ h
 | i :: l, K, K', hk, env, H, h => by
  simp only [aops] at h ⊢
  split at h
  ·exact c3w (fun _ _ => a7U hk) h
  ·simp only [a9p] at h ⊢
   split at h
   ·split at h
    ·rename_i hc; rw [if_pos hc]; exact c3w (fun _ _ => a7U hk) h
    ·rename_i hc; rw [if_neg hc]; exact a7U hk h
   ·rename_i want _ _ _
    rw [if_neg (by cases want <;> simp)] at h ⊢; exact a7U hk h
   ·exact h.elim
def KT (E0 : Emb) (n0 nt : Nat) (K : ((Nat → Option Nat) → World → Prop) → Env → Heap → Prop) (a : Act) (w : World) : Prop :=
 ∃ T φ env H, K T env H ∧ Stab T n0 ∧ T φ w ∧ HOk ⟨φ, H, w⟩ ∧ a0t ⟨φ, H, w⟩ env a.tmps ∧ a.defers = [] ∧ a.tmps.size = nt ∧ n0 ≤ H.length ∧ Ext (· < E0.H.length) E0 ⟨φ, H, w⟩
section
variable {x : Cx} {todo : List AItem} {R : AV → Heap → Prop}
theorem a0f.rgW {env : Env} {H : Heap} {k kt : List AItem} {l : List AIns} (l1 l2 : List AIns) {d : Option Nat} {c : AOp} (e : Abs.stl 40 k = .code (.region l false) :: kt) (e2 : l = l1 ++ ⟨d, none, c⟩ :: l2)
  (h : aops x.P x.n0 l1 (fun env' H' => ∃ f aXs, a2o env' c = some (f, aXs) ∧ a7Q x.P f ∧ ∀ (φ : Nat → Option Nat) (w : World) (vs : List Value), HOk ⟨φ, H', w⟩ → T φ w → Ext (· < E0.H.length) E0 ⟨φ, H', w⟩ → vs.length = aXs.length → (∀ (k : Nat) v a, vs[k]? = some v → aXs[k]? = some a → Rep ⟨φ, H', w⟩ v a) →
   Calls x.P f vs.toArray w fun e w' => ∃ v r T' φ' H'' env'', e = .returned v ∧ Stab T' x.n0 ∧ T' φ' w' ∧ HOk ⟨φ', H'', w'⟩ ∧ Rep ⟨φ', H'', w'⟩ v r ∧ (∀ tmps, a0t ⟨φ, H', w⟩ env' tmps → a0t ⟨φ', H'', w'⟩ env'' tmps) ∧ x.n0 ≤ H''.length ∧ Ext (· < E0.H.length) E0 ⟨φ', H'', w'⟩ ∧
    aops x.P x.n0 l2 (fun env2 H2 => a0f T' E0 x kt env2 H2 R) (put d r env'') H'') env H) : a0f T E0 x k env H R := by
 refine a0f.stl 40 k ?_
 rw [e]
 intro φ w tmps b k cs hg hn hb hk ht hsz hok he hT hE hS hm
 obtain ⟨i, k', rfl, h1, h2⟩ := a0j ht
 obtain ⟨cc, rfl, h1⟩ := a0m h1
 obtain ⟨id, ops, rfl, g1, _⟩ := a5I h1
 rw [e2] at g1
 have hw := d2h (P := x.P) (nt := x.nt) (rid := id) (ops := ops) (n0 := x.n0) (E0 := ⟨φ, H, w⟩) (l2 := l2)
  (Q := fun e a w' => e = .normal ∧ KT E0 x.n0 x.nt (fun T' env' H' => a0f T' E0 x kt env' H' R) a w') ops.toList 0 l1 g1 ⟨φ, H, w⟩ env tmps hsz hok he hn (Ext.refl _ _) ?_
 ·obtain ⟨e, a', w', ⟨rfl, T', φ1, env1, H1, s1, s2, s3, s4, s5, s6, s7, s8, s9⟩, harr⟩ := wp_region_list hw b k' cs
  have ha : a' = ⟨a'.tmps, []⟩ := by cases a'; simp at s6; simp [s6]
  rw [ha] at harr
  obtain ⟨v, w2, fr, r, φ', H', q1, q2, q3, q4, q5, q6, q7⟩ := s1 φ1 w' a'.tmps b k' cs hg s8 hb hk h2 s7 s4 s5 s3 s9 s2 hm
  exact ⟨v, w2, fr, r, φ', H', q1, q2, q3, q4, q5, Steps.trans harr q6, q7⟩
 ·refine a7U ?_ h
  rintro env' H' ⟨f, aXs, hcal, hcb, hcall⟩ E' tmps' o rest k2 rfl hok' he' hsz' hn' hx' hi hrest
  have hT' : T E'.φ E'.w := hS _ _ _ _ _ _ hn hok hT hx'
  have hE' : Ext (· < E0.H.length) E0 E' := hE.trans (hx'.sub fun i hi => Nat.lt_of_lt_of_le hi hm)
  unfold cins at hi
  split at hi
  ·rename_i hd
   split at hi
   ·rename_i g a hg' ha
    simp only [Option.some.injEq, AIns.mk.injEq] at hi
    obtain ⟨rfl, rfl, rfl⟩ := hi
    have hw := a7X (o := o) he' hg'
    simp only at hw
    unfold wpList
    rw [if_pos hw]
    refine .inl (e3F ha hd hsz' he' hcal hcb fun vs hl hr => (hcall E'.φ E'.w vs hok' hT' hE' hl hr).mono ?_)
    rintro e w' ⟨v, r, T2, φ2, H2, env2, rfl, q1, q2, q3, q4, q5, q6, q7, q8⟩
    refine ⟨v, rfl, ?_⟩
    have hp : (Act.mk tmps' []).put o.dst v = ⟨((Act.mk tmps' []).put o.dst v).tmps, []⟩ := d2Y _ _ _
    rw [hp]
    refine a7T (P := x.P) (nt := x.nt) (rid := id) (ops := ops) (n0 := x.n0) (K := fun env3 H3 => a0f T2 E0 x kt env3 H3 R) (E0 := ⟨φ2, H2, w'⟩) (Q := fun e a w' => e = .normal ∧ KT E0 x.n0 x.nt (fun T' env' H' => a0f T' E0 x kt env' H' R) a w') ?_ rest (k2 + 1) l2 hrest ⟨φ2, H2, w'⟩ _ _ ?_ q3 ?_ q6 (Ext.refl _ _) q8
    ·rintro a w3 ⟨φ3, env3, H3, r1, r2, r3, r4, r5, r6, r7⟩
     exact ⟨rfl, T2, φ3, env3, H3, r1, q1, q1 _ _ _ _ _ _ q6 q3 q2 r7, r2, r3, r4, r5, r6, q7.trans (r7.sub fun i hi => Nat.lt_of_lt_of_le hi hm)⟩
    ·rw [a7x]; exact hsz'
    ·have := a3e (q5 tmps' he') (by rw [hsz']; exact hd) q4
     exact this
   ·simp at hi
  ·simp at hi
end
theorem Safe.enterT {x : Cx} {todo : List AItem} {env : Env} {H : Heap} {R : AV → Heap → Prop} {id : Nat} {ops : Array Oper} {d : Bool} {k : List AItem} (e : Abs.stl 40 k = .code (.raw id ops d) :: todo) (hx : x.n0 = H.length) (n1 : Nat)
  (h : ∀ φ w tmps, HOk ⟨φ, H, w⟩ → a0t ⟨φ, H, w⟩ env tmps → tmps.size = x.nt → (Code.region id ops d).wp x.P (fun e a w' => e = .normal ∧ ∃ T φ' env' H', Stab T n1 ∧ x.n0 ≤ n1 ∧ n1 ≤ H'.length ∧ T φ' w' ∧ HOk ⟨φ', H', w'⟩ ∧ a0t ⟨φ', H', w'⟩ env' a.tmps ∧ a.defers = [] ∧ a.tmps.size = x.nt ∧
   Ext (· < H.length) ⟨φ, H, w⟩ ⟨φ', H', w'⟩ ∧ a0f T ⟨φ, H, w⟩ ⟨x.P, x.mu, x.f, x.nt, x.rs, n1⟩ todo env' H' R) ⟨tmps, []⟩ w) : Safe x k env H R := by
 refine Safe.stl 40 k ?_
 rw [e]
 intro φ w tmps b k cs hg hn hb hk ht hsz hok he
 obtain ⟨i, k', rfl, h1, h2⟩ := a0j ht
 obtain ⟨c, rfl, h1⟩ := a0m h1
 obtain rfl := d0q h1
 obtain ⟨e, a', w', ⟨rfl, T, φ1, env1, H1, s1, s2, s3, s4, s5, s6, s7, s8, s9, s10⟩, harr⟩ := h φ w tmps hok he hsz b k' cs
 have ha : a' = ⟨a'.tmps, []⟩ := by cases a'; simp at s7; simp [s7]
 rw [ha] at harr
 obtain ⟨v, w2, fr, r, φ', H', q1, q2, q3, q4, q5, q6, q7⟩ := s10 φ1 w' a'.tmps b k' cs hg s3 hb hk (c3Z h2) s8 s5 s6 s4 s9 s1 (by rw [← hx]; exact s2)
 exact ⟨v, w2, fr, r, φ', H', q1, q2, q3, by rw [hx]; exact q4, by rw [hx]; exact q5, Steps.trans harr q6, q7⟩
end Go.Abs
namespace Go.Abs
def ups (dep : Nat → List Nat) : Nat → List Nat → List Nat
 | 0, s => s
 | n + 1, s => s ++ ups dep n (s.flatMap dep)
theorem b9W {dep : Nat → List Nat} {lst : Nat → Bool} (hc : ∀ i, lst i = true → ∀ j ∈ dep i, lst j = true) : ∀ (n : Nat) (s : List Nat), (∀ i ∈ s, lst i = true) → ∀ j ∈ ups dep n s, lst j = true
 | 0, s, h, j, hj => h j hj
 | n + 1, s, h, j, hj => by
  simp only [ups, List.mem_append] at hj
  rcases hj with hj | hj
  ·exact h j hj
  ·exact b9W hc n _ (fun i hi => by
    obtain ⟨a, ha, hb⟩ := List.mem_flatMap.1 hi
    exact hc a (h a ha) i hb) j hj
def deps (ops : Array Oper) : List (List Nat) := ops.toList.map fun o => (o.after.toList.filter (Region.binds .any)).map (·.on)
structure Plan where
 dep : List (List Nat)
 ph : List Nat
 n : Nat
def Plan.d (p : Plan) (i : Nat) : List Nat := p.dep.getD i []
def Plan.may (p : Plan) (i k : Nat) : Bool := (List.range p.ph.length).all fun m => (!(ups p.d p.n [p.ph.getD m 0]).contains i || decide (k ≤ m)) && (!(ups p.d p.n (p.d i)).contains (p.ph.getD m 0) || decide (m < k))
def Plan.ok (p : Plan) : Bool := (List.range p.ph.length).all fun m => (List.range p.ph.length).all fun m' => decide (m ≤ m') || (ups p.d p.n (p.d (p.ph.getD m 0))).contains (p.ph.getD m' 0) && p.ph.getD m 0 != p.ph.getD m' 0
def Plan.nx (p : Plan) (i k : Nat) : Nat := if p.ph.contains i then k + 1 else k
def Know (l : List AIns) (T : List AV) (env : Env) : List Nat → Prop
 | [] => True
 | j :: r => (match (l[j]?).bind (·.dst) with
  | some t => look env t = T.getD j .top
  | none => True) ∧ Know l T env r
theorem d6i {l : List AIns} {T : List AV} {env : Env} : ∀ (s : List Nat), (∀ j ∈ s, ∀ t, (l[j]?).bind (·.dst) = some t → look env t = T.getD j .top) → Know l T env s
 | [], _ => trivial
 | j :: r, h => ⟨by
   split
   ·rename_i t ht; exact h j (by simp) t ht
   ·trivial, d6i r fun i hi => h i (by simp [hi])⟩
def Was (env0 env : Env) : List Nat → Prop
 | [] => True
 | t :: r => look env t = look env0 t ∧ Was env0 env r
theorem e0P {env0 env : Env} : ∀ (s : List Nat), (∀ t ∈ s, look env t = look env0 t) → Was env0 env s
 | [], _ => trivial
 | j :: r, h => ⟨h j (by simp), e0P r fun i hi => h i (by simp [hi])⟩
def d2i (P : Program) (n0 : Nat) (p : Plan) (T : List AV) (l : List AIns) (ins : List Nat) (env : Env) (Hs : Nat → Heap) : Nat → List AIns → Prop
 | _, [] => True
 | i, x :: r => (∀ k, k ≤ p.ph.length → p.may i k = true → ∀ env', Know l T env' (p.d i) → Was env env' ins → ∀ K : Env → Heap → Prop, K (put x.dst (T.getD i .top) env') (Hs (p.nx i k)) → aops P n0 [x] K env' (Hs k)) ∧
  d2i P n0 p T l ins env Hs (i + 1) r
theorem c4b {P : Program} {n0 : Nat} {p : Plan} {T : List AV} {l : List AIns} {ins : List Nat} {env : Env} {Hs : Nat → Heap} : ∀ (r : List AIns) (i : Nat), d2i P n0 p T l ins env Hs i r → ∀ (j : Nat) (x : AIns), r[j]? = some x →
  ∀ k, k ≤ p.ph.length → p.may (i + j) k = true → ∀ env', Know l T env' (p.d (i + j)) → Was env env' ins → ∀ K : Env → Heap → Prop, K (put x.dst (T.getD (i + j) .top) env') (Hs (p.nx (i + j) k)) → aops P n0 [x] K env' (Hs k)
 | [], i, h, j, x, hx => by simp at hx
 | y :: r, i, h, 0, x, hx => by simp at hx; subst hx; exact h.1
 | y :: r, i, h, j + 1, x, hx => by
  have := c4b r (i + 1) h.2 j x (by simpa using hx)
  rw [show i + 1 + j = i + (j + 1) from by omega] at this
  exact this
def outs : List AIns → List AV → Env → Env
 | x :: l, v :: T, env => outs l T (put x.dst v env)
 | _, _, env => env
theorem b6j {d : Option Nat} {v : AV} {env : Env} {t : Nat} : look (put d v env) t = if d = some t then v else look env t := by
 cases d with
 | none => simp [put]
 | some s =>
  simp only [put, look, Option.some.injEq]
theorem c8d : ∀ (l : List AIns) (T : List AV) (env : Env), l.length = T.length → (l.filterMap (·.dst)).Nodup → ∀ t, (∀ (i : Nat) x, l[i]? = some x → x.dst = some t → look (outs l T env) t = T.getD i .top) ∧ ((∀ x ∈ l, x.dst ≠ some t) → look (outs l T env) t = look env t)
 | [], [], env, _, _, t => ⟨by simp, fun _ => rfl⟩
 | x :: l, v :: T, env, hl, hnd, t => by
  have hnd' : (l.filterMap (·.dst)).Nodup := by
   simp only [List.filterMap_cons] at hnd
   split at hnd
   ·exact hnd
   ·exact (List.nodup_cons.1 hnd).2
  obtain ⟨h1, h2⟩ := c8d l T (put x.dst v env) (by simpa using hl) hnd' t
  constructor
  ·intro i y hy hd
   cases i with
   | zero =>
    simp at hy
    subst hy
    simp only [outs]
    rw [h2 fun z hz hzd => by
     simp only [List.filterMap_cons, hd] at hnd
     exact (List.nodup_cons.1 hnd).1 (List.mem_filterMap.2 ⟨z, hz, hzd⟩), b6j, if_pos hd]
    rfl
   | succ i =>
    simp only [outs]
    rw [h1 i y (by simpa using hy) hd]
    simp
  ·intro hno
   simp only [outs]
   rw [h2 fun z hz => hno z (by simp [hz]), b6j, if_neg (hno x (by simp))]
 | [], _ :: _, _, hl, _, _ => by simp at hl
 | _ :: _, [], _, hl, _, _ => by simp at hl
theorem c6j {α β : Type} : ∀ (l : List α) (f : α → Option β), (l.filterMap f).Nodup → ∀ {a b : Nat} {x y : α} {t : β}, a < b → l[a]? = some x → l[b]? = some y → f x = some t → f y = some t → False
 | [], f, _, a, b, x, y, t, _, hx, _, _, _ => by simp at hx
 | z :: l, f, hnd, a, b + 1, x, y, t, hab, hx, hy, fx, fy => by
  cases a with
  | zero =>
   simp at hx hy
   subst hx
   simp only [List.filterMap_cons, fx] at hnd
   exact (List.nodup_cons.1 hnd).1 (List.mem_filterMap.2 ⟨y, List.mem_of_getElem? hy, fy⟩)
  | succ a =>
   have hnd' : (l.filterMap f).Nodup := by
    simp only [List.filterMap_cons] at hnd
    split at hnd
    ·exact hnd
    ·exact (List.nodup_cons.1 hnd).2
   exact c6j l f hnd' (Nat.lt_of_succ_lt_succ hab) (by simpa using hx) (by simpa using hy) fx fy
 | _ :: _, _, _, _, 0, _, _, _, hab, _, _, _, _ => by omega
section
variable {x : Cx} {todo : List AItem} {R : AV → Heap → Prop} {env : Env} {H : Heap}
theorem Safe.rawJ {k : List AItem} {l : List AIns} {id : Nat} {ops : Array Oper} (e : Abs.stl 40 k = .code (.raw id ops true) :: todo) {mu : Nat → Nat → Bool} (g1 : a5K x.P mu x.nt id ops 0 ops.toList = some l) (g2 : (x.P.follows .mixedOrders && b3k 0 ops.toList) = true)
  (J : (Nat → Bool) → Env → Heap → Prop) (h0 : J (fun _ => false) env H)
  (hstep : ∀ (lst : Nat → Bool) (i : Nat) (o : Oper) (x' : AIns), ops[i]? = some o → l[i]? = some x' → lst i = false → (∀ e ∈ o.after, Region.binds .any e = true → lst e.on = true) → ∀ env H, J lst env H → aops x.P x.n0 [x'] (J fun j => lst j || j == i) env H)
  (hQ : ∀ lst : Nat → Bool, (∀ j, j < l.length → lst j = true) → ∀ env H, J lst env H → Safe x todo env H R) : Safe x k env H R := by
 refine Safe.stl 40 k ?_
 rw [e]
 intro φ w tmps b k cs hg hn hb hk ht hsz hok he
 obtain ⟨i, k', rfl, h1, h2⟩ := a0j ht
 obtain ⟨c, rfl, h1⟩ := a0m h1
 obtain rfl := d0q h1
 have g3 := g2
 simp only [Bool.and_eq_true] at g3
 have hx0 := a5X (· < x.n0) φ H w (w.drawn + 1)
 have hxA := a5X All φ H w (w.drawn + 1)
 have hll : ops.size = l.length := by have := (a6F _ _ _ g1).1; simpa using this.symm
 have hw := e5A (P := x.P) (nt := x.nt) (n0 := x.n0) g1 g3.2 (E0 := ⟨φ, H, { w with drawn := w.drawn + 1 }⟩) J
  (fun lst i o x' ho hx' hi haf env H hj => hstep lst i o x' ho hx' hi haf env H hj)
  (Q := fun e a w' => e = .normal ∧ Kc x.n0 x.nt ⟨φ, H, { w with drawn := w.drawn + 1 }⟩ (fun env' H' => Safe x todo env' H' R) a w')
  (fun lst hlst a w' ⟨φ', env', H', r⟩ => ⟨rfl, φ', env', H', hQ lst (fun j hj => hlst j (by omega)) env' H' r.1, r.2⟩)
  ops.size (List.range ops.size) (Array.replicate ops.size false) (by simp) List.nodup_range (by
   intro i
   rw [List.mem_range]
   constructor
   ·intro hi; simp [hi]
   ·intro hi
    rcases Nat.lt_or_ge i ops.size with h' | h'
    ·exact h'
    ·simp [Array.getElem?_eq_none (show (Array.replicate ops.size false).size ≤ i by simpa using h')] at hi) (by simp) ⟨tmps, []⟩ { w with drawn := w.drawn + 1 }
  ⟨φ, env, H, by
   have : (fun j => (Array.replicate ops.size false).getD j false) = fun _ => false := by
    funext j
    rcases Nat.lt_or_ge j ops.size with h' | h'
    ·simp [h']
    ·simp [Array.getElem?_eq_none (show (Array.replicate ops.size false).size ≤ j by simpa using h')]
   rw [this]; exact h0, b6m hok, he.mono (hxA.sub fun _ _ => trivial), rfl, hsz, hn, Ext.refl _ _⟩
 obtain ⟨e, a', w', ⟨rfl, φ1, env1, H1, s1, s2, s3, s4, s5, s6, s7⟩, harr⟩ := wp_region_any g3.1 hw b k' cs
 have ha : a' = ⟨a'.tmps, []⟩ := by cases a'; simp at s4; simp [s4]
 rw [ha] at harr
 obtain ⟨v, w2, fr, r, φ', H', q1, q2, q3, q4, q5, q6, q7⟩ := s1 φ1 w' a'.tmps b k' cs hg s6 hb hk h2 s5 s2 s3
 exact ⟨v, w2, fr, r, φ', H', q1, q2, q3, q4, hx0.trans (s7.trans q5), Steps.trans harr q6, q7⟩
theorem Safe.rawT {k : List AItem} {id : Nat} {ops : Array Oper} (e : Abs.stl 40 k = .code (.raw id ops true) :: todo) {l : List AIns} {mu : Nat → Nat → Bool} (g1 : a5K x.P mu x.nt id ops 0 ops.toList = some l) (g2 : (x.P.follows .mixedOrders && b3k 0 ops.toList) = true)
  (p : Plan) (hdep : deps ops = p.dep) (hp : p.ok = true) (T : List AV) (hT : l.length = T.length) (hnd : (l.filterMap (·.dst)).Nodup) (ins : List Nat) (hins : (ins.all fun t => l.all fun x => x.dst != some t) = true) (hph : (p.ph.all fun c => decide (c < l.length)) = true)
  (Hs : Nat → Heap) (hH : Hs 0 = H) (h : d2i x.P x.n0 p T l ins env Hs 0 l) (hQ : Safe x todo (outs l T env) (Hs p.ph.length) R) : Safe x k env H R := by
 have hdl : ∀ (i : Nat) o, ops[i]? = some o → p.d i = (o.after.toList.filter (Region.binds .any)).map (·.on) := by
  intro i o ho
  unfold Plan.d
  rw [← hdep]
  simp [deps, List.getD_eq_getElem?_getD, List.getElem?_map, ho]
 have hopk : ∀ m, m < p.ph.length → ∀ m', m' < m → p.ph.getD m' 0 ∈ ups p.d p.n (p.d (p.ph.getD m 0)) ∧ p.ph.getD m 0 ≠ p.ph.getD m' 0 := by
  intro m hm m' hm'
  unfold Plan.ok at hp
  simp only [List.all_eq_true, List.mem_range] at hp
  have := hp m hm m' (by omega)
  simp at this
  rcases this with h | h
  ·omega
  ·simpa using h
 refine Safe.rawJ e g1 g2
  (fun lst env' H' => (∀ i, lst i = true → ∀ j ∈ p.d i, lst j = true) ∧ (∀ t, (∀ (i : Nat) x, l[i]? = some x → x.dst = some t → lst i = true → look env' t = T.getD i .top) ∧ ((∀ (i : Nat) x, l[i]? = some x → x.dst = some t → lst i = false) → look env' t = look env t)) ∧
   ∃ k, k ≤ p.ph.length ∧ H' = Hs k ∧ ∀ m, m < p.ph.length → (lst (p.ph.getD m 0) = true ↔ m < k))
  ⟨fun i h => (Bool.noConfusion h), fun t => ⟨fun i x _ _ h => (Bool.noConfusion h), fun _ => rfl⟩, 0, Nat.zero_le _, hH.symm, fun m _ => by simp⟩ ?_ ?_
 ·rintro lst i o x' ho hx' hi haf env' H' ⟨j1, j2, k, hk, rfl, j3⟩
  have hdi := hdl i o ho
  have hdone : ∀ j ∈ p.d i, lst j = true := by
   intro j hj
   rw [hdi, List.mem_map] at hj
   obtain ⟨e, he, rfl⟩ := hj
   simp at he
   exact haf e (by simpa using he.1) he.2
  have hmay : p.may i k = true := by
   unfold Plan.may
   simp only [List.all_eq_true, List.mem_range]
   intro m hm
   simp only [Bool.and_eq_true, Bool.or_eq_true, Bool.not_eq_true', decide_eq_true_eq]
   constructor
   ·by_cases hc : i ∈ ups p.d p.n [p.ph.getD m 0]
    ·right
     apply Nat.le_of_not_lt
     intro hlt
     have := b9W j1 p.n [p.ph.getD m 0] (fun a ha => by rw [List.mem_singleton.1 ha]; exact (j3 m hm).2 hlt) i hc
     rw [hi] at this; cases this
    ·left; simpa using hc
   ·by_cases hc : p.ph.getD m 0 ∈ ups p.d p.n (p.d i)
    ·right
     exact (j3 m hm).1 (b9W j1 p.n _ hdone _ hc)
    ·left; simpa using hc
  have hadd : ∀ j, (lst j || j == i) = true ↔ (lst j = true ∨ j = i) := by intro j; simp
  refine c4b l 0 h i x' hx' k hk (by simpa using hmay) env' (d6i _ fun j hj t ht => ?_) (e0P _ fun t ht => ?_) _ ⟨?_, ?_, ?_⟩
  ·rw [Nat.zero_add] at hj
   have hj' := hdone j hj
   cases hlj : l[j]? with
   | none => rw [hlj] at ht; cases ht
   | some y =>
    rw [hlj] at ht
    exact (j2 t).1 j y hlj (by simpa using ht) hj'
  ·refine (j2 t).2 fun i' y hy hyd => ?_
   simp only [List.all_eq_true] at hins
   have := hins t ht y (List.mem_of_getElem? hy)
   simp [hyd] at this
  ·intro a ha j hj
   rw [hadd] at ha ⊢
   rcases ha with ha | rfl
   ·exact .inl (j1 a ha j hj)
   ·exact .inl (hdone j hj)
  ·intro t
   rw [Nat.zero_add]
   constructor
   ·intro a y hy hyd ha
    rw [hadd] at ha
    rw [b6j]
    split
    ·rename_i hd
     have hai : a = i := by
      have hnd2 := hnd
      rcases Nat.lt_trichotomy a i with hlt | rfl | hlt
      ·exfalso
       exact c6j l (·.dst) hnd hlt hy hx' hyd hd
      ·rfl
      ·exfalso
       exact c6j l (·.dst) hnd hlt hx' hy hd hyd
     rw [hai]
    ·rename_i hd
     rcases ha with ha | rfl
     ·exact (j2 t).1 a y hy hyd ha
     ·rw [hx'] at hy; cases hy; exact absurd hyd hd
   ·intro hno
    rw [b6j]
    have hd : x'.dst ≠ some t := fun hd => by
     have := hno i x' hx' hd
     simp at this
    rw [if_neg hd]
    exact (j2 t).2 fun a y hy hyd => by
     have := hno a y hy hyd
     simp at this
     exact this.1
  ·rw [Nat.zero_add]
   unfold Plan.nx
   by_cases hin : i ∈ p.ph
   ·obtain ⟨m, hm, hmi⟩ := List.mem_iff_getElem.1 hin
    have hgm : p.ph.getD m 0 = i := by simp [List.getD_eq_getElem?_getD, hm, hmi]
    have hkm : k ≤ m := Nat.le_of_not_lt fun hlt => by
     have := (j3 m hm).2 hlt
     rw [hgm, hi] at this; cases this
    have hkm2 : k = m := by
     rcases Nat.lt_or_ge k m with hlt | hge
     ·exfalso
      have h1 := hopk m hm k hlt
      have h2 := b9W j1 p.n _ hdone _ (by rw [← hgm]; exact h1.1)
      have := (j3 k (by omega)).1 h2
      omega
     ·omega
    subst hkm2
    refine ⟨k + 1, hm, by simp [hin], fun m' hm' => ?_⟩
    rw [hadd]
    constructor
    ·rintro (h1 | h1)
     ·have := (j3 m' hm').1 h1; omega
     ·apply Nat.lt_succ_of_le
      apply Nat.le_of_not_lt
      intro hlt
      exact (hopk m' hm' k hlt).2 (by rw [h1, hgm])
    ·intro h1
     rcases Nat.lt_or_ge m' k with h2 | h2
     ·exact .inl ((j3 m' hm').2 h2)
     ·right
      have : m' = k := by omega
      rw [this, hgm]
   ·refine ⟨k, hk, by simp [hin], fun m' hm' => ?_⟩
    rw [hadd, ← j3 m' hm']
    constructor
    ·rintro (h1 | h1)
     ·exact h1
     ·exfalso
      apply hin
      rw [← h1]
      simp [List.getD_eq_getElem?_getD, hm']
    ·exact .inl
 ·rintro lst hlst env' H' ⟨j1, j2, k, hk, rfl, j3⟩
  have hkk : k = p.ph.length := by
   rcases Nat.lt_or_ge k p.ph.length with hlt | hge
   ·exfalso
    have hc : p.ph.getD k 0 < l.length := by
     simp only [List.all_eq_true, decide_eq_true_eq] at hph
     exact hph _ (by simp [List.getD_eq_getElem?_getD, hlt])
    have := (j3 k hlt).1 (hlst _ hc)
    omega
   ·omega
  subst hkk
  refine Safe.weaken (fun t => .inl ?_) hQ
  obtain ⟨o1, o2⟩ := c8d l T env hT hnd t
  by_cases hex : ∃ (i : Nat) (y : AIns), l[i]? = some y ∧ y.dst = some t
  ·obtain ⟨i, y, hy, hyd⟩ := hex
   rw [o1 i y hy hyd]
   exact ((j2 t).1 i y hy hyd (hlst i (by
    rcases Nat.lt_or_ge i l.length with h' | h'
    ·exact h'
    ·rw [List.getElem?_eq_none h'] at hy; cases hy))).symm
  ·rw [o2 fun y hy hyd => by
    obtain ⟨i, hi⟩ := List.getElem?_of_mem hy
    exact hex ⟨i, y, hi, hyd⟩]
   exact ((j2 t).2 fun i y hy hyd => absurd ⟨i, y, hy, hyd⟩ hex).symm
end
end Go.Abs
namespace Go.Abs
open Go.Proofs
noncomputable abbrev Pr : Program := Tryz.prog
abbrev a5Q : FuncId := 4
abbrev a5R : FuncId := 8
abbrev b1w : FuncId := 10
abbrev a5S : FuncId := 12
abbrev a1M : FuncId := 13
abbrev b8f : FuncId := 15
abbrev a0T : FuncId := 25
abbrev b1t : FuncId := 26
abbrev a6W : FuncId := 29
abbrev a1e : FuncId := 30
abbrev a0s : FuncId := 31
abbrev a6U : FuncId := 32
abbrev a0G : FuncId := 33
abbrev a6V : FuncId := 35
abbrev a4C : FuncId := 36
abbrev b8d : FuncId := 44
abbrev b3o : FuncId := 45
abbrev a2t : FuncId := 48
abbrev a1g : FuncId := 49
abbrev a1L : FuncId := 50
abbrev a0x : FuncId := 54
abbrev a8J : FuncId := 55
abbrev a1F : FuncId := 56
abbrev a5Y : FuncId := 57
abbrev a3T : FuncId := 58
abbrev b1s : FuncId := 59
abbrev b5g : FuncId := 62
abbrev a7V : FuncId := 64
abbrev a5Z : FuncId := 65
abbrev a5N : FuncId := 67
abbrev a9S : FuncId := 79
abbrev a9J : FuncId := 80
abbrev a8D : FuncId := 81
abbrev a1i : FuncId := 84
abbrev a8E : FuncId := 85
abbrev a3b : FuncId := 86
abbrev a0F : FuncId := 87
abbrev a0P : FuncId := 92
abbrev a5O : FuncId := 93
abbrev a3I : FuncId := 94
abbrev a4b : FuncId := 95
abbrev a3S : FuncId := 96
abbrev a2u : FuncId := 97
abbrev b0w : FuncId := 98
abbrev a3C : FuncId := 99
abbrev a5a : FuncId := 100
abbrev a1n : FuncId := 101
abbrev a5P : FuncId := 102
abbrev a3R : FuncId := 105
abbrev a7W : FuncId := 106
abbrev c7c : FuncId := 108
abbrev a1m : FuncId := 109
abbrev a8I : FuncId := 110
abbrev b0v : FuncId := 111
abbrev c3B : FuncId := 112
abbrev a8H : FuncId := 113
abbrev a1h : FuncId := 121
abbrev a4B : FuncId := 122
abbrev b3l : FuncId := 123
abbrev a0H : FuncId := 124
abbrev a2l : FuncId := 125
abbrev a2N : FuncId := 127
abbrev b3C : FuncId := 137
abbrev b3B : FuncId := 138
abbrev a8G : FuncId := 139
abbrev a9K : FuncId := 140
abbrev b5f : FuncId := 141
abbrev a0u : FuncId := 142
abbrev b0u : FuncId := 143
abbrev b8c : FuncId := 151
abbrev b3n : FuncId := 152
abbrev a8F : FuncId := 153
abbrev b8e : FuncId := 160
abbrev b1v : FuncId := 161
abbrev b3m : FuncId := 162
abbrev c3E : FuncId := 163
abbrev b0t : FuncId := 164
abbrev a9I : FuncId := 165
abbrev b5e : FuncId := 179
abbrev c3D : FuncId := 180
abbrev b8b : FuncId := 181
abbrev c3C : FuncId := 182
abbrev a1K : FuncId := 188
abbrev b6Q : FuncId := 189
abbrev b1u : FuncId := 190
abbrev b6P : FuncId := 191
def c7C : ByteArray := ⟨#[0, 1, 2, 2, 3, 3, 3, 3, 4, 4, 4, 4, 4, 4, 4, 4, 5, 5, 5, 5, 5, 5, 5, 5, 5, 5, 5, 5, 5, 5, 5, 5, 6, 6, 6, 6, 6, 6, 6, 6, 6, 6, 6, 6, 6, 6, 6, 6, 6, 6, 6, 6, 6, 6, 6, 6, 6, 6, 6, 6, 6, 6, 6, 6, 7, 7, 7, 7, 7, 7, 7, 7, 7, 7, 7, 7, 7, 7, 7, 7, 7, 7, 7, 7, 7, 7, 7, 7, 7, 7, 7, 7, 7, 7, 7, 7, 7, 7, 7, 7, 7, 7, 7, 7, 7, 7, 7, 7, 7, 7, 7, 7, 7, 7, 7, 7, 7, 7, 7, 7, 7, 7, 7, 7, 7, 7, 7, 7, 8, 8, 8, 8, 8, 8, 8, 8, 8, 8, 8, 8, 8, 8, 8, 8, 8, 8, 8, 8, 8, 8, 8, 8, 8, 8, 8, 8, 8, 8, 8, 8, 8, 8, 8, 8, 8, 8, 8, 8, 8, 8, 8, 8, 8, 8, 8, 8, 8, 8, 8, 8, 8, 8, 8, 8, 8, 8, 8, 8, 8, 8, 8, 8, 8, 8, 8, 8, 8, 8, 8, 8, 8, 8, 8, 8, 8, 8, 8, 8, 8, 8, 8, 8, 8, 8, 8, 8, 8, 8, 8, 8, 8, 8, 8, 8, 8, 8, 8, 8, 8, 8, 8, 8, 8, 8, 8, 8, 8, 8, 8, 8, 8, 8, 8, 8, 8, 8, 8, 8, 8, 8, 8, 8, 8, 8, 8, 8]⟩
end Go.Abs

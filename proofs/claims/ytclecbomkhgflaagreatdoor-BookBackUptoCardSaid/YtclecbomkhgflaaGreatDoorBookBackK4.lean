/- Part 4 of the proof of BookBack: A29, A30, Num. -/
import Derived.Test.YtclecbomkhgflaaGreatDoorBookBackK3
import Derived.Test.YtclecbomkhgflaaGreatDoorProg
set_option linter.unusedVariables false
set_option linter.unusedSimpArgs false
namespace Go.Abs
def Stab (T : (Nat → Option Nat) → World → Prop) (n : Nat) : Prop := ∀ (φ : Nat → Option Nat) (H : Heap) (w : World) (φ' : Nat → Option Nat) (H' : Heap) (w' : World), n ≤ H.length → HOk ⟨φ, H, w⟩ → T φ w → Ext (· < n) ⟨φ, H, w⟩ ⟨φ', H', w'⟩ → T φ' w'
def a0g (T : (Nat → Option Nat) → World → Prop) (E0 : Emb) (x : Cx) (todo : List AItem) (env : Env) (H : Heap) (R : AV → Heap → Prop) : Prop :=
 ∀ (φ : Nat → Option Nat) (w : World) (tmps : Array Value) (b : Frame) (k : List Item) (cs : List Frame), x.Good → x.n0 ≤ H.length → b.fn = x.f → b.kind = .normal → a1C x todo k → tmps.size = x.nt →
  HOk ⟨φ, H, w⟩ → a0r ⟨φ, H, w⟩ env tmps → T φ w → Ext (· < E0.H.length) E0 ⟨φ, H, w⟩ → Stab T x.n0 → E0.H.length ≤ x.n0 →
  ∃ v w' fr r φ' H', R r H' ∧ HOk ⟨φ', H', w'⟩ ∧ Rep ⟨φ', H', w'⟩ v r ∧ E0.H.length ≤ H'.length ∧ Ext (· < E0.H.length) E0 ⟨φ', H', w'⟩ ∧
   Steps x.P (lone (b.at ⟨tmps, []⟩ k) cs w) (lone fr cs w') ∧ fr.fn = x.f ∧ fr.leaving x.P w' (.returned v)
variable {T : (Nat → Option Nat) → World → Prop} {E0 : Emb}
section
variable {x : Cx} {todo : List AItem} {env : Env} {H : Heap} {R : AV → Heap → Prop}
theorem a0g.one {todo' : List AItem} (hs : ∀ k, a1C x todo k → ∃ k', a1C x todo' k' ∧ ∀ (b : Frame) (tmps : Array Value) (cs : List Frame) (w : World), step x.P (lone (b.at ⟨tmps, []⟩ k) cs w) = .next (lone (b.at ⟨tmps, []⟩ k') cs w))
  (h : a0g T E0 x todo' env H R) : a0g T E0 x todo env H R := by
 intro φ w tmps b k cs hg hn hb hk ht hsz hok he hT hE hS hm
 obtain ⟨k', ht', hst⟩ := hs k ht
 obtain ⟨v, w', fr, r, φ', H', q1, q2, q3, q4, q5, q6, q7⟩ := h φ w tmps b k' cs hg hn hb hk ht' hsz hok he hT hE hS hm
 exact ⟨v, w', fr, r, φ', H', q1, q2, q3, q4, q5, .head (hst b tmps cs w) q6, q7⟩
theorem a0g.skip (h : a0g T E0 x todo env H R) : a0g T E0 x (.code .skip :: todo) env H R := by
 refine a0g.one (fun k hk => ?_) h
 obtain ⟨b, k', rfl, h1, h2⟩ := a0j hk
 obtain ⟨c, rfl, h1⟩ := a0m h1
 obtain rfl := c8l h1
 exact ⟨k', h2, fun _ _ _ _ => step_skip⟩
theorem a0g.label {l : Nat} (h : a0g T E0 x todo env H R) : a0g T E0 x (.code (.label l) :: todo) env H R := by
 refine a0g.one (fun k hk => ?_) h
 obtain ⟨b, k', rfl, h1, h2⟩ := a0j hk
 obtain ⟨c, rfl, h1⟩ := a0m h1
 obtain rfl := c4C h1
 exact ⟨k', h2, fun _ _ _ _ => step_label⟩
theorem a0g.goto {l : Nat} {todo' : List AItem} (he : c1w l todo = some todo') (h : a0g T E0 x todo' env H R) : a0g T E0 x (.code (.goto l) :: todo) env H R := by
 refine a0g.one (fun k hk => ?_) h
 obtain ⟨i, k', rfl, h1, h2⟩ := a0j hk
 obtain ⟨c, rfl, h1⟩ := a0m h1
 obtain rfl := c8o h1
 obtain ⟨k2, g1, g2⟩ := a8H h2 he
 exact ⟨k2, g2, fun _ _ _ _ => c2G g1⟩
theorem a0g.scope {a : ACode} (h : a0g T E0 x (.code a :: .inScope a :: todo) env H R) : a0g T E0 x (.code (.scope a) :: todo) env H R := by
 refine a0g.one (fun k hk => ?_) h
 obtain ⟨i, k', rfl, h1, h2⟩ := a0j hk
 obtain ⟨c, rfl, h1⟩ := a0m h1
 obtain ⟨a', rfl, g1⟩ := c4A h1
 exact ⟨.code a' :: .inScope a' :: k', ⟨g1, g1, h2⟩, fun _ _ _ _ => b8b⟩
theorem a0g.inScope {a : ACode} (h : a0g T E0 x todo env H R) : a0g T E0 x (.inScope a :: todo) env H R := by
 refine a0g.one (fun k hk => ?_) h
 obtain ⟨i, k', rfl, h1, h2⟩ := a0j hk
 obtain ⟨a', rfl, h1⟩ := b0g h1
 exact ⟨k', h2, fun _ _ _ _ => b2H⟩
theorem a0g.seq {a b : ACode} (h : a0g T E0 x (.code a :: .code b :: todo) env H R) : a0g T E0 x (.code (.seq a b) :: todo) env H R := by
 refine a0g.one (fun k hk => ?_) h
 obtain ⟨i, k', rfl, h1, h2⟩ := a0j hk
 obtain ⟨c, rfl, h1⟩ := a0m h1
 obtain ⟨a', b', rfl, g1, g2⟩ := d2v h1
 exact ⟨.code a' :: .code b' :: k', ⟨g1, g2, h2⟩, fun _ _ _ _ => step_seq⟩
theorem a0g.block {id : Nat} {a : ACode} (h : a0g T E0 x (.code a :: .inBlock id :: todo) env H R) : a0g T E0 x (.code (.block id a) :: todo) env H R := by
 refine a0g.one (fun k hk => ?_) h
 obtain ⟨i, k', rfl, h1, h2⟩ := a0j hk
 obtain ⟨c, rfl, h1⟩ := a0m h1
 obtain ⟨a', rfl, g1⟩ := c4D h1
 exact ⟨.code a' :: .inBlock id :: k', ⟨g1, rfl, h2⟩, fun _ _ _ _ => step_block⟩
theorem a0g.inBlock {id : Nat} (h : a0g T E0 x todo env H R) : a0g T E0 x (.inBlock id :: todo) env H R := by
 refine a0g.one (fun k hk => ?_) h
 obtain ⟨i, k', rfl, h1, h2⟩ := a0j hk
 obtain rfl := b0J h1
 exact ⟨k', h2, fun _ _ _ _ => step_inBlock⟩
theorem a0g.loop {a : ACode} (h : a0g T E0 x (.inLoop a :: todo) env H R) : a0g T E0 x (.code (.loop a) :: todo) env H R := by
 intro φ w tmps b k cs hg hn hb hk ht hsz hok he hT hE hS hm
 obtain ⟨i, k', rfl, h1, h2⟩ := a0j ht
 obtain ⟨c, rfl, h1⟩ := a0m h1
 obtain ⟨a', rfl, g1⟩ := c8n h1
 obtain ⟨v, w', fr, r, φ', H', q1, q2, q3, q4, q5, q6, q7⟩ := h φ w tmps b (.inLoop a' :: k') cs hg hn hb hk ⟨g1, h2⟩ hsz hok he hT hE hS hm
 refine ⟨v, w', fr, r, φ', H', q1, q2, q3, q4, q5, ?_, q7⟩
 -- both begin with the same state behind one step
 obtain ⟨n, hn'⟩ := q6
 cases n with
 | zero =>
  simp only [runN] at hn'
  cases hn'
  exfalso
  obtain ⟨_, hl⟩ := q7
  simp [Frame.leaving, Frame.at] at hl
 | succ n =>
  simp only [runN, step_inLoop] at hn'
  exact .head step_loop ⟨n, hn'⟩
theorem a0g.inLoop {a : ACode} (h : a0g T E0 x (.code a :: .inLoop a :: todo) env H R) : a0g T E0 x (.inLoop a :: todo) env H R := by
 refine a0g.one (fun k hk => ?_) h
 obtain ⟨i, k', rfl, h1, h2⟩ := a0j hk
 obtain ⟨a', rfl, h1⟩ := b3C h1
 exact ⟨.code a' :: .inLoop a' :: k', ⟨h1, h1, h2⟩, fun _ _ _ _ => step_inLoop⟩
theorem a0g.cond {s : Src} {a b : ACode} (h : c1m (s.ev env) fun c => if c then a0g T E0 x (.code a :: todo) env H R else a0g T E0 x (.code b :: todo) env H R) : a0g T E0 x (.code (.cond s a b) :: todo) env H R := by
 intro φ w tmps bf k cs hg hn hb hk ht hsz hok he hT hE hS hm
 obtain ⟨i, k', rfl, h1, h2⟩ := a0j ht
 obtain ⟨c, rfl, h1⟩ := a0m h1
 obtain ⟨o, a', b', rfl, g0, g1, g2⟩ := c8q h1
 simp only [c1m] at h
 split at h
 ·rename_i c hc
  have hr := a0n he g0
  rw [hc] at hr
  have hv := a1Q hr
  cases c
  ·simp only [Bool.false_eq_true, if_false] at h
   obtain ⟨v, w', fr, r, φ', H', q1, q2, q3, q4, q5, q6, q7⟩ := h φ w tmps bf (.code b' :: k') cs hg hn hb hk ⟨g2, h2⟩ hsz hok he hT hE hS hm
   exact ⟨v, w', fr, r, φ', H', q1, q2, q3, q4, q5, .head (step_cond hv) (by simpa using q6), q7⟩
  ·simp only [if_true] at h
   obtain ⟨v, w', fr, r, φ', H', q1, q2, q3, q4, q5, q6, q7⟩ := h φ w tmps bf (.code a' :: k') cs hg hn hb hk ⟨g1, h2⟩ hsz hok he hT hE hS hm
   exact ⟨v, w', fr, r, φ', H', q1, q2, q3, q4, q5, .head (step_cond hv) (by simpa using q6), q7⟩
 ·exact h.elim
theorem a0g.exit {id : Nat} {todo' : List AItem} (he : c1x id todo = some todo') (h : a0g T E0 x todo' env H R) : a0g T E0 x (.code (.exit id) :: todo) env H R := by
 refine a0g.one (fun k hk => ?_) h
 obtain ⟨i, k', rfl, h1, h2⟩ := a0j hk
 obtain ⟨c, rfl, h1⟩ := a0m h1
 obtain rfl := c8p h1
 obtain ⟨k2, g1, g2⟩ := a8I h2 he
 exact ⟨k2, g2, fun _ _ _ _ => step_exit g1⟩
theorem a0g.region {l : List AIns} (h : aops x.P x.n0 l (fun env' H' => a0g T E0 x todo env' H' R) env H) : a0g T E0 x (.code (.region l false) :: todo) env H R := by
 intro φ w tmps b k cs hg hn hb hk ht hsz hok he hT hE hS hm
 obtain ⟨i, k', rfl, h1, h2⟩ := a0j ht
 obtain ⟨c, rfl, h1⟩ := a0m h1
 obtain ⟨id, ops, rfl, g1, _⟩ := a5R h1
 have hw := a8f (P := x.P) (nt := x.nt) (rid := id) (ops := ops) (n0 := x.n0) (K := fun env' H' => a0g T E0 x todo env' H' R) (E0 := ⟨φ, H, w⟩)
  (Q := fun e a w' => e = .normal ∧ Kc x.n0 x.nt ⟨φ, H, w⟩ (fun env' H' => a0g T E0 x todo env' H' R) a w') (fun a w h => ⟨rfl, h⟩) ops.toList 0 l g1 ⟨φ, H, w⟩ env tmps hsz hok he hn (Ext.refl _ _) h
 obtain ⟨e, a', w', ⟨rfl, φ1, env1, H1, s1, s2, s3, s4, s5, s6, s7⟩, harr⟩ := wp_region_list hw b k' cs
 have ha : a' = ⟨a'.tmps, []⟩ := by cases a'; simp at s4; simp [s4]
 rw [ha] at harr
 obtain ⟨v, w2, fr, r, φ', H', q1, q2, q3, q4, q5, q6, q7⟩ := s1 φ1 w' a'.tmps b k' cs hg s6 hb hk h2 s5 s2 s3 (hS _ _ _ _ _ _ hn hok hT s7) (hE.trans (s7.sub fun i hi => Nat.lt_of_lt_of_le hi hm)) hS hm
 exact ⟨v, w2, fr, r, φ', H', q1, q2, q3, q4, q5, Steps.trans harr q6, q7⟩
end
theorem a0g.weaken {x : Cx} {todo : List AItem} {env env' : Env} {H : Heap} {R : AV → Heap → Prop} (he : ∀ t, look env' t = look env t ∨ look env' t = .top) (h : a0g T E0 x todo env' H R) : a0g T E0 x todo env H R := by
 intro φ w tmps b k cs hg hn hb hk ht hsz hok hr hT hE hS hm
 refine h φ w tmps b k cs hg hn hb hk ht hsz hok (fun t => ?_) hT hE hS hm
 rcases he t with e | e
 ·rw [e]; exact hr t
 ·rw [e]; exact .top _
theorem a0g.keep (ts : List Nat) {x : Cx} {todo : List AItem} {env : Env} {H : Heap} {R : AV → Heap → Prop} (h : a0g T E0 x todo (keep env ts) H R) : a0g T E0 x todo env H R := a0g.weaken (c4q env ts) h
theorem a0g.mono {x : Cx} {todo : List AItem} {env : Env} {H : Heap} {R R' : AV → Heap → Prop} (h : a0g T E0 x todo env H R) (hr : ∀ r H', R r H' → R' r H') : a0g T E0 x todo env H R' := by
 intro φ w tmps b k cs hg hn hb hk ht hsz hok he hT hE hS hm
 obtain ⟨v, w', fr, r, φ', H', q1, q⟩ := h φ w tmps b k cs hg hn hb hk ht hsz hok he hT hE hS hm
 exact ⟨v, w', fr, r, φ', H', hr _ _ q1, q⟩
section
variable {x : Cx} {todo : List AItem} {env : Env} {H : Heap} {R : AV → Heap → Prop}
theorem a0g.fin (hr : ∀ (k : List Item), a1C x todo k → k = [] ∨ ∃ k', k = .code .ret :: k') {aXs : List AV} (h1 : resL env H x.rs = some aXs) (h : R (b4u aXs) H) : a0g T E0 x todo env H R := by
 intro φ w tmps b k cs hg hn hb hk ht hsz hok he hT hE hS hm
 obtain ⟨fn, hf, hc⟩ := hg
 obtain ⟨v, q1, q2⟩ := b6D (E := ⟨φ, H, w⟩) hok he hc h1
 rcases hr k ht with rfl | ⟨k', rfl⟩
 ·exact ⟨v, w, _, b4u aXs, φ, H, h, hok, q2, Nat.le_trans hm hn, hE, .one step_end, hb, rfl, rfl, hk, fn, hb ▸ hf, q1⟩
 ·exact ⟨v, w, _, b4u aXs, φ, H, h, hok, q2, Nat.le_trans hm hn, hE, .one step_ret, hb, rfl, rfl, hk, fn, hb ▸ hf, q1⟩
theorem a0g.ret {aXs : List AV} (h1 : resL env H x.rs = some aXs) (h : R (b4u aXs) H) : a0g T E0 x (.code .ret :: todo) env H R := by
 refine a0g.fin (fun k hk => ?_) h1 h
 obtain ⟨i, k', rfl, g1, g2⟩ := a0j hk
 obtain ⟨c, rfl, g1⟩ := a0m g1
 obtain rfl := d8J g1
 exact .inr ⟨k', rfl⟩
end
theorem a0g.retn {x : Cx} {todo : List AItem} {env : Env} {H : Heap} {R : AV → Heap → Prop} (h : gret (resL env H x.rs) fun r => R r H) : a0g T E0 x (.code .ret :: todo) env H R := by
 unfold gret at h
 split at h
 ·rename_i aXs ha; exact a0g.ret ha h
 ·exact h.elim
section
variable {x : Cx} {todo : List AItem} {R : AV → Heap → Prop} {l : ACode}
theorem a0g.stl {env : Env} {H : Heap} : ∀ (n : Nat) (k : List AItem), a0g T E0 x (stl n k) env H R → a0g T E0 x k env H R := by
 intro n
 induction n with
 | zero => intro k h; cases k <;> exact h
 | succ n ih =>
  intro k h
  unfold Abs.stl at h
  split at h
  ·rename_i h0; cases h0
  ·rename_i h0; cases h0; exact a0g.seq (ih _ h)
  ·rename_i h0; cases h0; exact a0g.skip (ih _ h)
  ·rename_i h0; cases h0; exact a0g.block (ih _ h)
  ·rename_i h0; cases h0; exact a0g.inBlock (ih _ h)
  ·rename_i h0; cases h0; exact a0g.scope (ih _ h)
  ·rename_i h0; cases h0; exact a0g.inScope (ih _ h)
  ·rename_i h0; cases h0
   split at h
   ·rename_i he; exact a0g.exit he (ih _ h)
   ·exact h
  ·rename_i h0; cases h0; exact a0g.label (ih _ h)
  ·rename_i h0; cases h0
   split at h
   ·rename_i he; exact a0g.goto he (ih _ h)
   ·exact h
  ·exact h
theorem a0g.rg {env : Env} {H : Heap} {k k' : List AItem} {l : List AIns} (e : Abs.stl 40 k = .code (.region l false) :: k')
  (h : aops x.P x.n0 l (fun env' H' => a0g T E0 x k' env' H' R) env H) : a0g T E0 x k env H R := by
 refine a0g.stl 40 k ?_
 rw [e]
 exact a0g.region h
theorem a0g.cd {env : Env} {H : Heap} {k k' : List AItem} {s : Src} {a b : ACode} (e : Abs.stl 40 k = .code (.cond s a b) :: k')
  (h : c1m (s.ev env) fun c => if c then a0g T E0 x (.code a :: k') env H R else a0g T E0 x (.code b :: k') env H R) : a0g T E0 x k env H R := by
 refine a0g.stl 40 k ?_
 rw [e]
 exact a0g.cond h
theorem a0g.lp {env : Env} {H : Heap} {k k' : List AItem} {a : ACode} (e : Abs.stl 40 k = .code (.loop a) :: k') (h : a0g T E0 x (.inLoop a :: k') env H R) : a0g T E0 x k env H R := by
 refine a0g.stl 40 k ?_
 rw [e]
 exact a0g.loop h
theorem a0g.rt {env : Env} {H : Heap} {k k' : List AItem} (e : Abs.stl 40 k = .code .ret :: k') (h : gret (resL env H x.rs) fun r => R r H) : a0g T E0 x k env H R := by
 refine a0g.stl 40 k ?_
 rw [e]
 exact a0g.retn h
theorem a0g.loopP (n : Nat) (E : Nat → Env) (G : Nat → Heap) (P : Nat → Prop) {env : Env} {H : Heap} (he : env = E 0) (hG : H = G 0) (h0 : P 0)
  (step : ∀ i, i < n → P i → (P (i + 1) → a0g T E0 x (.inLoop l :: todo) (E (i + 1)) (G (i + 1)) R) → a0g T E0 x (.inLoop l :: todo) (E i) (G i) R)
  (last : P n → a0g T E0 x (.inLoop l :: todo) (E n) (G n) R) : a0g T E0 x (.inLoop l :: todo) env H R := by
 subst he; subst hG
 have key : ∀ k i, i + k = n → P i → a0g T E0 x (.inLoop l :: todo) (E i) (G i) R := by
  intro k
  induction k with
  | zero => intro i hi hp; rw [show i = n by omega] at hp ⊢; exact last hp
  | succ k ih => intro i hi hp; exact step i (by omega) hp fun hp' => ih (i + 1) (by omega) hp'
 exact key n 0 (by omega) h0
theorem a0g.loopN (n : Nat) (E : Nat → Env) (G : Nat → Heap) {env : Env} {H : Heap} (he : env = E 0) (hG : H = G 0)
  (step : ∀ i, i < n → a0g T E0 x (.inLoop l :: todo) (E (i + 1)) (G (i + 1)) R → a0g T E0 x (.inLoop l :: todo) (E i) (G i) R)
  (last : a0g T E0 x (.inLoop l :: todo) (E n) (G n) R) : a0g T E0 x (.inLoop l :: todo) env H R :=
 a0g.loopP n E G (fun _ => True) he hG trivial (fun i hi _ ih => step i hi (ih trivial)) fun _ => last
theorem a0g.loopW {α : Type} (μ : α → Nat) (E : α → Env) (G : α → Heap) (P : α → Prop) (a0 : α) {env : Env} {H : Heap} (he : env = E a0) (hG : H = G a0) (h0 : P a0)
  (step : ∀ a, P a → (∀ b, P b → μ b < μ a → a0g T E0 x (.inLoop l :: todo) (E b) (G b) R) → a0g T E0 x (.inLoop l :: todo) (E a) (G a) R) : a0g T E0 x (.inLoop l :: todo) env H R := by
 subst he; subst hG
 have key : ∀ k a, μ a ≤ k → P a → a0g T E0 x (.inLoop l :: todo) (E a) (G a) R := by
  intro k
  induction k with
  | zero => intro a ha hp; exact step a hp fun b hb hlt => absurd hlt (by omega)
  | succ k ih => intro a ha hp; exact step a hp fun b hb hlt => ih b (by omega) hb
 exact key (μ a0) a0 (Nat.le_refl _) h0
end
theorem c5I {x : Cx} {n : Nat} : ∀ {todo : List AItem} {k : List Item}, a1C x todo k → a1C ⟨x.P, x.mu, x.f, x.nt, x.rs, n⟩ todo k
 | [], [], _ => trivial
 | [], _ :: _, h => by simp [a1C] at h
 | _ :: _, [], h => by simp [a1C] at h
 | a :: todo, b :: k, h => ⟨by have := h.1; unfold a7b at this ⊢; exact this, c5I h.2⟩
section
variable {P : Program} {nt : Nat}
theorem e6e {f : FuncId} {aXs : List AV} {E : Emb} {env : Env} {tmps : Array Value} {o : Oper} {mutable : Bool} {ao : AOp} (hc : caop P mutable o.op = some ao) (hd : d2K nt o.dst = true) (hsz : tmps.size = nt)
  (he : a0r E env tmps) (hcal : a2q env ao = some (f, aXs)) (hcb : a8d P f) {Q : Exit → Act → World → Prop} {next : Act → World → Prop}
  (hcall : ∀ vs : List Value, vs.length = aXs.length → (∀ (k : Nat) v a, vs[k]? = some v → aXs[k]? = some a → Rep E v a) → Calls P f vs.toArray E.w fun e w' => ∃ v, e = .returned v ∧ next ((Act.mk tmps []).put o.dst v) w') :
  o.wp P ⟨tmps, []⟩ E.w next Q := by
 subst hsz
 have callb : ∀ (c : Call) (g : Operand) (f : FuncId) (bs caps : List Value) (aXs : List AV) (vs : List Value), o.op = .call c → c.callee = .value g → Act.eval ⟨tmps, []⟩ g = .func (.func f) bs.toArray caps.toArray →
   vs = bs ++ c.args.toList.map (Act.eval ⟨tmps, []⟩) ++ caps → vs.length = aXs.length → (∀ (k : Nat) v a, vs[k]? = some v → aXs[k]? = some a → Rep E v a) →
   a8d P f → (∀ vs : List Value, vs.length = aXs.length → (∀ (k : Nat) v a, vs[k]? = some v → aXs[k]? = some a → Rep E v a) → Calls P f vs.toArray E.w fun e w' => ∃ v, e = .returned v ∧ next ((Act.mk tmps []).put o.dst v) w') → o.wp P ⟨tmps, []⟩ E.w next Q := by
  intro c g f bs caps aXs vs ho hcal hg hvs hl hr hcb ha
  have hx := c4N (w := E.w) ho hcal hg hcb
  simp only [Oper.wp, hx, Oper.upon]
  have harr : bs.toArray ++ c.args.map (Act.eval ⟨tmps, []⟩) ++ caps.toArray = vs.toArray := by
   rw [hvs]
   apply Array.ext'
   simp
  rw [harr]
  refine (ha vs hl hr).mono ?_
  rintro e w' ⟨v, rfl, h⟩
  exact h
 unfold caop at hc
 split at hc
 ·cases hc; simp [a2q] at hcal
 ·split at hc
  ·cases hc; simp [a2q] at hcal
  ·split at hc
   ·rename_i c ho
    split at hc
    ·rename_i f' hcal'
     simp only [Option.map_eq_some_iff] at hc
     obtain ⟨ss, hs, hao⟩ := hc
     obtain ⟨hl, hr⟩ := a6a he hs
     have : (f', ss.map (·.ev env)) = (f, aXs) := by
      split at hao
      ·subst hao; simp [a2q] at hcal
      ·subst hao; simpa [a2q] using hcal
     cases this
     exact callb c (.func f) f [] [] _ _ ho hcal' rfl rfl (by simp [hl]) (by simpa using hr) hcb hcall
    ·rename_i t hcal'
     simp only [Option.map_eq_some_iff] at hc
     obtain ⟨ss, hs, hao⟩ := hc
     obtain ⟨hl, hr⟩ := a6a he hs
     have hg := he t
     have hcv : a2q env (.callv (.t t) ss) = some (f, aXs) := by
      split at hao
      ·subst hao; simp [a2q] at hcal
      ·subst hao; exact hcal
     simp only [a2q, Src.ev] at hcv
     split at hcv
     ·rename_i f2 caps hcap
      cases hcv
      rw [hcap] at hg
      generalize hgv : tmps.getD t undef = gv at hg
      cases hg with
      | fn _ vs cs hlen hrep =>
       exact callb c (.tmp t) f [] vs _ (c.args.toList.map (Act.eval ⟨tmps, []⟩) ++ vs) ho hcal' hgv (by simp) (by simp [hl, hlen]) (a3H (Q := fun u b => Rep E u b) (by simp [hl]) hr hrep) hcb hcall
      | dead v a id hr hd h1 => simp [AV.ref] at hr
     ·rename_i f2 bs hcap
      cases hcv
      rw [hcap] at hg
      generalize hgv : tmps.getD t undef = gv at hg
      cases hg with
      | bfn _ vs cs hlen hrep =>
       exact callb c (.tmp t) f vs [] _ (vs ++ c.args.toList.map (Act.eval ⟨tmps, []⟩)) ho hcal' hgv (by simp) (by simp [hl, hlen]) (a3H (Q := fun u b => Rep E u b) hlen hrep hr) hcb hcall
      | dead v a id hr hd h1 => simp [AV.ref] at hr
     ·cases hcv
    ·simp at hc
   ·rename_i x str ho
    split at hc
    ·cases hc
    ·simp only [Option.map_eq_some_iff] at hc
     obtain ⟨s, hs, rfl⟩ := hc
     simp [a2q] at hcal
   ·simp at hc
theorem d4v {mu : Nat → Nat → Bool} {rid : Nat} {ops : Array Oper} {n0 : Nat} {c : AIns} {l2 : List AIns} {Q : Exit → Act → World → Prop} {E0 : Emb} :
  ∀ (l0 : List Oper) (k : Nat) (l : List AIns), a5S P mu nt rid ops k l0 = some (l ++ c :: l2) → ∀ (E : Emb) (env : Env) (tmps : Array Value), tmps.size = nt → HOk E → a0r E env tmps → n0 ≤ E.H.length → Ext (· < n0) E0 E →
   aops P n0 l (fun env' H' => ∀ (E' : Emb) (tmps' : Array Value) (o : Oper) (rest : List Oper) (k' : Nat), E'.H = H' → HOk E' → a0r E' env' tmps' → tmps'.size = nt → n0 ≤ E'.H.length → Ext (· < n0) E0 E' →
    cins P (mu rid k') nt ops o = some c → a5S P mu nt rid ops (k' + 1) rest = some l2 → wpList P ops Q (o :: rest) ⟨tmps', []⟩ E'.w) env E.H → wpList P ops Q l0 ⟨tmps, []⟩ E.w
 | [], k, l, hl, E, env, tmps, hsz, hok, he, hn, hx, h => by
  cases l <;> simp [a5S] at hl
 | o :: l0, k, [], hl, E, env, tmps, hsz, hok, he, hn, hx, h => by
  simp only [a5S] at hl
  split at hl
  ·rename_i i' l' hi hl'
   rw [List.nil_append] at hl
   obtain ⟨rfl, rfl⟩ := List.cons.inj (Option.some.inj hl)
   simp only [aops] at h
   exact h E tmps o l0 k rfl hok he hsz hn hx hi hl'
  ·simp at hl
 | o :: l0, k, i :: l, hl, E, env, tmps, hsz, hok, he, hn, hx, h => by
  simp only [a5S] at hl
  split at hl
  ·rename_i i' l' hi hl'
   rw [List.cons_append] at hl
   obtain ⟨rfl, rfl⟩ := List.cons.inj (Option.some.inj hl)
   unfold cins at hi
   split at hi
   ·rename_i hd
    split at hi
    ·rename_i g a hg ha
     cases hi
     generalize hK : (fun env' H' => ∀ (E' : Emb) (tmps' : Array Value) (o : Oper) (rest : List Oper) (k' : Nat), E'.H = H' → HOk E' → a0r E' env' tmps' → tmps'.size = nt → n0 ≤ E'.H.length → Ext (· < n0) E0 E' →
      cins P (mu rid k') nt ops o = some c → a5S P mu nt rid ops (k' + 1) rest = some l2 → wpList P ops Q (o :: rest) ⟨tmps', []⟩ E'.w) = K at h
     have next : ∀ a w, Kc n0 nt E (aops P n0 l K) a w → wpList P ops Q l0 a w := by
      intro a w ⟨φ, env', H', q1, q2, q3, q4, q5, q6, q7⟩
      have : a = ⟨a.tmps, []⟩ := by cases a; simp at q4; simp [q4]
      rw [this]
      subst hK
      exact d4v l0 (k + 1) l hl' ⟨φ, H', w⟩ env' a.tmps q5 q2 q3 q6 (hx.trans q7) q1
     have hw := a8i (o := o) he hg
     simp only [aops] at h
     unfold wpList
     split at h
     ·simp only at hw
      rw [if_pos hw]
      exact .inl (a2t ha hd hsz hok he hn h next)
     ·rename_i t want _
      simp only at hw
      simp only [a9y] at h
      have pass : Region.wanted o (yielded ops tmps) = false → aops P n0 l K (put o.dst (.tup []) env) E.H → wpList P ops Q (o :: l0) ⟨tmps, []⟩ E.w := by
       intro hf h
       unfold wpList
       rw [if_neg (by rw [hf]; simp)]
       refine next _ _ ⟨E.φ, _, E.H, h, hok, ?_, ?_, ?_, hn, Ext.refl _ _⟩
       ·subst hsz; exact a2i he hd b2M
       ·cases o.dst <;> rfl
       ·rw [a4c]; exact hsz
      split at h
      ·rename_i c' hc
       have hw' := hw.1 c' hc
       split at h
       ·rename_i hcw
        rw [if_pos (by rw [hw', hcw]; simp)]
        exact .inl (a2t ha hd hsz hok he hn h next)
       ·rename_i hcw
        have := pass (by rw [hw']; simpa using hcw) h
        unfold wpList at this
        exact this
      ·rename_i hc
       have hw' := hw.2 hc
       rw [if_neg (by cases want <;> simp)] at h
       have := pass hw' h
       unfold wpList at this
       exact this
      ·exact h.elim
    ·simp at hi
   ·simp at hi
  ·simp at hl
end
theorem c5e {P : Program} {n0 : Nat} {o : AOp} {d : Option Nat} {K K' : Env → Heap → Prop} (hk : ∀ env H, K env H → K' env H) {env : Env} {H : Heap} (h : a3a P n0 o d K env H) : a3a P n0 o d K' env H := by
 cases o with
 | p o => simp only [a3a, c1g] at h ⊢; split at h <;> first | exact hk _ _ h | exact h.elim
 | e o => simp only [a3a, b8Y] at h ⊢; split at h <;> first | exact hk _ _ h | exact h.elim
 | call f aXs => exact a0h.mono h fun r H' => hk _ _
 | gcall f aXs => exact a0h.mono h fun r H' => hk _ _
 | callv g aXs =>
  simp only [a3a] at h ⊢
  split at h <;> first | exact a0h.mono h fun r H' => hk _ _ | exact h.elim
 | gcallv g aXs =>
  simp only [a3a] at h ⊢
  split at h <;> first | exact a0h.mono h fun r H' => hk _ _ | exact h.elim
 | nxt a =>
  simp only [a3a, d1Q] at h ⊢
  split at h
  ·split at h
   ·split at h
    ·exact ⟨h.1, fun i p q1 q2 => hk _ _ (h.2.1 i p q1 q2), fun q => hk _ _ (h.2.2 q)⟩
    ·split at h
     ·exact ⟨h.1, h.2.1, fun i b k v q1 q2 q3 q4 => hk _ _ (h.2.2.1 i b k v q1 q2 q3 q4), fun q => hk _ _ (h.2.2.2 q)⟩
     ·exact h.elim
   ·exact h.elim
  ·exact h.elim
theorem a8g {P : Program} {n0 : Nat} : ∀ {l : List AIns} {K K' : Env → Heap → Prop} (hk : ∀ env H, K env H → K' env H) {env : Env} {H : Heap}, aops P n0 l K env H → aops P n0 l K' env H
 | [], K, K', hk, env, H, h => hk _ _ h
 | i :: l, K, K', hk, env, H, h => by
  simp only [aops] at h ⊢
  split at h
  ·exact c5e (fun _ _ => a8g hk) h
  ·simp only [a9y] at h ⊢
   split at h
   ·split at h
    ·rename_i hc; rw [if_pos hc]; exact c5e (fun _ _ => a8g hk) h
    ·rename_i hc; rw [if_neg hc]; exact a8g hk h
   ·rename_i want _ _ _
    rw [if_neg (by cases want <;> simp)] at h ⊢; exact a8g hk h
   ·exact h.elim
def KT (E0 : Emb) (n0 nt : Nat) (K : ((Nat → Option Nat) → World → Prop) → Env → Heap → Prop) (a : Act) (w : World) : Prop :=
 ∃ T φ env H, K T env H ∧ Stab T n0 ∧ T φ w ∧ HOk ⟨φ, H, w⟩ ∧ a0r ⟨φ, H, w⟩ env a.tmps ∧ a.defers = [] ∧ a.tmps.size = nt ∧ n0 ≤ H.length ∧ Ext (· < E0.H.length) E0 ⟨φ, H, w⟩
section
variable {x : Cx} {todo : List AItem} {R : AV → Heap → Prop}
theorem a0g.rgW {env : Env} {H : Heap} {k kt : List AItem} {l : List AIns} (l1 l2 : List AIns) {d : Option Nat} {c : AOp} (e : Abs.stl 40 k = .code (.region l false) :: kt) (e2 : l = l1 ++ ⟨d, none, c⟩ :: l2)
  (h : aops x.P x.n0 l1 (fun env' H' => ∃ f aXs, a2q env' c = some (f, aXs) ∧ a8d x.P f ∧ ∀ (φ : Nat → Option Nat) (w : World) (vs : List Value), HOk ⟨φ, H', w⟩ → T φ w → Ext (· < E0.H.length) E0 ⟨φ, H', w⟩ → vs.length = aXs.length → (∀ (k : Nat) v a, vs[k]? = some v → aXs[k]? = some a → Rep ⟨φ, H', w⟩ v a) →
   Calls x.P f vs.toArray w fun e w' => ∃ v r T' φ' H'' env'', e = .returned v ∧ Stab T' x.n0 ∧ T' φ' w' ∧ HOk ⟨φ', H'', w'⟩ ∧ Rep ⟨φ', H'', w'⟩ v r ∧ (∀ tmps, a0r ⟨φ, H', w⟩ env' tmps → a0r ⟨φ', H'', w'⟩ env'' tmps) ∧ x.n0 ≤ H''.length ∧ Ext (· < E0.H.length) E0 ⟨φ', H'', w'⟩ ∧
    aops x.P x.n0 l2 (fun env2 H2 => a0g T' E0 x kt env2 H2 R) (put d r env'') H'') env H) : a0g T E0 x k env H R := by
 refine a0g.stl 40 k ?_
 rw [e]
 intro φ w tmps b k cs hg hn hb hk ht hsz hok he hT hE hS hm
 obtain ⟨i, k', rfl, h1, h2⟩ := a0j ht
 obtain ⟨cc, rfl, h1⟩ := a0m h1
 obtain ⟨id, ops, rfl, g1, _⟩ := a5R h1
 rw [e2] at g1
 have hw := d4v (P := x.P) (nt := x.nt) (rid := id) (ops := ops) (n0 := x.n0) (E0 := ⟨φ, H, w⟩) (l2 := l2)
  (Q := fun e a w' => e = .normal ∧ KT E0 x.n0 x.nt (fun T' env' H' => a0g T' E0 x kt env' H' R) a w') ops.toList 0 l1 g1 ⟨φ, H, w⟩ env tmps hsz hok he hn (Ext.refl _ _) ?_
 ·obtain ⟨e, a', w', ⟨rfl, T', φ1, env1, H1, s1, s2, s3, s4, s5, s6, s7, s8, s9⟩, harr⟩ := wp_region_list hw b k' cs
  have ha : a' = ⟨a'.tmps, []⟩ := by cases a'; simp at s6; simp [s6]
  rw [ha] at harr
  obtain ⟨v, w2, fr, r, φ', H', q1, q2, q3, q4, q5, q6, q7⟩ := s1 φ1 w' a'.tmps b k' cs hg s8 hb hk h2 s7 s4 s5 s3 s9 s2 hm
  exact ⟨v, w2, fr, r, φ', H', q1, q2, q3, q4, q5, Steps.trans harr q6, q7⟩
 ·refine a8g ?_ h
  rintro env' H' ⟨f, aXs, hcal, hcb, hcall⟩ E' tmps' o rest k2 rfl hok' he' hsz' hn' hx' hi hrest
  have hT' : T E'.φ E'.w := hS _ _ _ _ _ _ hn hok hT hx'
  have hE' : Ext (· < E0.H.length) E0 E' := hE.trans (hx'.sub fun i hi => Nat.lt_of_lt_of_le hi hm)
  unfold cins at hi
  split at hi
  ·rename_i hd
   split at hi
   ·rename_i g a hg' ha
    simp only [Option.some.injEq, AIns.mk.injEq] at hi
    obtain ⟨rfl, rfl, rfl⟩ := hi
    have hw := a8i (o := o) he' hg'
    simp only at hw
    unfold wpList
    rw [if_pos hw]
    refine .inl (e6e ha hd hsz' he' hcal hcb fun vs hl hr => (hcall E'.φ E'.w vs hok' hT' hE' hl hr).mono ?_)
    rintro e w' ⟨v, r, T2, φ2, H2, env2, rfl, q1, q2, q3, q4, q5, q6, q7, q8⟩
    refine ⟨v, rfl, ?_⟩
    have hp : (Act.mk tmps' []).put o.dst v = ⟨((Act.mk tmps' []).put o.dst v).tmps, []⟩ := d5o _ _ _
    rw [hp]
    refine a8f (P := x.P) (nt := x.nt) (rid := id) (ops := ops) (n0 := x.n0) (K := fun env3 H3 => a0g T2 E0 x kt env3 H3 R) (E0 := ⟨φ2, H2, w'⟩) (Q := fun e a w' => e = .normal ∧ KT E0 x.n0 x.nt (fun T' env' H' => a0g T' E0 x kt env' H' R) a w') ?_ rest (k2 + 1) l2 hrest ⟨φ2, H2, w'⟩ _ _ ?_ q3 ?_ q6 (Ext.refl _ _) q8
    ·rintro a w3 ⟨φ3, env3, H3, r1, r2, r3, r4, r5, r6, r7⟩
     exact ⟨rfl, T2, φ3, env3, H3, r1, q1, q1 _ _ _ _ _ _ q6 q3 q2 r7, r2, r3, r4, r5, r6, q7.trans (r7.sub fun i hi => Nat.lt_of_lt_of_le hi hm)⟩
    ·rw [a4c]; exact hsz'
    ·have := a2i (q5 tmps' he') (by rw [hsz']; exact hd) q4
     exact this
   ·simp at hi
  ·simp at hi
end
theorem Safe.enterT {x : Cx} {todo : List AItem} {env : Env} {H : Heap} {R : AV → Heap → Prop} {id : Nat} {ops : Array Oper} {d : Bool} {k : List AItem} (e : Abs.stl 40 k = .code (.raw id ops d) :: todo) (hx : x.n0 = H.length) (n1 : Nat)
  (h : ∀ φ w tmps, HOk ⟨φ, H, w⟩ → a0r ⟨φ, H, w⟩ env tmps → tmps.size = x.nt → (Code.region id ops d).wp x.P (fun e a w' => e = .normal ∧ ∃ T φ' env' H', Stab T n1 ∧ x.n0 ≤ n1 ∧ n1 ≤ H'.length ∧ T φ' w' ∧ HOk ⟨φ', H', w'⟩ ∧ a0r ⟨φ', H', w'⟩ env' a.tmps ∧ a.defers = [] ∧ a.tmps.size = x.nt ∧
   Ext (· < H.length) ⟨φ, H, w⟩ ⟨φ', H', w'⟩ ∧ a0g T ⟨φ, H, w⟩ ⟨x.P, x.mu, x.f, x.nt, x.rs, n1⟩ todo env' H' R) ⟨tmps, []⟩ w) : Safe x k env H R := by
 refine Safe.stl 40 k ?_
 rw [e]
 intro φ w tmps b k cs hg hn hb hk ht hsz hok he
 obtain ⟨i, k', rfl, h1, h2⟩ := a0j ht
 obtain ⟨c, rfl, h1⟩ := a0m h1
 obtain rfl := c8m h1
 obtain ⟨e, a', w', ⟨rfl, T, φ1, env1, H1, s1, s2, s3, s4, s5, s6, s7, s8, s9, s10⟩, harr⟩ := h φ w tmps hok he hsz b k' cs
 have ha : a' = ⟨a'.tmps, []⟩ := by cases a'; simp at s7; simp [s7]
 rw [ha] at harr
 obtain ⟨v, w2, fr, r, φ', H', q1, q2, q3, q4, q5, q6, q7⟩ := s10 φ1 w' a'.tmps b k' cs hg s3 hb hk (c5I h2) s8 s5 s6 s4 s9 s1 (by rw [← hx]; exact s2)
 exact ⟨v, w2, fr, r, φ', H', q1, q2, q3, by rw [hx]; exact q4, by rw [hx]; exact q5, Steps.trans harr q6, q7⟩
end Go.Abs
namespace Go.Abs
def ups (dep : Nat → List Nat) : Nat → List Nat → List Nat
 | 0, s => s
 | n + 1, s => s ++ ups dep n (s.flatMap dep)
theorem c1z {dep : Nat → List Nat} {lst : Nat → Bool} (hc : ∀ i, lst i = true → ∀ j ∈ dep i, lst j = true) : ∀ (n : Nat) (s : List Nat), (∀ i ∈ s, lst i = true) → ∀ j ∈ ups dep n s, lst j = true
 | 0, s, h, j, hj => h j hj
 | n + 1, s, h, j, hj => by
  simp only [ups, List.mem_append] at hj
  rcases hj with hj | hj
  ·exact h j hj
  ·exact c1z hc n _ (fun i hi => by
    obtain ⟨a, ha, hb⟩ := List.mem_flatMap.1 hi
    exact hc a (h a ha) i hb) j hj
def deps (ops : Array Oper) : List (List Nat) := ops.toList.map fun o => (o.after.toList.filter (Region.binds .any)).map (·.on)
structure Plan where
 dep : List (List Nat)
 ph : List Nat
 n : Nat
def Plan.d (p : Plan) (i : Nat) : List Nat := p.dep.getD i []
def Plan.may (p : Plan) (i k : Nat) : Bool := (List.range p.ph.length).all fun m => (!(ups p.d p.n [p.ph.getD m 0]).contains i || decide (k ≤ m)) && (!(ups p.d p.n (p.d i)).contains (p.ph.getD m 0) || decide (m < k))
def Plan.ok (p : Plan) : Bool := (List.range p.ph.length).all fun m => (List.range p.ph.length).all fun m' => decide (m ≤ m') || (ups p.d p.n (p.d (p.ph.getD m 0))).contains (p.ph.getD m' 0) && p.ph.getD m 0 != p.ph.getD m' 0
def Plan.nx (p : Plan) (i k : Nat) : Nat := if p.ph.contains i then k + 1 else k
def Know (l : List AIns) (T : List AV) (env : Env) : List Nat → Prop
 | [] => True
 | j :: r => (match (l[j]?).bind (·.dst) with
  | some t => look env t = T.getD j .top
  | none => True) ∧ Know l T env r
theorem d8A {l : List AIns} {T : List AV} {env : Env} : ∀ (s : List Nat), (∀ j ∈ s, ∀ t, (l[j]?).bind (·.dst) = some t → look env t = T.getD j .top) → Know l T env s
 | [], _ => trivial
 | j :: r, h => ⟨by
   split
   ·rename_i t ht; exact h j (by simp) t ht
   ·trivial, d8A r fun i hi => h i (by simp [hi])⟩
def Was (env0 env : Env) : List Nat → Prop
 | [] => True
 | t :: r => look env t = look env0 t ∧ Was env0 env r
theorem e3i {env0 env : Env} : ∀ (s : List Nat), (∀ t ∈ s, look env t = look env0 t) → Was env0 env s
 | [], _ => trivial
 | j :: r, h => ⟨h j (by simp), e3i r fun i hi => h i (by simp [hi])⟩
def d4w (P : Program) (n0 : Nat) (p : Plan) (T : List AV) (l : List AIns) (ins : List Nat) (env : Env) (Hs : Nat → Heap) : Nat → List AIns → Prop
 | _, [] => True
 | i, x :: r => (∀ k, k ≤ p.ph.length → p.may i k = true → ∀ env', Know l T env' (p.d i) → Was env env' ins → ∀ K : Env → Heap → Prop, K (put x.dst (T.getD i .top) env') (Hs (p.nx i k)) → aops P n0 [x] K env' (Hs k)) ∧
  d4w P n0 p T l ins env Hs (i + 1) r
theorem c5K {P : Program} {n0 : Nat} {p : Plan} {T : List AV} {l : List AIns} {ins : List Nat} {env : Env} {Hs : Nat → Heap} : ∀ (r : List AIns) (i : Nat), d4w P n0 p T l ins env Hs i r → ∀ (j : Nat) (x : AIns), r[j]? = some x →
  ∀ k, k ≤ p.ph.length → p.may (i + j) k = true → ∀ env', Know l T env' (p.d (i + j)) → Was env env' ins → ∀ K : Env → Heap → Prop, K (put x.dst (T.getD (i + j) .top) env') (Hs (p.nx (i + j) k)) → aops P n0 [x] K env' (Hs k)
 | [], i, h, j, x, hx => by simp at hx
 | y :: r, i, h, 0, x, hx => by simp at hx; subst hx; exact h.1
 | y :: r, i, h, j + 1, x, hx => by
  have := c5K r (i + 1) h.2 j x (by simpa using hx)
  rw [show i + 1 + j = i + (j + 1) from by omega] at this
  exact this
def outs : List AIns → List AV → Env → Env
 | x :: l, v :: T, env => outs l T (put x.dst v env)
 | _, _, env => env
theorem b7k {d : Option Nat} {v : AV} {env : Env} {t : Nat} : look (put d v env) t = if d = some t then v else look env t := by
 cases d with
 | none => simp [put]
 | some s =>
  simp only [put, look, Option.some.injEq]
theorem d0b : ∀ (l : List AIns) (T : List AV) (env : Env), l.length = T.length → (l.filterMap (·.dst)).Nodup → ∀ t, (∀ (i : Nat) x, l[i]? = some x → x.dst = some t → look (outs l T env) t = T.getD i .top) ∧ ((∀ x ∈ l, x.dst ≠ some t) → look (outs l T env) t = look env t)
 | [], [], env, _, _, t => ⟨by simp, fun _ => rfl⟩
 | x :: l, v :: T, env, hl, hnd, t => by
  have hnd' : (l.filterMap (·.dst)).Nodup := by
   simp only [List.filterMap_cons] at hnd
   split at hnd
   ·exact hnd
   ·exact (List.nodup_cons.1 hnd).2
  obtain ⟨h1, h2⟩ := d0b l T (put x.dst v env) (by simpa using hl) hnd' t
  constructor
  ·intro i y hy hd
   cases i with
   | zero =>
    simp at hy
    subst hy
    simp only [outs]
    rw [h2 fun z hz hzd => by
     simp only [List.filterMap_cons, hd] at hnd
     exact (List.nodup_cons.1 hnd).1 (List.mem_filterMap.2 ⟨z, hz, hzd⟩), b7k, if_pos hd]
    rfl
   | succ i =>
    simp only [outs]
    rw [h1 i y (by simpa using hy) hd]
    simp
  ·intro hno
   simp only [outs]
   rw [h2 fun z hz => hno z (by simp [hz]), b7k, if_neg (hno x (by simp))]
 | [], _ :: _, _, hl, _, _ => by simp at hl
 | _ :: _, [], _, hl, _, _ => by simp at hl
theorem c7X {α β : Type} : ∀ (l : List α) (f : α → Option β), (l.filterMap f).Nodup → ∀ {a b : Nat} {x y : α} {t : β}, a < b → l[a]? = some x → l[b]? = some y → f x = some t → f y = some t → False
 | [], f, _, a, b, x, y, t, _, hx, _, _, _ => by simp at hx
 | z :: l, f, hnd, a, b + 1, x, y, t, hab, hx, hy, fx, fy => by
  cases a with
  | zero =>
   simp at hx hy
   subst hx
   simp only [List.filterMap_cons, fx] at hnd
   exact (List.nodup_cons.1 hnd).1 (List.mem_filterMap.2 ⟨y, List.mem_of_getElem? hy, fy⟩)
  | succ a =>
   have hnd' : (l.filterMap f).Nodup := by
    simp only [List.filterMap_cons] at hnd
    split at hnd
    ·exact hnd
    ·exact (List.nodup_cons.1 hnd).2
   exact c7X l f hnd' (Nat.lt_of_succ_lt_succ hab) (by simpa using hx) (by simpa using hy) fx fy
 | _ :: _, _, _, _, 0, _, _, _, hab, _, _, _, _ => by omega
section
variable {x : Cx} {todo : List AItem} {R : AV → Heap → Prop} {env : Env} {H : Heap}
theorem Safe.rawJ {k : List AItem} {l : List AIns} {id : Nat} {ops : Array Oper} (e : Abs.stl 40 k = .code (.raw id ops true) :: todo) {mu : Nat → Nat → Bool} (g1 : a5S x.P mu x.nt id ops 0 ops.toList = some l) (g2 : (x.P.follows .mixedOrders && b3T 0 ops.toList) = true)
  (J : (Nat → Bool) → Env → Heap → Prop) (h0 : J (fun _ => false) env H)
  (hstep : ∀ (lst : Nat → Bool) (i : Nat) (o : Oper) (x' : AIns), ops[i]? = some o → l[i]? = some x' → lst i = false → (∀ e ∈ o.after, Region.binds .any e = true → lst e.on = true) → ∀ env H, J lst env H → aops x.P x.n0 [x'] (J fun j => lst j || j == i) env H)
  (hQ : ∀ lst : Nat → Bool, (∀ j, j < l.length → lst j = true) → ∀ env H, J lst env H → Safe x todo env H R) : Safe x k env H R := by
 refine Safe.stl 40 k ?_
 rw [e]
 intro φ w tmps b k cs hg hn hb hk ht hsz hok he
 obtain ⟨i, k', rfl, h1, h2⟩ := a0j ht
 obtain ⟨c, rfl, h1⟩ := a0m h1
 obtain rfl := c8m h1
 have g3 := g2
 simp only [Bool.and_eq_true] at g3
 have hx0 := a6e (· < x.n0) φ H w (w.drawn + 1)
 have hxA := a6e All φ H w (w.drawn + 1)
 have hll : ops.size = l.length := by have := (a6L _ _ _ g1).1; simpa using this.symm
 have hw := e7X (P := x.P) (nt := x.nt) (n0 := x.n0) g1 g3.2 (E0 := ⟨φ, H, { w with drawn := w.drawn + 1 }⟩) J
  (fun lst i o x' ho hx' hi haf env H hj => hstep lst i o x' ho hx' hi haf env H hj)
  (Q := fun e a w' => e = .normal ∧ Kc x.n0 x.nt ⟨φ, H, { w with drawn := w.drawn + 1 }⟩ (fun env' H' => Safe x todo env' H' R) a w')
  (fun lst hlst a w' ⟨φ', env', H', r⟩ => ⟨rfl, φ', env', H', hQ lst (fun j hj => hlst j (by omega)) env' H' r.1, r.2⟩)
  ops.size (List.range ops.size) (Array.replicate ops.size false) (by simp) List.nodup_range (by
   intro i
   rw [List.mem_range]
   constructor
   ·intro hi; simp [hi]
   ·intro hi
    rcases Nat.lt_or_ge i ops.size with h' | h'
    ·exact h'
    ·simp [Array.getElem?_eq_none (show (Array.replicate ops.size false).size ≤ i by simpa using h')] at hi) (by simp) ⟨tmps, []⟩ { w with drawn := w.drawn + 1 }
  ⟨φ, env, H, by
   have : (fun j => (Array.replicate ops.size false).getD j false) = fun _ => false := by
    funext j
    rcases Nat.lt_or_ge j ops.size with h' | h'
    ·simp [h']
    ·simp [Array.getElem?_eq_none (show (Array.replicate ops.size false).size ≤ j by simpa using h')]
   rw [this]; exact h0, b7m hok, he.mono (hxA.sub fun _ _ => trivial), rfl, hsz, hn, Ext.refl _ _⟩
 obtain ⟨e, a', w', ⟨rfl, φ1, env1, H1, s1, s2, s3, s4, s5, s6, s7⟩, harr⟩ := wp_region_any g3.1 hw b k' cs
 have ha : a' = ⟨a'.tmps, []⟩ := by cases a'; simp at s4; simp [s4]
 rw [ha] at harr
 obtain ⟨v, w2, fr, r, φ', H', q1, q2, q3, q4, q5, q6, q7⟩ := s1 φ1 w' a'.tmps b k' cs hg s6 hb hk h2 s5 s2 s3
 exact ⟨v, w2, fr, r, φ', H', q1, q2, q3, q4, hx0.trans (s7.trans q5), Steps.trans harr q6, q7⟩
theorem Safe.rawT {k : List AItem} {id : Nat} {ops : Array Oper} (e : Abs.stl 40 k = .code (.raw id ops true) :: todo) {l : List AIns} {mu : Nat → Nat → Bool} (g1 : a5S x.P mu x.nt id ops 0 ops.toList = some l) (g2 : (x.P.follows .mixedOrders && b3T 0 ops.toList) = true)
  (p : Plan) (hdep : deps ops = p.dep) (hp : p.ok = true) (T : List AV) (hT : l.length = T.length) (hnd : (l.filterMap (·.dst)).Nodup) (ins : List Nat) (hins : (ins.all fun t => l.all fun x => x.dst != some t) = true) (hph : (p.ph.all fun c => decide (c < l.length)) = true)
  (Hs : Nat → Heap) (hH : Hs 0 = H) (h : d4w x.P x.n0 p T l ins env Hs 0 l) (hQ : Safe x todo (outs l T env) (Hs p.ph.length) R) : Safe x k env H R := by
 have hdl : ∀ (i : Nat) o, ops[i]? = some o → p.d i = (o.after.toList.filter (Region.binds .any)).map (·.on) := by
  intro i o ho
  unfold Plan.d
  rw [← hdep]
  simp [deps, List.getD_eq_getElem?_getD, List.getElem?_map, ho]
 have hopk : ∀ m, m < p.ph.length → ∀ m', m' < m → p.ph.getD m' 0 ∈ ups p.d p.n (p.d (p.ph.getD m 0)) ∧ p.ph.getD m 0 ≠ p.ph.getD m' 0 := by
  intro m hm m' hm'
  unfold Plan.ok at hp
  simp only [List.all_eq_true, List.mem_range] at hp
  have := hp m hm m' (by omega)
  simp at this
  rcases this with h | h
  ·omega
  ·simpa using h
 refine Safe.rawJ e g1 g2
  (fun lst env' H' => (∀ i, lst i = true → ∀ j ∈ p.d i, lst j = true) ∧ (∀ t, (∀ (i : Nat) x, l[i]? = some x → x.dst = some t → lst i = true → look env' t = T.getD i .top) ∧ ((∀ (i : Nat) x, l[i]? = some x → x.dst = some t → lst i = false) → look env' t = look env t)) ∧
   ∃ k, k ≤ p.ph.length ∧ H' = Hs k ∧ ∀ m, m < p.ph.length → (lst (p.ph.getD m 0) = true ↔ m < k))
  ⟨fun i h => (Bool.noConfusion h), fun t => ⟨fun i x _ _ h => (Bool.noConfusion h), fun _ => rfl⟩, 0, Nat.zero_le _, hH.symm, fun m _ => by simp⟩ ?_ ?_
 ·rintro lst i o x' ho hx' hi haf env' H' ⟨j1, j2, k, hk, rfl, j3⟩
  have hdi := hdl i o ho
  have hdone : ∀ j ∈ p.d i, lst j = true := by
   intro j hj
   rw [hdi, List.mem_map] at hj
   obtain ⟨e, he, rfl⟩ := hj
   simp at he
   exact haf e (by simpa using he.1) he.2
  have hmay : p.may i k = true := by
   unfold Plan.may
   simp only [List.all_eq_true, List.mem_range]
   intro m hm
   simp only [Bool.and_eq_true, Bool.or_eq_true, Bool.not_eq_true', decide_eq_true_eq]
   constructor
   ·by_cases hc : i ∈ ups p.d p.n [p.ph.getD m 0]
    ·right
     apply Nat.le_of_not_lt
     intro hlt
     have := c1z j1 p.n [p.ph.getD m 0] (fun a ha => by rw [List.mem_singleton.1 ha]; exact (j3 m hm).2 hlt) i hc
     rw [hi] at this; cases this
    ·left; simpa using hc
   ·by_cases hc : p.ph.getD m 0 ∈ ups p.d p.n (p.d i)
    ·right
     exact (j3 m hm).1 (c1z j1 p.n _ hdone _ hc)
    ·left; simpa using hc
  have hadd : ∀ j, (lst j || j == i) = true ↔ (lst j = true ∨ j = i) := by intro j; simp
  refine c5K l 0 h i x' hx' k hk (by simpa using hmay) env' (d8A _ fun j hj t ht => ?_) (e3i _ fun t ht => ?_) _ ⟨?_, ?_, ?_⟩
  ·rw [Nat.zero_add] at hj
   have hj' := hdone j hj
   cases hlj : l[j]? with
   | none => rw [hlj] at ht; cases ht
   | some y =>
    rw [hlj] at ht
    exact (j2 t).1 j y hlj (by simpa using ht) hj'
  ·refine (j2 t).2 fun i' y hy hyd => ?_
   simp only [List.all_eq_true] at hins
   have := hins t ht y (List.mem_of_getElem? hy)
   simp [hyd] at this
  ·intro a ha j hj
   rw [hadd] at ha ⊢
   rcases ha with ha | rfl
   ·exact .inl (j1 a ha j hj)
   ·exact .inl (hdone j hj)
  ·intro t
   rw [Nat.zero_add]
   constructor
   ·intro a y hy hyd ha
    rw [hadd] at ha
    rw [b7k]
    split
    ·rename_i hd
     have hai : a = i := by
      have hnd2 := hnd
      rcases Nat.lt_trichotomy a i with hlt | rfl | hlt
      ·exfalso
       exact c7X l (·.dst) hnd hlt hy hx' hyd hd
      ·rfl
      ·exfalso
       exact c7X l (·.dst) hnd hlt hx' hy hd hyd
     rw [hai]
    ·rename_i hd
     rcases ha with ha | rfl
     ·exact (j2 t).1 a y hy hyd ha
     ·rw [hx'] at hy; cases hy; exact absurd hyd hd
   ·intro hno
    rw [b7k]
    have hd : x'.dst ≠ some t := fun hd => by
     have := hno i x' hx' hd
     simp at this
    rw [if_neg hd]
    exact (j2 t).2 fun a y hy hyd => by
     have := hno a y hy hyd
     simp at this
     exact this.1
  ·rw [Nat.zero_add]
   unfold Plan.nx
   by_cases hin : i ∈ p.ph
   ·obtain ⟨m, hm, hmi⟩ := List.mem_iff_getElem.1 hin
    have hgm : p.ph.getD m 0 = i := by simp [List.getD_eq_getElem?_getD, hm, hmi]
    have hkm : k ≤ m := Nat.le_of_not_lt fun hlt => by
     have := (j3 m hm).2 hlt
     rw [hgm, hi] at this; cases this
    have hkm2 : k = m := by
     rcases Nat.lt_or_ge k m with hlt | hge
     ·exfalso
      have h1 := hopk m hm k hlt
      have h2 := c1z j1 p.n _ hdone _ (by rw [← hgm]; exact h1.1)
      have := (j3 k (by omega)).1 h2
      omega
     ·omega
    subst hkm2
    refine ⟨k + 1, hm, by simp [hin], fun m' hm' => ?_⟩
    rw [hadd]
    constructor
    ·rintro (h1 | h1)
     ·have := (j3 m' hm').1 h1; omega
     ·apply Nat.lt_succ_of_le
      apply Nat.le_of_not_lt
      intro hlt
      exact (hopk m' hm' k hlt).2 (by rw [h1, hgm])
    ·intro h1
     rcases Nat.lt_or_ge m' k with h2 | h2
     ·exact .inl ((j3 m' hm').2 h2)
     ·right
      have : m' = k := by omega
      rw [this, hgm]
   ·refine ⟨k, hk, by simp [hin], fun m' hm' => ?_⟩
    rw [hadd, ← j3 m' hm']
    constructor
    ·rintro (h1 | h1)
     ·exact h1
     ·exfalso
      apply hin
      rw [← h1]
      simp [List.getD_eq_getElem?_getD, hm']
    ·exact .inl
 ·rintro lst hlst env' H' ⟨j1, j2, k, hk, rfl, j3⟩
  have hkk : k = p.ph.length := by
   rcases Nat.lt_or_ge k p.ph.length with hlt | hge
   ·exfalso
    have hc : p.ph.getD k 0 < l.length := by
     simp only [List.all_eq_true, decide_eq_true_eq] at hph
     exact hph _ (by simp [List.getD_eq_getElem?_getD, hlt])
    have := (j3 k hlt).1 (hlst _ hc)
    omega
   ·omega
  subst hkk
  refine Safe.weaken (fun t => .inl ?_) hQ
  obtain ⟨o1, o2⟩ := d0b l T env hT hnd t
  by_cases hex : ∃ (i : Nat) (y : AIns), l[i]? = some y ∧ y.dst = some t
  ·obtain ⟨i, y, hy, hyd⟩ := hex
   rw [o1 i y hy hyd]
   exact ((j2 t).1 i y hy hyd (hlst i (by
    rcases Nat.lt_or_ge i l.length with h' | h'
    ·exact h'
    ·rw [List.getElem?_eq_none h'] at hy; cases hy))).symm
  ·rw [o2 fun y hy hyd => by
    obtain ⟨i, hi⟩ := List.getElem?_of_mem hy
    exact hex ⟨i, y, hi, hyd⟩]
   exact ((j2 t).2 fun i y hy hyd => absurd ⟨i, y, hy, hyd⟩ hex).symm
end
end Go.Abs
namespace Go.Abs
open Go.Proofs
noncomputable abbrev Pr : Program := Tryz.prog
abbrev a7d : FuncId := 5
abbrev b1R : FuncId := 8
abbrev b1Q : FuncId := 10
abbrev a3l : FuncId := 12
abbrev a1k : FuncId := 13
abbrev b4n : FuncId := 15
abbrev a8Q : FuncId := 16
abbrev a3c : FuncId := 17
abbrev b5V : FuncId := 18
abbrev a0X : FuncId := 25
abbrev b1N : FuncId := 26
abbrev a2x : FuncId := 29
abbrev a1i : FuncId := 30
abbrev a0s : FuncId := 31
abbrev a7c : FuncId := 32
abbrev a0K : FuncId := 33
abbrev a3I : FuncId := 35
abbrev a2k : FuncId := 36
abbrev a7e : FuncId := 37
abbrev a4G : FuncId := 38
abbrev b9n : FuncId := 39
abbrev b5X : FuncId := 40
abbrev b3Y : FuncId := 41
abbrev b9o : FuncId := 44
abbrev b3Z : FuncId := 45
abbrev a2u : FuncId := 48
abbrev a1j : FuncId := 49
abbrev a1O : FuncId := 50
abbrev a0A : FuncId := 54
abbrev a8P : FuncId := 55
abbrev a1J : FuncId := 56
abbrev a6f : FuncId := 57
abbrev a3M : FuncId := 58
abbrev b1M : FuncId := 59
abbrev b5Z : FuncId := 62
abbrev b5W : FuncId := 63
abbrev a3V : FuncId := 64
abbrev a3G : FuncId := 65
abbrev a8c : FuncId := 66
abbrev a3U : FuncId := 67
abbrev a3W : FuncId := 68
abbrev a9Z : FuncId := 79
abbrev a9R : FuncId := 80
abbrev a8J : FuncId := 81
abbrev a1n : FuncId := 84
abbrev a8K : FuncId := 85
abbrev a3b : FuncId := 86
abbrev a0I : FuncId := 87
abbrev a0S : FuncId := 92
abbrev a5Y : FuncId := 93
abbrev a3F : FuncId := 94
abbrev a3Y : FuncId := 95
abbrev a3L : FuncId := 96
abbrev a2v : FuncId := 97
abbrev b0O : FuncId := 98
abbrev a3y : FuncId := 99
abbrev a5e : FuncId := 100
abbrev a1p : FuncId := 101
abbrev a5Z : FuncId := 102
abbrev a3K : FuncId := 105
abbrev a8h : FuncId := 106
abbrev c8Q : FuncId := 108
abbrev a1o : FuncId := 109
abbrev a8O : FuncId := 110
abbrev b0N : FuncId := 111
abbrev c5j : FuncId := 112
abbrev a8N : FuncId := 113
abbrev a1m : FuncId := 121
abbrev a4F : FuncId := 122
abbrev b3V : FuncId := 123
abbrev a0L : FuncId := 124
abbrev a2n : FuncId := 125
abbrev a2N : FuncId := 127
abbrev b4m : FuncId := 137
abbrev b4l : FuncId := 138
abbrev a8M : FuncId := 139
abbrev a9S : FuncId := 140
abbrev b5Y : FuncId := 141
abbrev a0t : FuncId := 142
abbrev b0M : FuncId := 143
abbrev b9m : FuncId := 151
abbrev b3X : FuncId := 152
abbrev a8L : FuncId := 153
abbrev b9p : FuncId := 160
abbrev b1P : FuncId := 161
abbrev b3W : FuncId := 162
abbrev c5m : FuncId := 163
abbrev b0L : FuncId := 164
abbrev a9Q : FuncId := 165
abbrev b5U : FuncId := 179
abbrev c5l : FuncId := 180
abbrev b9l : FuncId := 181
abbrev c5k : FuncId := 182
abbrev a1N : FuncId := 188
abbrev b7R : FuncId := 189
abbrev b1O : FuncId := 190
abbrev b7Q : FuncId := 191
def c9n : ByteArray := ⟨#[0, 1, 2, 2, 3, 3, 3, 3, 4, 4, 4, 4, 4, 4, 4, 4, 5, 5, 5, 5, 5, 5, 5, 5, 5, 5, 5, 5, 5, 5, 5, 5, 6, 6, 6, 6, 6, 6, 6, 6, 6, 6, 6, 6, 6, 6, 6, 6, 6, 6, 6, 6, 6, 6, 6, 6, 6, 6, 6, 6, 6, 6, 6, 6, 7, 7, 7, 7, 7, 7, 7, 7, 7, 7, 7, 7, 7, 7, 7, 7, 7, 7, 7, 7, 7, 7, 7, 7, 7, 7, 7, 7, 7, 7, 7, 7, 7, 7, 7, 7, 7, 7, 7, 7, 7, 7, 7, 7, 7, 7, 7, 7, 7, 7, 7, 7, 7, 7, 7, 7, 7, 7, 7, 7, 7, 7, 7, 7, 8, 8, 8, 8, 8, 8, 8, 8, 8, 8, 8, 8, 8, 8, 8, 8, 8, 8, 8, 8, 8, 8, 8, 8, 8, 8, 8, 8, 8, 8, 8, 8, 8, 8, 8, 8, 8, 8, 8, 8, 8, 8, 8, 8, 8, 8, 8, 8, 8, 8, 8, 8, 8, 8, 8, 8, 8, 8, 8, 8, 8, 8, 8, 8, 8, 8, 8, 8, 8, 8, 8, 8, 8, 8, 8, 8, 8, 8, 8, 8, 8, 8, 8, 8, 8, 8, 8, 8, 8, 8, 8, 8, 8, 8, 8, 8, 8, 8, 8, 8, 8, 8, 8, 8, 8, 8, 8, 8, 8, 8, 8, 8, 8, 8, 8, 8, 8, 8, 8, 8, 8, 8, 8, 8, 8, 8, 8, 8]⟩
end Go.Abs

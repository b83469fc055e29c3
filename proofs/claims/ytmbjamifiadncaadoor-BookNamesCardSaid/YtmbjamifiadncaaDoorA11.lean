/- Regions whose order is drawn: what holds in the text's order holds in each that the edges allow. -/
import Derived.Test.YtmbjamifiadncaaDoorA10
set_option linter.unusedVariables false
set_option linter.unusedSimpArgs false
namespace Go.Abs

def EqEnv (e e' : Env) : Prop := ∀ t, look e t = look e' t
theorem EqEnv.refl (e : Env) : EqEnv e e := fun _ => rfl
theorem EqEnv.symm {e e' : Env} (h : EqEnv e e') : EqEnv e' e := fun t => (h t).symm
theorem EqEnv.trans {a b c : Env} (h : EqEnv a b) (k : EqEnv b c) : EqEnv a c := fun t => (h t).trans (k t)

theorem ev_agree {s : Src} {e e' : Env} (h : ∀ t ∈ s.tmps, look e t = look e' t) : s.ev e = s.ev e' := by
  cases s with
  | t n => exact h n (by simp [Src.tmps])
  | c a => rfl
theorem evs_agree {ss : List Src} {e e' : Env} (h : ∀ t ∈ ss.flatMap Src.tmps, look e t = look e' t) : ss.map (·.ev e) = ss.map (·.ev e') :=
  List.map_congr_left fun s hs => ev_agree fun t ht => h t (List.mem_flatMap.2 ⟨s, hs, ht⟩)
theorem evo_agree {s : Option Src} {e e' : Env} (h : ∀ t ∈ oTmps s, look e t = look e' t) : s.map (·.ev e) = s.map (·.ev e') := by
  cases s with
  | none => rfl
  | some s => simp only [Option.map_some]; rw [ev_agree (s := s) h]
theorem bld_agree {e e' : Env} : ∀ (ps : List (Nat × Nat × Src)) (cs : List AV), (∀ t ∈ ps.flatMap (fun p => p.2.2.tmps), look e t = look e' t) → bldV e cs ps = bldV e' cs ps
  | [], cs, h => rfl
  | (off, n, s) :: ps, cs, h => by
    have hs : s.ev e = s.ev e' := ev_agree fun t ht => h t (by simp [ht])
    simp only [bldV, hs]
    split
    · exact bld_agree ps _ fun t ht => h t (by simp only [List.flatMap_cons, List.mem_append]; exact .inr ht)
    · rfl

theorem pv_agree {o : POp} {e e' : Env} {H : Heap} (h : ∀ t ∈ o.reads, look e t = look e' t) : pv o e H = pv o e' H := by
  cases o <;> simp only [POp.reads, List.mem_append] at h <;> simp only [pv]
  case mv a => rw [ev_agree h]
  case pick c a b => rw [ev_agree (s := c) fun t ht => h t (.inl ht), ev_agree (s := a) fun t ht => h t (.inr (.inl ht)), ev_agree (s := b) fun t ht => h t (.inr (.inr ht))]
  case lens a => rw [ev_agree h]
  case len a => rw [ev_agree h]
  case bin op a b => rw [ev_agree (s := a) fun t ht => h t (.inl ht), ev_agree (s := b) fun t ht => h t (.inr ht)]
  case beq n a b => rw [ev_agree (s := a) fun t ht => h t (.inl ht), ev_agree (s := b) fun t ht => h t (.inr ht)]
  case un op a => rw [ev_agree h]
  case conv k a => rw [ev_agree h]
  case ext a i => rw [ev_agree h]
  case fldp a off => rw [ev_agree h]
  case idxp wd a b => rw [ev_agree (s := a) fun t ht => h t (.inl ht), ev_agree (s := b) fun t ht => h t (.inr ht)]
  case idxs a b => rw [ev_agree (s := a) fun t ht => h t (.inl ht), ev_agree (s := b) fun t ht => h t (.inr ht)]
  case load n a => rw [ev_agree h]
  case slc wd x lo hi mx => rw [ev_agree (s := x) fun t ht => h t (.inl ht), evo_agree (s := lo) fun t ht => h t (.inr (.inl ht)), evo_agree (s := hi) fun t ht => h t (.inr (.inr (.inl ht))), evo_agree (s := mx) fun t ht => h t (.inr (.inr (.inr ht)))]
  case slcs x lo hi => rw [ev_agree (s := x) fun t ht => h t (.inl ht), evo_agree (s := lo) fun t ht => h t (.inr (.inl ht)), evo_agree (s := hi) fun t ht => h t (.inr (.inr ht))]
  case bld z ps => rw [bld_agree ps z h]
  case mkfn f cs => rw [evs_agree h]
  case mkbf f cs => rw [evs_agree h]
  case mnx mx a b => rw [ev_agree (s := a) fun t ht => h t (.inl ht), ev_agree (s := b) fun t ht => h t (.inr ht)]
  case b2s a => rw [ev_agree h]

/-- One instruction, its calls being such as only answer. -/
inductive St (P : Program) (n0 : Nat) : AIns → Env → Heap → Env → Heap → Prop where
  | skip {d t want o e H} (h : NotW (look e t) want) : St P n0 ⟨d, some (t, want), o⟩ e H (put d (.tup []) e) H
  | pure {d g o e H v} (hg : ∀ t want, g = some (t, want) → look e t = .bool want) (h : pv o e H = some v) : St P n0 ⟨d, g, .p o⟩ e H (put d v e) H
  | bsl {d g wd ps e H v} (hg : ∀ t want, g = some (t, want) → look e t = .bool want) (h : ev n0 (.bsl wd ps) e H = some (v, e, H)) : St P n0 ⟨d, g, .e (.bsl wd ps)⟩ e H (put d v e) H
  | call {d g f as e H r} (hg : ∀ t want, g = some (t, want) → look e t = .bool want) (h : ∀ L, ACalls P f (as.map (·.ev e)) (H ++ L) fun r' H' => r' = r ∧ H' = H ++ L) : St P n0 ⟨d, g, .call f as⟩ e H (put d r e) H
  | callv {d g s as e H r f caps} (hg : ∀ t want, g = some (t, want) → look e t = .bool want) (hs : s.ev e = .fn f caps) (h : ∀ L, ACalls P f (as.map (·.ev e) ++ caps) (H ++ L) fun r' H' => r' = r ∧ H' = H ++ L) : St P n0 ⟨d, g, .callv s as⟩ e H (put d r e) H
  | eff {d g o e H v e' H'} (hg : ∀ t want, g = some (t, want) → look e t = .bool want) (h : ev n0 o e H = some (v, e', H')) (hn : ∀ wd ps, o ≠ .bsl wd ps) : St P n0 ⟨d, g, .e o⟩ e H (put d v e') H'

/-- The instructions in the order of a list. -/
inductive Sts (P : Program) (n0 : Nat) : List AIns → Env → Heap → Env → Heap → Prop where
  | nil {e H} : Sts P n0 [] e H e H
  | cons {i l e H e1 H1 e2 H2} (h : St P n0 i e H e1 H1) (t : Sts P n0 l e1 H1 e2 H2) : Sts P n0 (i :: l) e H e2 H2

theorem look_put (d : Option Nat) (v : AV) (e : Env) (t : Nat) : look (put d v e) t = if d = some t then v else look e t := by
  cases d with
  | none => simp [put]
  | some d =>
    simp only [put, look, Option.some.injEq]

theorem put_eq {d : Option Nat} {v : AV} {e e' : Env} (h : EqEnv e e') : EqEnv (put d v e) (put d v e') := fun t => by rw [look_put, look_put, h t]

theorem scrub_eq {id : Nat} {e e' : Env} (h : EqEnv e e') : EqEnv (scrub id e) (scrub id e') := fun t => by rw [look_scrub, look_scrub, h t]

/-- An effect over variables that look alike. -/
theorem ev_eq {n0 : Nat} {o : EOp} {e e' : Env} {H : Heap} (h : EqEnv e e') {v : AV} {e1 : Env} {H1 : Heap} (he : ev n0 o e H = some (v, e1, H1)) : ∃ e2, ev n0 o e' H = some (v, e2, H1) ∧ EqEnv e1 e2 := by
  have hs : ∀ s : Src, s.ev e = s.ev e' := fun s => ev_agree fun t _ => h t
  have hm : ∀ ss : List Src, ss.map (·.ev e) = ss.map (·.ev e') := fun ss => List.map_congr_left fun s _ => hs s
  cases o with
  | store n a v' =>
    simp only [ev, hs] at he ⊢
    split at he
    · rename_i id i off heq
      simp only [Option.bind_eq_some_iff] at he ⊢
      obtain ⟨b, hb, he⟩ := he
      split at he
      · rename_i hc; cases he; exact ⟨e', ⟨b, hb, by rw [if_pos hc]⟩, h⟩
      · simp at he
    · simp at he
  | box n v' =>
    simp only [ev, hs] at he ⊢
    split at he
    · rename_i hc; cases he; exact ⟨e', by rw [if_pos hc], h⟩
    · simp at he
  | bsl wd ps =>
    simp only [ev, hs, hm] at he ⊢
    split at he
    · rename_i hc; cases he; exact ⟨e', by rw [if_pos hc], h⟩
    · simp at he
  | bslm wd ps =>
    simp only [ev, hs, hm] at he ⊢
    split at he
    · rename_i hc; cases he; exact ⟨e', by rw [if_pos hc], h⟩
    · simp at he
  | mksl wd bytes z l c =>
    simp only [ev, hs] at he ⊢
    split at he
    · rename_i kl l' kc c' heq1 heq2
      split at he
      · rename_i hc; cases he; exact ⟨e', by rw [if_pos hc], h⟩
      · simp at he
    · simp at he
  | app wd bytes str a b =>
    simp only [ev, hs, Option.bind_eq_some_iff] at he ⊢
    obtain ⟨ys, hy, he⟩ := he
    split at he
    · rename_i heq
      split at he
      · rename_i hc; cases he; exact ⟨e', ⟨ys, hy, by rw [if_pos hc]⟩, h⟩
      · simp at he
    · rename_i id off len oc heq
      simp only [Option.bind_eq_some_iff] at he
      obtain ⟨r, hr, he⟩ := he
      split at he
      · rename_i hc; cases he
        refine ⟨e', ⟨ys, hy, ?_⟩, h⟩
        simp only [Option.bind_eq_some_iff]
        exact ⟨r, hr, by rw [if_pos hc]⟩
      split at he
      · rename_i hn hc; cases he
        refine ⟨scrub id e', ⟨ys, hy, ?_⟩, scrub_eq h⟩
        simp only [Option.bind_eq_some_iff]
        exact ⟨r, hr, by rw [if_neg hn, if_pos hc]⟩
      split at he
      · rename_i hn hn2 hc; cases he
        refine ⟨e', ⟨ys, hy, ?_⟩, h⟩
        simp only [Option.bind_eq_some_iff]
        exact ⟨r, hr, by rw [if_neg hn, if_neg hn2, if_pos hc]⟩
      · simp at he
    · simp at he
  | cpy wd a b =>
    simp only [ev, hs, Option.bind_eq_some_iff] at he ⊢
    obtain ⟨ys, hy, he⟩ := he
    split at he
    · rename_i id off len oc heq
      simp only [Option.bind_eq_some_iff] at he
      obtain ⟨r, hr, he⟩ := he
      split at he
      · rename_i hc; cases he
        refine ⟨e', ⟨ys, hy, ?_⟩, h⟩
        simp only [Option.bind_eq_some_iff]
        exact ⟨r, hr, by rw [if_pos hc]⟩
      · simp at he
    · simp at he

theorem St.eqv {P : Program} {n0 : Nat} {i : AIns} {e e' : Env} {H : Heap} {e1 : Env} {H1 : Heap} (s : St P n0 i e H e1 H1) (h : EqEnv e e') : ∃ e2, St P n0 i e' H e2 H1 ∧ EqEnv e1 e2 := by
  have hs : ∀ s : Src, s.ev e = s.ev e' := fun s => ev_agree fun t _ => h t
  have hm : ∀ ss : List Src, ss.map (·.ev e) = ss.map (·.ev e') := fun ss => List.map_congr_left fun s _ => hs s
  cases s with
  | skip hl => exact ⟨_, .skip (by rw [← h]; exact hl), put_eq h⟩
  | pure hg hp => exact ⟨_, .pure (fun t w hw => by rw [← h]; exact hg t w hw) (by rw [← pv_agree (fun t _ => h t)]; exact hp), put_eq h⟩
  | bsl hg hp =>
    obtain ⟨e2, q1, q2⟩ := ev_eq h hp
    have : e2 = e' := by
      simp only [ev] at q1
      split at q1
      · cases q1; rfl
      · simp at q1
    subst this
    exact ⟨_, .bsl (fun t w hw => by rw [← h]; exact hg t w hw) q1, put_eq h⟩
  | call hg hp => exact ⟨_, .call (fun t w hw => by rw [← h]; exact hg t w hw) (by rw [← hm]; exact hp), put_eq h⟩
  | callv hg hf hp => exact ⟨_, .callv (fun t w hw => by rw [← h]; exact hg t w hw) (by rw [← hs]; exact hf) (by rw [← hm]; exact hp), put_eq h⟩
  | eff hg hp hn =>
    obtain ⟨e2, q1, q2⟩ := ev_eq h hp
    exact ⟨_, .eff (fun t w hw => by rw [← h]; exact hg t w hw) q1 hn, put_eq q2⟩

theorem Sts.eqv {P : Program} {n0 : Nat} {l : List AIns} {e : Env} {H : Heap} {e1 : Env} {H1 : Heap} (s : Sts P n0 l e H e1 H1) : ∀ {e' : Env}, EqEnv e e' → ∃ e2, Sts P n0 l e' H e2 H1 ∧ EqEnv e1 e2 := by
  induction s with
  | nil => exact fun h => ⟨_, .nil, h⟩
  | cons st _ ih =>
    intro e' h
    obtain ⟨e2, q1, q2⟩ := st.eqv h
    obtain ⟨e3, r1, r2⟩ := ih q2
    exact ⟨e3, .cons q1 r1, r2⟩

end Go.Abs

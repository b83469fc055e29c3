/- Regions whose order is drawn: any order that the edges allow. -/
import Derived.Test.YtmbjamifiadncaaDoorA11
set_option linter.unusedVariables false
set_option linter.unusedSimpArgs false
namespace Go.Abs

section
variable {P : Program} {n0 : Nat}

theorem hrow_app {H L : Heap} {id : Nat} {b : Blk} (h : hrow H id = some b) : hrow (H ++ L) id = some b := by
  have := hrow_some h
  unfold hrow
  rw [List.getElem?_append_left (lt_of_live this), this]; rfl

theorem isSome_hrow {H : Heap} {id : Nat} (h : (hrow H id).isSome = true) : ∃ b, hrow H id = some b := Option.isSome_iff_exists.1 h

theorem at_app {H L : Heap} {a : AV} {cs : List AV} (h : atV H a = some cs) : atV (H ++ L) a = some cs := by
  cases a <;> simp only [atV] at h ⊢ <;> first | exact h | skip
  case loc id i off =>
    simp only [Option.bind_eq_some_iff] at h ⊢
    obtain ⟨b, hb, h⟩ := h
    exact ⟨b, hrow_app hb, h⟩

theorem pv_app {o : POp} {e : Env} {H L : Heap} {v : AV} (h : pv o e H = some v) : pv o e (H ++ L) = some v := by
  cases o <;> simp only [pv] at h ⊢ <;> first | exact h | skip
  case len a =>
    generalize a.ev e = x at h ⊢
    cases x <;> simp only [lenV] at h ⊢ <;> first | exact h | skip
    case mu id off len oc =>
      split at h
      · rename_i hs
        obtain ⟨b, hb⟩ := isSome_hrow hs
        rw [if_pos (by rw [hrow_app hb]; rfl)]; exact h
      · simp at h
  case fldp a off =>
    generalize a.ev e = x at h ⊢
    cases x <;> simp only at h ⊢ <;> first | exact h | skip
    case loc id i o =>
      split at h
      · rename_i hs
        obtain ⟨b, hb⟩ := isSome_hrow hs
        rw [if_pos (by rw [hrow_app hb]; rfl)]; exact h
      · simp at h
  case idxp wd a i =>
    generalize a.ev e = x at h ⊢
    generalize i.ev e = y at h ⊢
    cases y <;> simp only [idxV] at h ⊢ <;> first | exact h | skip
    cases x <;> simp only at h ⊢ <;> first | exact h | skip
    simp only [Option.bind_eq_some_iff] at h ⊢
    obtain ⟨b, hb, h⟩ := h
    exact ⟨b, hrow_app hb, h⟩
  case load n a =>
    simp only [loadV, Option.bind_eq_some_iff] at h ⊢
    obtain ⟨cs, hc, h⟩ := h
    exact ⟨cs, at_app hc, h⟩
  case slc wd x lo hi mx =>
    generalize x.ev e = x at h ⊢
    generalize lo.map (·.ev e) = lo at h ⊢
    generalize hi.map (·.ev e) = hi at h ⊢
    generalize mx.map (·.ev e) = mx at h ⊢
    cases x <;> simp only [slcV] at h ⊢ <;> first | exact h | skip
    simp only [Option.bind_eq_some_iff] at h ⊢
    obtain ⟨b, hb, h⟩ := h
    exact ⟨b, hrow_app hb, h⟩
  case b2s a =>
    generalize a.ev e = x at h ⊢
    cases x <;> simp only [b2sV] at h ⊢ <;> first | exact h | skip
    simp only [Option.bind_eq_some_iff] at h ⊢
    obtain ⟨b, hb, h⟩ := h
    exact ⟨b, hrow_app hb, h⟩

theorem pv_hfree {o : POp} {e : Env} {H H' : Heap} (h : o.hfree = true) : pv o e H = pv o e H' := by
  cases o <;> first | (simp [POp.hfree] at h; done) | rfl

theorem guard_agree {g : Option (Nat × Bool)} {e e' : Env} (hg : ∀ t want, g = some (t, want) → look e t = .bool want) (h : ∀ t ∈ (match g with | some (t, _) => [t] | none => []), look e t = look e' t) : ∀ t want, g = some (t, want) → look e' t = .bool want := by
  intro t want hh
  subst hh
  rw [← h t (by simp)]
  exact hg t want rfl

theorem quiet_spec {x : AIns} {e : Env} {H : Heap} {e1 : Env} {H1 : Heap} (s : St P n0 x e H e1 H1) (hq : x.op.quiet = true) :
    H1 = H ∧ ∃ v, e1 = put x.dst v e ∧ ∀ e' L, (∀ t ∈ x.reads, look e t = look e' t) → St P n0 x e' (H ++ L) (put x.dst v e') (H ++ L) := by
  cases s with
  | skip hl => exact ⟨rfl, .tup [], rfl, fun e' L h => .skip (by rw [← h _ (by simp [AIns.reads])]; exact hl)⟩
  | pure hg hp => exact ⟨rfl, _, rfl, fun e' L h => .pure (guard_agree hg fun t ht => h t (by simp only [AIns.reads, List.mem_append]; exact .inl ht)) (by rw [← pv_agree (fun t ht => h t (by simp only [AIns.reads, List.mem_append]; exact .inr ht))]; exact pv_app hp)⟩
  | bsl hg hp =>
    refine ⟨rfl, _, rfl, fun e' L h => .bsl (guard_agree hg fun t ht => h t (by simp only [AIns.reads, List.mem_append]; exact .inl ht)) ?_⟩
    rename_i wd ps v
    have hev : ∀ s ∈ ps, s.ev e = s.ev e' := fun s hs => ev_agree fun t ht => h t (by simp only [AIns.reads, AOp.reads, EOp.reads, List.mem_append, List.mem_flatMap]; exact .inr ⟨s, hs, ht⟩)
    have hm : ps.map (·.ev e) = ps.map (·.ev e') := List.map_congr_left hev
    simp only [ev] at hp ⊢
    split at hp
    · rename_i hc
      cases hp
      rw [if_pos, hm]
      refine ⟨hc.1, ?_⟩
      have := hc.2
      simp only [List.all_eq_true] at this ⊢
      intro s hs
      have h2 := this s hs
      rw [hev s hs] at h2
      exact h2
    · simp at hp
  | call hg hp =>
    refine ⟨rfl, _, rfl, fun e' L h => .call (guard_agree hg fun t ht => h t (by simp only [AIns.reads, List.mem_append]; exact .inl ht)) ?_⟩
    intro L'
    rw [← evs_agree (fun t ht => h t (by simp only [AIns.reads, AOp.reads, List.mem_append]; exact .inr ht)), List.append_assoc]
    exact hp (L ++ L')
  | callv hg hf hp =>
    refine ⟨rfl, _, rfl, fun e' L h => .callv (guard_agree hg fun t ht => h t (by simp only [AIns.reads, List.mem_append]; exact .inl ht)) (by rw [← ev_agree (fun t ht => h t (by simp only [AIns.reads, AOp.reads, List.mem_append]; exact .inr (.inl ht)))]; exact hf) ?_⟩
    intro L'
    rw [← evs_agree (fun t ht => h t (by simp only [AIns.reads, AOp.reads, List.mem_append]; exact .inr (.inr ht))), List.append_assoc]
    exact hp (L ++ L')
  | eff hg hp hn =>
    rename_i o v _
    cases o <;> first | (simp [AOp.quiet] at hq; done) | exact absurd rfl (hn _ _)

theorem hfree_spec {x : AIns} {e : Env} {H : Heap} {e1 : Env} {H1 : Heap} (s : St P n0 x e H e1 H1) (hq : x.op.hfree = true) :
    H1 = H ∧ ∃ v, e1 = put x.dst v e ∧ ∀ e' H', (∀ t ∈ x.reads, look e t = look e' t) → St P n0 x e' H' (put x.dst v e') H' := by
  cases s with
  | skip hl => exact ⟨rfl, .tup [], rfl, fun e' L h => .skip (by rw [← h _ (by simp [AIns.reads])]; exact hl)⟩
  | pure hg hp => exact ⟨rfl, _, rfl, fun e' L h => .pure (guard_agree hg fun t ht => h t (by simp only [AIns.reads, List.mem_append]; exact .inl ht)) (by rw [← pv_agree (fun t ht => h t (by simp only [AIns.reads, List.mem_append]; exact .inr ht))]; rw [pv_hfree (H' := H) (by simpa [AOp.hfree] using hq)]; exact hp)⟩
  | bsl hg hp => simp [AOp.hfree] at hq
  | call hg hp => simp [AOp.hfree] at hq
  | callv hg hf hp => simp [AOp.hfree] at hq
  | eff hg hp hn => simp [AOp.hfree] at hq

theorem store_spec {x : AIns} {e : Env} {H : Heap} {e1 : Env} {H1 : Heap} (s : St P n0 x e H e1 H1) (hq : x.op.isStore = true) :
    ∃ v, e1 = put x.dst v e ∧ ∀ e', (∀ t ∈ x.reads, look e t = look e' t) → St P n0 x e' H (put x.dst v e') H1 := by
  cases s with
  | skip hl => exact ⟨.tup [], rfl, fun e' h => .skip (by rw [← h _ (by simp [AIns.reads])]; exact hl)⟩
  | pure hg hp => simp [AOp.isStore] at hq
  | bsl hg hp => simp [AOp.isStore] at hq
  | call hg hp => simp [AOp.isStore] at hq
  | callv hg hf hp => simp [AOp.isStore] at hq
  | eff hg hp hn =>
    rename_i o v _
    cases o <;> first | (simp [AOp.isStore] at hq; done) | skip
    rename_i n a b
    have hp0 := hp
    simp only [ev] at hp
    split at hp
    · rename_i id i off heq
      simp only [Option.bind_eq_some_iff] at hp
      obtain ⟨blk, hb, hp⟩ := hp
      split at hp
      · rename_i hc
        cases hp
        refine ⟨_, rfl, fun e' h => .eff (guard_agree hg fun t ht => h t (by simp only [AIns.reads, List.mem_append]; exact .inl ht)) ?_ (by simp)⟩
        have ha : a.ev e = a.ev e' := ev_agree fun t ht => h t (by simp only [AIns.reads, AOp.reads, EOp.reads, List.mem_append]; exact .inr (.inl ht))
        have hbv : b.ev e = b.ev e' := ev_agree fun t ht => h t (by simp only [AIns.reads, AOp.reads, EOp.reads, List.mem_append]; exact .inr (.inr ht))
        rw [hbv] at hc
        simp only [ev, ← ha, heq, Option.bind_eq_some_iff]
        exact ⟨blk, hb, by rw [if_pos hc, hbv]⟩
      · simp at hp
    · simp at hp

theorem box_spec {x : AIns} {e : Env} {H : Heap} {e1 : Env} {H1 : Heap} (s : St P n0 x e H e1 H1) (hq : x.op.isBox = true) :
    ∃ v L, H1 = H ++ L ∧ e1 = put x.dst v e ∧ ∀ e', (∀ t ∈ x.reads, look e t = look e' t) → St P n0 x e' H (put x.dst v e') H1 := by
  cases s with
  | skip hl => exact ⟨.tup [], [], by simp, rfl, fun e' h => .skip (by rw [← h _ (by simp [AIns.reads])]; exact hl)⟩
  | pure hg hp => simp [AOp.isBox] at hq
  | bsl hg hp => simp [AOp.isBox] at hq
  | call hg hp => simp [AOp.isBox] at hq
  | callv hg hf hp => simp [AOp.isBox] at hq
  | eff hg hp hn =>
    rename_i o v _
    cases o <;> first | (simp [AOp.isBox] at hq; done) | skip
    case box n b =>
      simp only [ev] at hp
      split at hp
      · rename_i hc
        cases hp
        refine ⟨_, _, rfl, rfl, fun e' h => .eff (guard_agree hg fun t ht => h t (by simp only [AIns.reads, List.mem_append]; exact .inl ht)) ?_ (by simp)⟩
        have hbv : b.ev e = b.ev e' := ev_agree fun t ht => h t (by simp only [AIns.reads, AOp.reads, EOp.reads, List.mem_append]; exact .inr ht)
        rw [hbv] at hc
        simp only [ev]
        rw [if_pos hc, hbv]
      · simp at hp
    case bslm wd ps =>
      simp only [ev] at hp
      split at hp
      · rename_i hc
        cases hp
        refine ⟨_, _, rfl, rfl, fun e' h => .eff (guard_agree hg fun t ht => h t (by simp only [AIns.reads, List.mem_append]; exact .inl ht)) ?_ (by simp)⟩
        have hev : ∀ s ∈ ps, s.ev e = s.ev e' := fun s hs => ev_agree fun t ht => h t (by simp only [AIns.reads, AOp.reads, EOp.reads, List.mem_append, List.mem_flatMap]; exact .inr ⟨s, hs, ht⟩)
        have hm : ps.map (·.ev e) = ps.map (·.ev e') := List.map_congr_left hev
        simp only [ev]
        rw [if_pos, hm]
        refine ⟨hc.1, ?_⟩
        have := hc.2
        simp only [List.all_eq_true] at this ⊢
        intro s hs
        have h2 := this s hs
        rw [hev s hs] at h2
        exact h2
      · simp at hp

theorem app_spec {y : AIns} {e : Env} {H : Heap} {e1 : Env} {H1 : Heap} (s : St P n0 y e H e1 H1) (hq : y.op.isApp = true) :
    ∃ v, (e1 = put y.dst v e ∧ ∀ e', (∀ t ∈ y.reads, look e t = look e' t) → St P n0 y e' H (put y.dst v e') H1) ∨
      ∃ id, e1 = put y.dst v (scrub id e) ∧ ∀ e', (∀ t ∈ y.reads, look e t = look e' t) → St P n0 y e' H (put y.dst v (scrub id e')) H1 := by
  cases s with
  | skip hl => exact ⟨.tup [], .inl ⟨rfl, fun e' h => .skip (by rw [← h _ (by simp [AIns.reads])]; exact hl)⟩⟩
  | pure hg hp => simp [AOp.isApp] at hq
  | bsl hg hp => simp [AOp.isApp] at hq
  | call hg hp => simp [AOp.isApp] at hq
  | callv hg hf hp => simp [AOp.isApp] at hq
  | eff hg hp hn =>
    rename_i d g o v e2
    cases o <;> first | (simp [AOp.isApp] at hq; done) | skip
    rename_i wd bytes str a b
    have hab : ∀ e', (∀ t ∈ (AIns.mk d g (.e (.app wd bytes str a b)) : AIns).reads, look e t = look e' t) → a.ev e = a.ev e' ∧ b.ev e = b.ev e' := fun e' h =>
      ⟨ev_agree fun t ht => h t (by simp only [AIns.reads, AOp.reads, EOp.reads, List.mem_append]; exact .inr (.inl ht)), ev_agree fun t ht => h t (by simp only [AIns.reads, AOp.reads, EOp.reads, List.mem_append]; exact .inr (.inr ht))⟩
    have hgd : ∀ e', (∀ t ∈ (AIns.mk d g (.e (.app wd bytes str a b)) : AIns).reads, look e t = look e' t) → ∀ t want, g = some (t, want) → look e' t = .bool want := fun e' h => guard_agree hg fun t ht => h t (by simp only [AIns.reads, List.mem_append]; exact .inl ht)
    simp only [ev, Option.bind_eq_some_iff] at hp
    obtain ⟨ys, hys, hp⟩ := hp
    refine ⟨v, ?_⟩
    split at hp
    · rename_i hae
      split at hp
      · rename_i hc
        cases hp
        refine .inl ⟨rfl, fun e' h => .eff (hgd e' h) ?_ (by simp)⟩
        simp only [ev, ← (hab e' h).1, ← (hab e' h).2, hys, Option.bind_some, hae]
        rw [if_pos hc]
      · simp at hp
    · rename_i id off len oc hae
      simp only [Option.bind_eq_some_iff] at hp
      obtain ⟨r, hr, hp⟩ := hp
      split at hp
      · rename_i hc
        cases hp
        refine .inl ⟨rfl, fun e' h => .eff (hgd e' h) ?_ (by simp)⟩
        simp only [ev, ← (hab e' h).1, ← (hab e' h).2, hys, Option.bind_some, hae, hr]
        rw [if_pos hc]
      · rename_i hc0
        split at hp
        · rename_i hc
          cases hp
          refine .inr ⟨id, rfl, fun e' h => .eff (hgd e' h) ?_ (by simp)⟩
          simp only [ev, ← (hab e' h).1, ← (hab e' h).2, hys, Option.bind_some, hae, hr]
          rw [if_neg hc0, if_pos hc]
        · rename_i hc1
          split at hp
          · rename_i hc
            cases hp
            refine .inl ⟨rfl, fun e' h => .eff (hgd e' h) ?_ (by simp)⟩
            simp only [ev, ← (hab e' h).1, ← (hab e' h).2, hys, Option.bind_some, hae, hr]
            rw [if_neg hc0, if_neg hc1, if_pos hc]
          · simp at hp
    · simp at hp
theorem nrefb (id : Nat) (b : Bool) : nref id (.bool b) = true := nref_iff.2 (.bool b)
theorem mv_spec {x : AIns} {e : Env} {H : Heap} {e1 : Env} {H1 : Heap} (s : St P n0 x e H e1 H1) (hq : x.op.isMv = true) :
    H1 = H ∧ ∃ v, e1 = put x.dst v e ∧ (∀ e' H', (∀ t ∈ x.reads, look e t = look e' t) → St P n0 x e' H' (put x.dst v e') H') ∧
      ∀ id e' H', (∀ t ∈ x.reads, (if nref id (look e t) then look e t else .top) = look e' t) → St P n0 x e' H' (put x.dst (if nref id v then v else .top) e') H' := by
  have hfr : x.op.hfree = true := by
    cases h : x.op <;> rw [h] at hq <;> first | (simp [AOp.isMv] at hq; done) | skip
    rename_i o
    cases o <;> first | rfl | (simp [AOp.isMv] at hq; done)
  have hh := hfree_spec s hfr
  cases s with
  | skip hl =>
    rename_i d t want o
    refine ⟨rfl, .tup [], rfl, fun e' L h => .skip (by rw [← h _ (by simp [AIns.reads])]; exact hl), fun id e' H' h => ?_⟩
    have h1 := h t (by simp [AIns.reads])
    have ht : nref id (.tup []) = true := nref_iff.2 (.tup _ fun c hc => absurd hc (by simp))
    rw [if_pos ht]
    refine .skip ?_
    rw [← h1]
    rcases hl with ⟨c, hc, hn⟩ | hc
    · rw [hc, if_pos (nrefb id c)]; exact .inl ⟨c, rfl, hn⟩
    · rw [hc, if_pos ht]; exact .inr rfl
  | pure hg hp =>
    rename_i d g o v
    cases o <;> first | (simp [AOp.isMv] at hq; done) | skip
    rename_i a
    cases a <;> first | (simp [AOp.isMv] at hq; done) | skip
    rename_i k
    have hv : v = look e k := by simp only [pv, Src.ev, Option.some.injEq] at hp; exact hp.symm
    subst hv
    refine ⟨rfl, _, rfl, fun e' H' h => .pure (guard_agree hg fun t ht => h t (by simp only [AIns.reads, List.mem_append]; exact .inl ht)) ?_, fun id e' H' h => .pure ?_ ?_⟩
    · simp only [pv, Src.ev]
      rw [← h k (by simp [AIns.reads, AOp.reads, POp.reads, Src.tmps])]
    · intro t want hh
      subst hh
      have h1 := h t (by simp [AIns.reads])
      rw [hg t want rfl, if_pos (nrefb id want)] at h1
      exact h1.symm
    · simp only [pv, Src.ev]
      rw [← h k (by simp [AIns.reads, AOp.reads, POp.reads, Src.tmps])]
  | bsl hg hp => simp [AOp.isMv] at hq
  | call hg hp => simp [AOp.isMv] at hq
  | callv hg hf hp => simp [AOp.isMv] at hq
  | eff hg hp hn => simp [AOp.isMv] at hq
theorem look_put_off {d : Option Nat} {v : AV} {e : Env} {rs : List Nat} (h : (match d with | some d => !rs.contains d | none => true) = true) : ∀ t ∈ rs, look e t = look (put d v e) t := by
  intro t ht
  rw [look_put]
  split
  · rename_i hd
    subst hd
    simp at h
    exact absurd ht h
  · rfl

theorem put_put {d1 d2 : Option Nat} {v1 v2 : AV} {e : Env} (h : ∀ d, d1 = some d → d2 ≠ some d) : EqEnv (put d1 v1 (put d2 v2 e)) (put d2 v2 (put d1 v1 e)) := by
  intro t
  simp only [look_put]
  by_cases h1 : d1 = some t
  · rw [if_pos h1, if_neg (h t h1), if_pos h1]
  · rw [if_neg h1, if_neg h1]

theorem swap_mvapp {x y : AIns} (q1 : x.op.isMv = true) (q2 : y.op.isApp = true) {e : Env} {H : Heap} {e1 : Env} {H1 : Heap} {e2 : Env} {H2 : Heap} (hx : ∀ v, ∀ t ∈ y.reads, look (put x.dst v e) t = look e t)
    (hT2 : (match y.dst with | some d => !x.reads.contains d | none => true) = true) (hd : ∀ d, y.dst = some d → x.dst ≠ some d) (s : St P n0 x e H e1 H1) (t : St P n0 y e1 H1 e2 H2) :
    ∃ e1' H' e2', St P n0 y e H e1' H' ∧ St P n0 x e1' H' e2' H2 ∧ EqEnv e2 e2' := by
  obtain ⟨rfl, v, rfl, f, f2⟩ := mv_spec s q1
  obtain ⟨u, ⟨rfl, g⟩ | ⟨id, rfl, g⟩⟩ := app_spec t q2
  · exact ⟨_, H2, _, g e (hx v), f (put y.dst u e) H2 (look_put_off hT2), put_put hd⟩
  · refine ⟨_, H2, _, g e (hx v), f2 id (put y.dst u (scrub id e)) H2 (fun t ht => ?_), fun t => ?_⟩
    · rw [← look_put_off (v := u) (e := scrub id e) hT2 t ht, look_scrub]
    · simp only [look_put, look_scrub]
      by_cases h1 : y.dst = some t
      · rw [if_pos h1, if_neg (hd t h1), if_pos h1]
      · rw [if_neg h1, if_neg h1]
        split <;> rfl
/-- Two instructions apart may change places. -/
theorem St.swap {x y : AIns} (hT : apartT x y = true) (hH : apartH x y = true) {e : Env} {H : Heap} {e1 : Env} {H1 : Heap} {e2 : Env} {H2 : Heap} (s : St P n0 x e H e1 H1) (t : St P n0 y e1 H1 e2 H2) :
    ∃ e1' H' e2', St P n0 y e H e1' H' ∧ St P n0 x e1' H' e2' H2 ∧ EqEnv e2 e2' := by
  simp only [apartT, Bool.and_eq_true] at hT
  obtain ⟨hT1, hT2⟩ := hT
  have hx : ∀ v, ∀ t ∈ y.reads, look (put x.dst v e) t = look e t := by
    intro v t ht
    refine (look_put_off (rs := y.reads) (d := x.dst) ?_ t ht).symm
    cases hd : x.dst <;> simp only [hd] at hT1 ⊢
    simp only [Bool.and_eq_true] at hT1
    exact hT1.1
  have hy : ∀ v, ∀ t ∈ x.reads, look e t = look (put y.dst v e) t := fun v => look_put_off hT2
  have hd : ∀ d, y.dst = some d → x.dst ≠ some d := by
    intro d h1 h2
    simp only [h2, Bool.and_eq_true] at hT1
    rw [h1] at hT1
    simp at hT1
  simp only [apartH, Bool.or_eq_true, Bool.and_eq_true] at hH
  rcases hH with (((⟨q1, q2⟩ | ⟨q1, q2⟩) | ⟨q1, q2⟩) | ⟨q1, q2⟩) | ⟨q1, q2⟩
  · obtain ⟨rfl, v, rfl, f⟩ := quiet_spec s q1
    obtain ⟨rfl, u, rfl, g⟩ := quiet_spec t q2
    refine ⟨_, H2, _, by simpa using g e [] (hx v), by simpa using f (put y.dst u e) [] (hy u), put_put hd⟩
  · obtain ⟨v, rfl, f⟩ := store_spec s q1
    obtain ⟨rfl, u, rfl, g⟩ := hfree_spec t q2
    exact ⟨_, H, _, g e H (hx v), f (put y.dst u e) (hy u), put_put hd⟩
  · obtain ⟨rfl, v, rfl, f⟩ := hfree_spec s q1
    obtain ⟨u, rfl, g⟩ := store_spec t q2
    exact ⟨_, H2, _, g e (hx v), f (put y.dst u e) H2 (hy u), put_put hd⟩
  · obtain ⟨rfl, v, rfl, f⟩ := quiet_spec s q1
    obtain ⟨u, L, rfl, rfl, g⟩ := box_spec t q2
    exact ⟨_, _, _, g e (hx v), f (put y.dst u e) L (hy u), put_put hd⟩
  · exact swap_mvapp q1 q2 hx hT2 hd s t

/-- Two instructions that may change places where G holds. -/
def SwG (P : Program) (n0 : Nat) (G : Env → Prop) (x y : AIns) : Prop := ∀ {e : Env} {H : Heap} {e1 : Env} {H1 : Heap} {e2 : Env} {H2 : Heap}, G e → St P n0 x e H e1 H1 → St P n0 y e1 H1 e2 H2 →
  ∃ e1' H' e2', St P n0 y e H e1' H' ∧ St P n0 x e1' H' e2' H2 ∧ EqEnv e2 e2'
theorem SwG.apart {G : Env → Prop} {x y : AIns} (hT : apartT x y = true) (hH : apartH x y = true) : SwG P n0 G x y := fun _ s t => St.swap hT hH s t
def Keeps (P : Program) (n0 : Nat) (G : Env → Prop) (x : AIns) : Prop := ∀ {e : Env} {H : Heap} {e1 : Env} {H1 : Heap}, G e → St P n0 x e H e1 H1 → G e1

/-- An instruction apart from all ahead of it may be the first. -/
theorem Sts.bubble {G : Env → Prop} {y : AIns} {B : List AIns} {ef : Env} {Hf : Heap} : ∀ (A : List AIns) {e : Env} {H : Heap}, G e → (∀ x ∈ A, SwG P n0 G x y ∧ Keeps P n0 G x) → Sts P n0 (A ++ y :: B) e H ef Hf →
    ∃ e1 H1 ef', St P n0 y e H e1 H1 ∧ Sts P n0 (A ++ B) e1 H1 ef' Hf ∧ EqEnv ef ef'
  | [], e, H, hg, hA, s => by
    cases s with
    | cons h t => exact ⟨_, _, _, h, t, .refl _⟩
  | x :: A, e, H, hg, hA, s => by
    cases s with
    | cons h t =>
      obtain ⟨e1, H1, ef', q1, q2, q3⟩ := Sts.bubble A ((hA x (by simp)).2 hg h) (fun x hx => hA x (by simp [hx])) t
      obtain ⟨e1', H', e2', r1, r2, r3⟩ := (hA x (by simp)).1 hg h q1
      obtain ⟨ef2, u1, u2⟩ := q2.eqv r3
      exact ⟨e1', H', ef2, r1, .cons r2 u1, q3.trans u2⟩

end

/-! ### The table -/
section
variable {ops : List Oper}
/-- What comes before a member is a member. -/
def Closed (ops : List Oper) (S : Nat → Prop) : Prop := ∀ j o, S j → ops[j]? = some o → ∀ e ∈ o.after, Region.binds .any e = true → S e.on

theorem tcOf_sound {T : List Nat} {o : Oper} {a : Nat} (h : (tcOf T o).testBit a = true) : ∃ e ∈ o.after, Region.binds .any e = true ∧ (a = e.on ∨ (T.getD e.on 0).testBit a = true) := by
  unfold tcOf at h
  have main : ∀ (l : List Edge) (acc : Nat), (l.foldl (fun acc e => if Region.binds .any e then (acc ||| ((1 <<< e.on) ||| T.getD e.on 0)) else acc) acc).testBit a = true →
      acc.testBit a = true ∨ ∃ e ∈ l, Region.binds .any e = true ∧ (a = e.on ∨ (T.getD e.on 0).testBit a = true) := by
    intro l
    induction l with
    | nil => intro acc h; exact .inl h
    | cons e l ih =>
      intro acc h
      rw [List.foldl_cons] at h
      rcases ih _ h with h1 | ⟨e', he', h1⟩
      · by_cases hb : Region.binds .any e = true
        · rw [if_pos hb] at h1
          simp only [Nat.testBit_or, Bool.or_eq_true] at h1
          rcases h1 with h1 | h1 | h1
          · exact .inl h1
          · refine .inr ⟨e, by simp, hb, .inl ?_⟩
            rw [Nat.one_shiftLeft, Nat.testBit_two_pow] at h1
            exact (of_decide_eq_true h1).symm
          · exact .inr ⟨e, by simp, hb, .inr h1⟩
        · rw [if_neg hb] at h1
          exact .inl h1
      · exact .inr ⟨e', by simp [he'], h1⟩
  rcases main _ 0 h with h1 | ⟨e, he, h1⟩
  · simp at h1
  · exact ⟨e, by simpa using he, h1⟩

theorem tcTab_sound {S : Nat → Prop} (hS : Closed ops S) : ∀ (r : List Oper) (pre : List Oper) (T : List Nat), ops = pre ++ r → T.length = pre.length →
    (∀ (i m : Nat) (o : Oper), T[i]? = some m → ops[i]? = some o → (∀ e ∈ o.after, Region.binds .any e = true → S e.on) → ∀ a, m.testBit a = true → S a) →
    ∀ (i m : Nat) (o : Oper), (tcTab r T)[i]? = some m → ops[i]? = some o → (∀ e ∈ o.after, Region.binds .any e = true → S e.on) → ∀ a, m.testBit a = true → S a
  | [], pre, T, h, hl, hT => by simpa [tcTab] using hT
  | o :: r, pre, T, h, hl, hT => by
    simp only [tcTab]
    refine tcTab_sound hS r (pre ++ [o]) _ (by simp [h]) (by simp [hl]) ?_
    intro i m o' hm ho' he a ha
    rcases Nat.lt_or_ge i T.length with hi | hi
    · rw [List.getElem?_append_left hi] at hm
      exact hT i m o' hm ho' he a ha
    · have hi' : i = T.length := by
        have := lt_of_live' hm
        simp at this; omega
      subst hi'
      simp at hm
      have : o' = o := by
        rw [h, hl] at ho'
        simpa using ho'.symm
      subst this
      subst hm
      obtain ⟨e, h1, h2, h3⟩ := tcOf_sound ha
      rcases h3 with rfl | h3
      · exact he e h1 h2
      · have hs := he e h1 h2
        cases hx : T[e.on]? with
        | none => simp [List.getD_eq_getElem?_getD, hx] at h3
        | some m' =>
          have h3' : m'.testBit a = true := by simpa [List.getD_eq_getElem?_getD, hx] using h3
          have hlt := lt_of_live' hx
          have hlt' : e.on < ops.length := by rw [h]; simp; omega
          exact hT e.on m' ops[e.on] hx (List.getElem?_eq_getElem hlt') (fun e2 q1 q2 => hS e.on _ hs (List.getElem?_eq_getElem hlt') e2 q1 q2) a h3'

theorem dchkOne_sound {m : Nat} {y : AIns} : ∀ {k : Nat} {pre : List AIns}, dchkOne m y k pre = true → ∀ a x, pre[a]? = some x → m.testBit (k + a) = true ∨ (apartT x y = true ∧ apartH x y = true)
  | _, [], _, a, x, hx => by simp at hx
  | k, p :: pre, h, a, x, hx => by
    simp only [dchkOne, Bool.and_eq_true, Bool.or_eq_true] at h
    cases a with
    | zero => simp at hx; subst hx; exact h.1
    | succ a =>
      rw [show k + (a + 1) = (k + 1) + a by omega]
      exact dchkOne_sound h.2 a x (by simpa using hx)

theorem dchkAll_sound {T : List Nat} : ∀ {l pre : List AIns}, dchkAll T pre.length pre l = true → ∀ i a x y, pre.length ≤ i → a < i → (pre ++ l)[a]? = some x → (pre ++ l)[i]? = some y → (T.getD i 0).testBit a = true ∨ (apartT x y = true ∧ apartH x y = true)
  | [], pre, h, i, a, x, y, h0, h1, h2, h3 => by
    have := lt_of_live' h3
    simp at this; omega
  | z :: l, pre, h, i, a, x, y, h0, h1, h2, h3 => by
    simp only [dchkAll, Bool.and_eq_true] at h
    rcases Nat.lt_or_eq_of_le h0 with hlt | heq
    · have h' : dchkAll T (pre ++ [z]).length (pre ++ [z]) l = true := by simpa using h.2
      exact dchkAll_sound h' i a x y (by simp; omega) h1 (by simpa using h2) (by simpa using h3)
    · subst heq
      simp at h3
      subst h3
      rw [List.getElem?_append_left h1] at h2
      have := dchkOne_sound h.1 a x h2
      simpa using this

theorem backOk_sound : ∀ {k : Nat} {l : List Oper}, backOk k l = true → ∀ i o, l[i]? = some o → ∀ e ∈ o.after, Region.binds .any e = true → e.on < k + i
  | _, [], _, i, o, h => by simp at h
  | k, p :: l, h, i, o, ho => by
    simp only [backOk, Bool.and_eq_true] at h
    cases i with
    | zero =>
      simp at ho; subst ho
      intro e he hb
      have := List.all_eq_true.1 h.1 e (by simpa using he)
      simpa [hb] using this
    | succ i =>
      rw [show k + (i + 1) = (k + 1) + i by omega]
      exact backOk_sound h.2 i o (by simpa using ho)
end

/-! ### To the model -/
section
variable {P : Program} {nt : Nat}

theorem clist_get {mu : Nat → Nat → Bool} {rid : Nat} {ops : Array Oper} : ∀ (l0 : List Oper) (k : Nat) (l : List AIns), clist P mu nt rid ops k l0 = some l → l.length = l0.length ∧ ∀ i o, l0[i]? = some o → ∃ x, l[i]? = some x ∧ cins P (mu rid (k + i)) nt ops o = some x
  | [], k, l, h => by
    simp [clist] at h; subst h; simp
  | o :: l0, k, l, h => by
    simp only [clist] at h
    split at h
    · rename_i i l' hi hl
      cases h
      obtain ⟨q1, q2⟩ := clist_get l0 (k + 1) l' hl
      refine ⟨by simp [q1], fun j o' ho => ?_⟩
      cases j with
      | zero => simp at ho; subst ho; exact ⟨i, by simp, hi⟩
      | succ j =>
        obtain ⟨x, r1, r2⟩ := q2 j o' (by simpa using ho)
        exact ⟨x, by simpa using r1, by rw [show k + (j + 1) = (k + 1) + j by omega]; exact r2⟩
    · simp at h

/-- One instruction, in the model. -/
theorem St.wpOp {n0 : Nat} {mutable : Bool} {ops : Array Oper} {o : Oper} {j : Nat} (hj : ops[j]? = some o) {x : AIns} (hi : cins P mutable nt ops o = some x) {E : Emb} {env : Env} {tmps : Array Value} (hsz : tmps.size = nt)
    (hok : HOk E) (he : RepEnv E env tmps) (hn : n0 ≤ E.H.length) {e1 : Env} {H1 : Heap} (s : St P n0 x env E.H e1 H1) {Q : Exit → Act → World → Prop} {next : Act → World → Prop}
    (hnext : ∀ a w, Kc n0 nt E (fun e' H' => e' = e1 ∧ H' = H1) a w → next a w) : Go.wpOp P ops Q j next ⟨tmps, []⟩ E.w := by
  unfold cins at hi
  split at hi
  · rename_i hd
    split at hi
    · rename_i g a hg ha
      cases hi
      have hw := wanted_of (o := o) he hg
      unfold Go.wpOp
      rw [hj]
      simp only
      have go : (∀ t want, g = some (t, want) → look env t = .bool want) → astep P n0 a o.dst (fun e' H' => e' = e1 ∧ H' = H1) env E.H → (if Region.wanted o (yielded ops tmps) then o.wp P ⟨tmps, []⟩ E.w next Q ∨ (o.asks P ⟨tmps, []⟩ E.w ∧ LetsOut Q) else next ((Act.mk tmps []).put o.dst undef) E.w) := by
        intro hgd hs
        have hwt : Region.wanted o (yielded ops tmps) = true := by
          split at hw
          · exact hw
          · rename_i t want _
            rw [hw.1 want (hgd t want rfl)]; simp
        rw [if_pos hwt]
        exact .inl (astep_sound ha hd hsz hok he hn hs hnext)
      cases s with
      | skip hl =>
        rename_i t want
        simp only at hw
        have hf : Region.wanted o (yielded ops tmps) = false := by
          rcases hl with ⟨c, hl, hc⟩ | hl
          · rw [hw.1 c hl]; simpa using hc
          · exact hw.2 hl
        rw [if_neg (by rw [hf]; simp)]
        refine hnext _ _ ⟨E.φ, _, E.H, ⟨rfl, rfl⟩, hok, ?_, ?_, ?_, hn, Ext.refl _ _⟩
        · subst hsz; exact repenv_put he hd rep_undef
        · cases o.dst <;> rfl
        · rw [put_size]; exact hsz
      | pure hgd hp => exact go hgd (by simp only [astep, hp, obind, and_self])
      | bsl hgd hp => exact go hgd (by simp only [astep, hp, ebind, and_self])
      | call hgd hp => exact go hgd (by
          simp only [astep]
          have := hp []
          simp only [List.append_nil] at this
          exact this.mono fun r H' ⟨h1, h2⟩ => by subst h1; subst h2; exact ⟨rfl, rfl⟩)
      | callv hgd hf hp => exact go hgd (by
          simp only [astep, hf]
          have := hp []
          simp only [List.append_nil] at this
          exact this.mono fun r H' ⟨h1, h2⟩ => by subst h1; subst h2; exact ⟨rfl, rfl⟩)
      | eff hgd hp hne => exact go hgd (by simp only [astep, hp, ebind, and_self])
    · simp at hi
  · simp at hi

theorem repenv_eqv {E : Emb} {env env' : Env} {tmps : Array Value} (he : RepEnv E env tmps) (h : EqEnv env env') : RepEnv E env' tmps := fun t => by rw [← h t]; exact he t

theorem wpAny_of {mu : Nat → Nat → Bool} {rid : Nat} {ops : Array Oper} {l : List AIns} (hl : clist P mu nt rid ops 0 ops.toList = some l) (hback : backOk 0 ops.toList = true) {n0 : Nat} {G : Env → Prop} (hGk : ∀ x ∈ l, Keeps P n0 G x)
    {Q : Exit → Act → World → Prop} {E0 : Emb} {ef : Env} {Hf : Heap}
    (hQ : ∀ a w, Kc n0 nt E0 (fun e' H' => EqEnv ef e' ∧ H' = Hf) a w → Q .normal a w) :
    ∀ (fuel : Nat) (rem : List Nat) (listed : Array Bool), listed.size = ops.size → rem.Pairwise (· < ·) → (∀ i, i ∈ rem ↔ listed.getD i true = false) → rem.length ≤ fuel →
      Closed ops.toList (fun j => listed.getD j false = true) →
      (∀ i a x y, a ∈ rem → i ∈ rem → a < i → l[a]? = some x → l[i]? = some y → ((tcTab ops.toList []).getD i 0).testBit a = true ∨ SwG P n0 G x y) →
      ∀ (E : Emb) (env : Env) (tmps : Array Value) (ef' : Env), tmps.size = nt → HOk E → RepEnv E env tmps → n0 ≤ E.H.length → Ext (· < n0) E0 E → EqEnv ef ef' → G env →
        Sts P n0 (rem.filterMap (l[·]?)) env E.H ef' Hf → wpAny P .any ops Q fuel listed ⟨tmps, []⟩ E.w := by
  obtain ⟨hlen, hget⟩ := clist_get _ _ _ hl
  have done : ∀ (E : Emb) (env : Env) (tmps : Array Value) (ef' : Env), tmps.size = nt → HOk E → RepEnv E env tmps → n0 ≤ E.H.length → Ext (· < n0) E0 E → EqEnv ef ef' → Sts P n0 [] env E.H ef' Hf → Q .normal ⟨tmps, []⟩ E.w := by
    intro E env tmps ef' h1 h2 h3 h4 h5 h6 h7
    generalize hH : E.H = HH at h7
    cases h7
    exact hQ _ _ ⟨E.φ, env, E.H, ⟨h6, hH⟩, h2, h3, rfl, h1, h4, h5⟩
  have noready : ∀ (rem : List Nat) (listed : Array Bool), listed.size = ops.size → rem.Pairwise (· < ·) → (∀ i, i ∈ rem ↔ listed.getD i true = false) → Region.ready .any ops listed = [] → rem = [] := by
    intro rem listed hsz hp hm hr
    cases rem with
    | nil => rfl
    | cons i rem =>
      exfalso
      have hi := (hm i).1 (by simp)
      have hlt : i < ops.size := by
        rw [← hsz]
        rcases Nat.lt_or_ge i listed.size with h' | h'
        · exact h'
        · simp [Array.getElem?_eq_none h'] at hi
      have : i ∈ Region.ready .any ops listed := by
        rw [mem_ready]
        refine ⟨hi, ops[i], by simp [hlt], fun e he hb => ?_⟩
        have hlt2 := backOk_sound hback i ops[i] (by simp [hlt]) e he hb
        have hno : ¬ e.on ∈ i :: rem := by
          intro hmem
          rcases List.mem_cons.1 hmem with h | h
          · omega
          · have := (List.pairwise_cons.1 hp).1 _ h
            omega
        rw [hm] at hno
        have hlt3 : e.on < listed.size := by omega
        simp [hlt3] at hno ⊢
        exact hno
      rw [hr] at this
      cases this
  intro fuel
  induction fuel with
  | zero =>
    intro rem listed hsz hp hm hf hcl hall' E env tmps ef' h1 h2 h3 h4 h5 h6 hg h7
    have : rem = [] := List.length_eq_zero_iff.1 (Nat.le_zero.1 hf)
    subst this
    refine ⟨?_, done E env tmps ef' h1 h2 h3 h4 h5 h6 h7⟩
    cases hr : Region.ready .any ops listed with
    | nil => rfl
    | cons i r =>
      have := (mem_ready.1 (show i ∈ Region.ready .any ops listed by rw [hr]; simp)).1
      rw [← hm] at this
      simp at this
  | succ fuel ih =>
    intro rem listed hsz hp hm hf hcl hall' E env tmps ef' h1 h2 h3 h4 h5 h6 hg h7
    refine ⟨fun hr => ?_, fun i hi => ?_⟩
    · have := noready rem listed hsz hp hm hr
      subst this
      exact done E env tmps ef' h1 h2 h3 h4 h5 h6 h7
    · obtain ⟨hun, o, ho, hedges⟩ := mem_ready.1 hi
      have himem := (hm i).2 hun
      obtain ⟨A, B, rfl⟩ := List.append_of_mem himem
      obtain ⟨x, hx, hcx⟩ := hget i o (by simpa using ho)
      have hAlt : ∀ a ∈ A, a < i := fun a ha => (List.pairwise_append.1 hp).2.2 a ha i (by simp)
      have hapart : ∀ z ∈ A.filterMap (l[·]?), SwG P n0 G z x ∧ Keeps P n0 G z := by
        intro z hz
        obtain ⟨a, ha, hza⟩ := List.mem_filterMap.1 hz
        refine ⟨?_, hGk z (List.mem_of_getElem? (by simpa using hza))⟩
        rcases hall' i a z x (by simp [ha]) (by simp) (hAlt a ha) (by simpa using hza) (by simpa using hx) with hb | hb
        · exfalso
          -- a would be listed
          have hT : ∃ m, (tcTab ops.toList [])[i]? = some m ∧ m.testBit a = true := by
            cases hq : (tcTab ops.toList [])[i]? with
            | none => simp [List.getD_eq_getElem?_getD, hq] at hb
            | some m => exact ⟨m, rfl, by simpa [List.getD_eq_getElem?_getD, hq] using hb⟩
          obtain ⟨m, hm1, hm2⟩ := hT
          have := tcTab_sound (S := fun j => listed.getD j false = true) hcl ops.toList [] [] rfl rfl (by simp) i m o hm1 (by simpa using ho) hedges a hm2
          have ha' := (hm a).1 (by simp [ha])
          rcases Nat.lt_or_ge a listed.size with h' | h'
          · simp [h'] at this ha'; rw [this] at ha'; cases ha'
          · simp [Array.getElem?_eq_none h'] at ha'
        · exact hb
      simp only [List.filterMap_append, List.filterMap_cons, hx] at h7
      obtain ⟨e1, H1, ef2, q1, q2, q3⟩ := Sts.bubble _ hg hapart h7
      refine St.wpOp ho hcx h1 h2 h3 h4 q1 ?_
      rintro a w' ⟨φ, env', H', ⟨rfl, rfl⟩, r1, r2, r3, r4, r5, r6⟩
      have ha : a = ⟨a.tmps, []⟩ := by cases a; simp at r3; simp [r3]
      rw [ha]
      have hilt : i < listed.size := by
        rcases Nat.lt_or_ge i listed.size with h' | h'
        · exact h'
        · simp [Array.getElem?_eq_none h'] at hun
      have hpAB : (A ++ B).Pairwise (· < ·) := by
        rw [List.pairwise_append] at hp ⊢
        exact ⟨hp.1, (List.pairwise_cons.1 hp.2.1).2, fun a ha b hb => hp.2.2 a ha b (by simp [hb])⟩
      have hiB : ∀ b ∈ B, i < b := (List.pairwise_cons.1 (List.pairwise_append.1 hp).2.1).1
      refine ih (A ++ B) (listed.setIfInBounds i true) (by simp [hsz]) hpAB ?_ (by simp at hf ⊢; omega) ?_ (fun i' a' x' y' ha' hi' => hall' i' a' x' y' (by simp at ha' ⊢; rcases ha' with h | h <;> simp [h]) (by simp at hi' ⊢; rcases hi' with h | h <;> simp [h])) ⟨φ, H', w'⟩ env' a.tmps ef2 r4 r1 r2 r5 (h5.trans r6) (h6.trans q3) (hGk x (List.mem_of_getElem? (by simpa using hx)) hg q1) (by simpa [List.filterMap_append] using q2)
      · intro k
        by_cases hk : k = i
        · subst hk
          constructor
          · intro hmem
            exfalso
            rcases List.mem_append.1 hmem with h | h
            · exact Nat.lt_irrefl _ (hAlt _ h)
            · exact Nat.lt_irrefl _ (hiB _ h)
          · intro h; simp [hilt] at h
        · rw [getD_set_ne true (Ne.symm hk), ← hm k]
          simp [hk]
      · intro j oj hj hoj e he hb
        by_cases hji : j = i
        · subst hji
          have : oj = o := by
            have h' : ops.toList[j]? = some o := by simpa using ho
            rw [h'] at hoj; cases hoj; rfl
          subst this
          exact getD_set_true (hedges e he hb)
        · rw [getD_set_ne false (Ne.symm hji)] at hj
          exact getD_set_true (hcl j oj hj hoj e he hb)

/-- The same memory, one more order drawn. -/
theorem ext_drew (S : Nat → Prop) (φ : Nat → Option Nat) (H : Heap) (w : World) (n : Nat) : Ext S ⟨φ, H, w⟩ ⟨φ, H, { w with drawn := n }⟩ :=
  ⟨rfl, rfl, rfl, Nat.le_refl _, fun _ _ h => h, fun _ _ _ => rfl, fun id blk' _ _ h => ⟨blk', h, rfl⟩, fun _ _ _ _ _ _ _ => rfl, fun _ _ h => h, fun _ _ _ => rfl⟩

theorem hok_drew {φ : Nat → Option Nat} {H : Heap} {w : World} {n : Nat} (h : HOk ⟨φ, H, w⟩) : HOk ⟨φ, H, { w with drawn := n }⟩ := by
  refine ⟨h.wpos, h.wids, ?_, h.emp, h.inj⟩
  intro id blk b h1 h2
  obtain ⟨c, e, r⟩ := h.row id blk b h1 h2
  exact ⟨c, e, r.heap, r.fits, r.one, fun k v a hk ha => (r.rep k v a hk ha).mono (ext_drew All φ H w n) ((r.rep k v a hk ha).ref.mono fun _ _ => trivial)⟩

end

/-- The region's instructions, its calls being such as only answer: what holds behind them. -/
def dstep (P : Program) (n0 : Nat) (o : AOp) (d : Option Nat) (K : Env → Heap → Prop) (env : Env) (H : Heap) : Prop :=
  match o with
  | .p o => obind (pv o env H) fun v => K (put d v env) H
  | .e o => ebind (ev n0 o env H) fun v env' H' => K (put d v env') H'
  | .call f args => ∃ r, (∀ L, ACalls P f (args.map (·.ev env)) (H ++ L) fun r' H' => r' = r ∧ H' = H ++ L) ∧ K (put d r env) H
  | .callv g args => match g.ev env with
    | .fn f caps => ∃ r, (∀ L, ACalls P f (args.map (·.ev env) ++ caps) (H ++ L) fun r' H' => r' = r ∧ H' = H ++ L) ∧ K (put d r env) H
    | _ => False

def dops (P : Program) (n0 : Nat) : List AIns → (Env → Heap → Prop) → Env → Heap → Prop
  | [], K, env, H => K env H
  | i :: l, K, env, H =>
    match i.guard with
    | none => dstep P n0 i.op i.dst (dops P n0 l K) env H
    | some (t, want) => gguard want (look env t) fun c => if c = want then dstep P n0 i.op i.dst (dops P n0 l K) env H else dops P n0 l K (put i.dst (.tup []) env) H

theorem dstep_sts {P : Program} {n0 : Nat} {o : AOp} {d : Option Nat} {g : Option (Nat × Bool)} {K : Env → Heap → Prop} {env : Env} {H : Heap} (hg : ∀ t want, g = some (t, want) → look env t = .bool want) (h : dstep P n0 o d K env H) :
    ∃ e1 H1, St P n0 ⟨d, g, o⟩ env H e1 H1 ∧ K e1 H1 := by
  cases o with
  | p o =>
    simp only [dstep, obind] at h
    split at h
    · rename_i v hv
      exact ⟨_, _, .pure hg hv, h⟩
    · exact h.elim
  | e o =>
    simp only [dstep, ebind] at h
    split at h
    · rename_i v env' H' hv
      by_cases hb : ∃ wd ps, o = .bsl wd ps
      · obtain ⟨wd, ps, rfl⟩ := hb
        have : env' = env ∧ H' = H := by
          simp only [ev] at hv
          split at hv
          · cases hv; exact ⟨rfl, rfl⟩
          · simp at hv
        obtain ⟨rfl, rfl⟩ := this
        exact ⟨_, _, .bsl hg hv, h⟩
      · exact ⟨_, _, .eff hg hv (fun wd ps he => hb ⟨wd, ps, he⟩), h⟩
    · exact h.elim
  | call f args =>
    obtain ⟨r, h1, h2⟩ := h
    exact ⟨_, _, .call hg h1, h2⟩
  | callv s args =>
    simp only [dstep] at h
    split at h
    · rename_i f caps hf
      obtain ⟨r, h1, h2⟩ := h
      exact ⟨_, _, .callv hg hf h1, h2⟩
    · exact h.elim

theorem dops_sts {P : Program} {n0 : Nat} {K : Env → Heap → Prop} : ∀ {l : List AIns} {env : Env} {H : Heap}, dops P n0 l K env H → ∃ e1 H1, Sts P n0 l env H e1 H1 ∧ K e1 H1
  | [], env, H, h => ⟨_, _, .nil, h⟩
  | ⟨d, g, o⟩ :: l, env, H, h => by
    simp only [dops] at h
    split at h
    · obtain ⟨e1, H1, q1, q2⟩ := dstep_sts (g := none) (by simp) h
      obtain ⟨e2, H2, r1, r2⟩ := dops_sts q2
      exact ⟨_, _, .cons q1 r1, r2⟩
    · rename_i t want
      simp only [gguard] at h
      split at h
      · rename_i c hc
        split at h
        · rename_i hcw
          subst hcw
          obtain ⟨e1, H1, q1, q2⟩ := dstep_sts (g := some (t, c)) (by rintro _ _ ⟨⟩; exact hc) h
          obtain ⟨e2, H2, r1, r2⟩ := dops_sts q2
          exact ⟨_, _, .cons q1 r1, r2⟩
        · rename_i hcw
          obtain ⟨e2, H2, r1, r2⟩ := dops_sts h
          exact ⟨_, _, .cons (.skip (.inl ⟨c, hc, hcw⟩)) r1, r2⟩
      · rename_i hc
        rw [if_neg (by cases want <;> simp)] at h
        obtain ⟨e2, H2, r1, r2⟩ := dops_sts h
        exact ⟨_, _, .cons (.skip (.inr hc)) r1, r2⟩
      · exact h.elim

theorem Safe.regionD {x : Cx} {todo : List AItem} {env : Env} {H : Heap} {R : AV → Heap → Prop} {l : List AIns} (h : dops x.P x.n0 l (fun env' H' => Safe x todo env' H' R) env H) : Safe x (.code (.region l true) :: todo) env H R := by
  intro φ w tmps b k cs hg hn hb hk ht hsz hok he
  obtain ⟨i, k', rfl, h1, h2⟩ := todo_cons ht
  obtain ⟨c, rfl, h1⟩ := code_item h1
  obtain ⟨id, ops, rfl, g1, g2⟩ := inv_region h1
  have g2 := g2 rfl
  have hmix : x.P.follows .mixedOrders = true := by simp only [dchk, Bool.and_eq_true] at g2; exact g2.1
  obtain ⟨ef, Hf, s1, s2⟩ := dops_sts h
  have hx0 := ext_drew (· < x.n0) φ H w (w.drawn + 1)
  have hxA := ext_drew All φ H w (w.drawn + 1)
  have hlst : (List.range ops.size).filterMap (l[·]?) = l := by
    have := (clist_get _ _ _ g1).1
    have hl : ops.size = l.length := by simpa using this.symm
    rw [hl]
    apply List.ext_getElem?
    intro m
    have : ∀ (n : Nat), n ≤ l.length → (List.range n).filterMap (l[·]?) = l.take n := by
      intro n
      induction n with
      | zero => simp
      | succ n ih =>
        intro hn
        rw [List.range_succ, List.filterMap_append, ih (by omega), List.take_add_one]
        simp [List.getElem?_eq_getElem (show n < l.length by omega)]
    rw [this l.length (Nat.le_refl _), List.take_length]
  have g3 := g2
  simp only [dchk, Bool.and_eq_true] at g3
  have hall' := dchkAll_sound (pre := []) g3.2.2
  have hw := wpAny_of (P := x.P) (nt := x.nt) g1 g3.2.1 (n0 := x.n0) (G := fun _ => True) (fun _ _ => fun _ _ => trivial) (E0 := ⟨φ, H, { w with drawn := w.drawn + 1 }⟩) (ef := ef) (Hf := Hf)
    (Q := fun e a w' => e = .normal ∧ Kc x.n0 x.nt ⟨φ, H, { w with drawn := w.drawn + 1 }⟩ (fun e' H' => EqEnv ef e' ∧ H' = Hf) a w') (fun a w h => ⟨rfl, h⟩)
    ops.size (List.range ops.size) (Array.replicate ops.size false) (by simp) (List.pairwise_lt_range) (by
      intro i
      rw [List.mem_range]
      constructor
      · intro hi; simp [hi]
      · intro hi
        rcases Nat.lt_or_ge i ops.size with h' | h'
        · exact h'
        · simp [Array.getElem?_eq_none (show (Array.replicate ops.size false).size ≤ i by simpa using h')] at hi) (by simp) (by
      intro j o hj
      exfalso
      rcases Nat.lt_or_ge j ops.size with h' | h'
      · simp [h'] at hj
      · simp [Array.getElem?_eq_none (show (Array.replicate ops.size false).size ≤ j by simpa using h')] at hj)
    (fun i a x y _ _ hai hx hy => by
      rcases hall' i a x y (by simp) hai (by simpa using hx) (by simpa using hy) with h | h
      · exact .inl h
      · exact .inr fun _ s t => St.swap h.1 h.2 s t)
    ⟨φ, H, { w with drawn := w.drawn + 1 }⟩ env tmps ef hsz (hok_drew hok) (he.mono (hxA.sub fun _ _ => trivial)) hn (Ext.refl _ _) (.refl _) trivial (by rw [hlst]; exact s1)
  obtain ⟨e, a', w', ⟨rfl, φ1, env1, H1, ⟨sq, rfl⟩, s3, s4, s5, s6, s7, s8⟩, harr⟩ := wp_region_any hmix hw b k' cs
  have ha : a' = ⟨a'.tmps, []⟩ := by cases a'; simp at s5; simp [s5]
  rw [ha] at harr
  obtain ⟨v, w2, fr, r, φ', H', q1, q2, q3, q4, q5, q6, q7⟩ := s2 φ1 w' a'.tmps b k' cs hg s7 hb hk h2 s6 s3 (repenv_eqv s4 sq.symm)
  exact ⟨v, w2, fr, r, φ', H', q1, q2, q3, q4, hx0.trans (s8.trans q5), Steps.trans harr q6, q7⟩

end Go.Abs

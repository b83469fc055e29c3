/- Part 3 of the proof of BookBack: A12, A20, A13, A14, A15, A16, A17, A18, A19, A22, A23, A24, A25, A26, A27, A28. -/
import Derived.Test.YtclecbomkhgflaaGreatDoorBookBackK2
import Derived.Below
set_option linter.unusedVariables false
set_option linter.unusedSimpArgs false
namespace Go.Abs
section
variable {P : Program} {n0 : Nat}
theorem a6b {H L : Heap} {id : Nat} {b : Blk} (h : hrow H id = some b) : hrow (H ++ L) id = some b := by
 have := a0N h
 unfold hrow
 rw [List.getElem?_append_left (a0k this), this]; rfl
theorem c4z {H : Heap} {id : Nat} (h : (hrow H id).isSome = true) : ∃ b, hrow H id = some b := Option.isSome_iff_exists.1 h
theorem e7V {H L : Heap} {a : AV} {cs : List AV} (h : atV H a = some cs) : atV (H ++ L) a = some cs := by
 cases a <;> simp only [atV] at h ⊢ <;> first | exact h | skip
 case loc id i off =>
  simp only [Option.bind_eq_some_iff] at h ⊢
  obtain ⟨b, hb, h⟩ := h
  exact ⟨b, a6b hb, h⟩
theorem d0a {H L : Heap} {a : AV} {l : List (Int × Int)} (h : a9W H a = some l) : a9W (H ++ L) a = some l := by
 unfold a9W at h ⊢
 split at h
 ·split at h
  ·rename_i hr; rw [a6b hr]; exact h
  ·cases h
 ·cases h
theorem b1s {H : Heap} {id : Nat} {r : List Nat × List ByteArray × List AV × Nat} (h : a2P H (.mp true id) = some r) : a9W H (.mp true id) = none := by
 unfold a2P at h
 unfold a9W
 simp only at h ⊢
 split at h
 ·rename_i hrw
  rw [hrw]; rfl
 ·cases h
theorem b8e {H L : Heap} {a : AV} {r : List Nat × List ByteArray × List AV × Nat} (h : a2P H a = some r) : a2P (H ++ L) a = some r := by
 unfold a2P at h ⊢
 split at h
 ·rename_i id
  split at h
  ·rename_i hrw
   rw [a6b hrw]; exact h
  ·cases h
 ·cases h
theorem d6m {H L : Heap} {a : AV} {l : Nat × Nat × List Nat} (h : a9x H a = some l) : a9x (H ++ L) a = some l := by
 unfold a9x at h ⊢
 split at h
 ·split at h
  ·rename_i hr; rw [a6b hr]; exact h
  ·cases h
 ·cases h
theorem e7g {o : POp} {e : Env} {H L : Heap} {v : AV} (h : pv o e H = some v) : pv o e (H ++ L) = some v := by
 cases o <;> simp only [pv] at h ⊢ <;> first | exact h | skip
 case len a =>
  generalize a.ev e = x at h ⊢
  cases x <;> simp only [lenV] at h ⊢ <;> first | exact h | skip
  case mu id off len oc =>
   split at h
   ·rename_i hs
    obtain ⟨b, hb⟩ := c4z hs
    rw [if_pos (by rw [a6b hb]; rfl)]; exact h
   ·simp at h
 case fldp a off =>
  generalize a.ev e = x at h ⊢
  cases x <;> simp only at h ⊢ <;> first | exact h | skip
  case loc id i o =>
   split at h
   ·rename_i hs
    obtain ⟨b, hb⟩ := c4z hs
    rw [if_pos (by rw [a6b hb]; rfl)]; exact h
   ·simp at h
 case idxp wd a i =>
  generalize a.ev e = x at h ⊢
  generalize i.ev e = y at h ⊢
  cases y <;> simp only [idxV] at h ⊢ <;> first | exact h | skip
  cases x <;> simp only at h ⊢ <;> first | exact h | skip
  simp only [Option.bind_eq_some_iff] at h ⊢
  obtain ⟨b, hb, h⟩ := h
  exact ⟨b, a6b hb, h⟩
 case load n a =>
  simp only [c4s, Option.bind_eq_some_iff] at h ⊢
  obtain ⟨cs, hc, h⟩ := h
  exact ⟨cs, e7V hc, h⟩
 case slc wd x lo hi mx =>
  generalize x.ev e = x at h ⊢
  generalize lo.map (·.ev e) = lo at h ⊢
  generalize hi.map (·.ev e) = hi at h ⊢
  generalize mx.map (·.ev e) = mx at h ⊢
  cases x <;> simp only [slcV] at h ⊢ <;> first | exact h | skip
  simp only [Option.bind_eq_some_iff] at h ⊢
  obtain ⟨b, hb, h⟩ := h
  exact ⟨b, a6b hb, h⟩
 case b2s a =>
  generalize a.ev e = x at h ⊢
  cases x <;> simp only [b2sV] at h ⊢ <;> first | exact h | skip
  simp only [Option.bind_eq_some_iff] at h ⊢
  obtain ⟨b, hb, h⟩ := h
  exact ⟨b, a6b hb, h⟩
 case mlook m k =>
  split at h
  ·rename_i L' x h1 h2
   rw [d0a h1, h2]; exact h
  ·cases h
 case ment a =>
  split at h
  ·rename_i mid n seen h1
   rw [d6m h1]
   split at h
   ·rename_i L' i h2 h3
    simp only
    rw [d0a h2, h3]; exact h
   ·rename_i c h2 h3
    simp only [Option.bind_eq_some_iff] at h
    obtain ⟨q, h4, h5⟩ := h
    have hm : a9W (H ++ L) (.mp true mid) = none := b1s (b8e h4)
    simp only
    rw [hm, h3]
    simp only [Option.bind_eq_some_iff]
    exact ⟨q, b8e h4, h5⟩
   ·cases h
  ·cases h
 case smap q m k =>
  generalize m.ev e = x at h ⊢
  generalize k.ev e = y at h ⊢
  unfold c2J at h ⊢
  split at h
  ·rename_i h1
   rw [b8e h1]; exact h
  ·cases h
 case isn p q a =>
  generalize a.ev e = x at h ⊢
  unfold isnV at h ⊢
  split at h <;> first | exact h | skip
  all_goals
   split at h
   ·rename_i hl
    obtain ⟨b, hb⟩ := Option.isSome_iff_exists.1 hl
    rw [a6b hb]; exact h
   ·cases h
theorem e1k {o : POp} {e : Env} {H H' : Heap} (h : o.hfree = true) : pv o e H = pv o e H' := by
 cases o <;> first | (simp [POp.hfree] at h; done) | rfl
theorem a1e {g : Option (Nat × Bool)} {e e' : Env} (hg : ∀ t want, g = some (t, want) → look e t = .bool want) (h : ∀ t ∈ (match g with | some (t, _) => [t] | none => []), look e t = look e' t) : ∀ t want, g = some (t, want) → look e' t = .bool want := by
 intro t want hh
 subst hh
 rw [← h t (by simp)]
 exact hg t want rfl
theorem b8k {x : AIns} {e : Env} {H : Heap} {e1 : Env} {H1 : Heap} (s : St P n0 x e H e1 H1) (hq : x.op.quiet = true) :
  H1 = H ∧ ∃ v, e1 = put x.dst v e ∧ ∀ e' L, (∀ t ∈ x.reads, look e t = look e' t) → St P n0 x e' (H ++ L) (put x.dst v e') (H ++ L) := by
 cases s with
 | skip hl => exact ⟨rfl, .tup [], rfl, fun e' L h => .skip (by rw [← h _ (by simp [AIns.reads])]; exact hl)⟩
 | pure hg hp => exact ⟨rfl, _, rfl, fun e' L h => .pure (a1e hg fun t ht => h t (by simp only [AIns.reads, List.mem_append]; exact .inl ht)) (by rw [← c1H (fun t ht => h t (by simp only [AIns.reads, List.mem_append]; exact .inr ht))]; exact e7g hp)⟩
 | bsl hg hp =>
  refine ⟨rfl, _, rfl, fun e' L h => .bsl (a1e hg fun t ht => h t (by simp only [AIns.reads, List.mem_append]; exact .inl ht)) ?_⟩
  rename_i wd ps v
  have hev : ∀ s ∈ ps, s.ev e = s.ev e' := fun s hs => a0p fun t ht => h t (by simp only [AIns.reads, AOp.reads, EOp.reads, List.mem_append, List.mem_flatMap]; exact .inr ⟨s, hs, ht⟩)
  have hm : ps.map (·.ev e) = ps.map (·.ev e') := List.map_congr_left hev
  simp only [ev] at hp ⊢
  split at hp
  ·rename_i hc
   cases hp
   rw [if_pos, hm]
   refine ⟨hc.1, ?_⟩
   have := hc.2
   simp only [List.all_eq_true] at this ⊢
   intro s hs
   have h2 := this s hs
   rw [hev s hs] at h2
   exact h2
  ·simp at hp
 | call hg hp =>
  refine ⟨rfl, _, rfl, fun e' L h => .call (a1e hg fun t ht => h t (by simp only [AIns.reads, List.mem_append]; exact .inl ht)) ?_⟩
  intro L'
  rw [← b0t (fun t ht => h t (by simp only [AIns.reads, AOp.reads, List.mem_append]; exact .inr ht)), List.append_assoc]
  exact hp (L ++ L')
 | callv hg hf hp =>
  refine ⟨rfl, _, rfl, fun e' L h => .callv (a1e hg fun t ht => h t (by simp only [AIns.reads, List.mem_append]; exact .inl ht)) (by rw [← a0p (fun t ht => h t (by simp only [AIns.reads, AOp.reads, List.mem_append]; exact .inr (.inl ht)))]; exact hf) ?_⟩
  intro L'
  rw [← b0t (fun t ht => h t (by simp only [AIns.reads, AOp.reads, List.mem_append]; exact .inr (.inr ht))), List.append_assoc]
  exact hp (L ++ L')
 | gcall hg hp => simp [AOp.quiet] at hq
 | gcallv hg hf hp => simp [AOp.quiet] at hq
 | eff hg hp hn =>
  rename_i o v _
  cases o <;> first | (simp [AOp.quiet] at hq; done) | exact absurd rfl (hn _ _)
theorem b8T {x : AIns} {e : Env} {H : Heap} {e1 : Env} {H1 : Heap} (s : St P n0 x e H e1 H1) (hq : x.op.hfree = true) :
  H1 = H ∧ ∃ v, e1 = put x.dst v e ∧ ∀ e' H', (∀ t ∈ x.reads, look e t = look e' t) → St P n0 x e' H' (put x.dst v e') H' := by
 cases s with
 | skip hl => exact ⟨rfl, .tup [], rfl, fun e' L h => .skip (by rw [← h _ (by simp [AIns.reads])]; exact hl)⟩
 | pure hg hp => exact ⟨rfl, _, rfl, fun e' L h => .pure (a1e hg fun t ht => h t (by simp only [AIns.reads, List.mem_append]; exact .inl ht)) (by rw [← c1H (fun t ht => h t (by simp only [AIns.reads, List.mem_append]; exact .inr ht))]; rw [e1k (H' := H) (by simpa [AOp.hfree] using hq)]; exact hp)⟩
 | bsl hg hp => simp [AOp.hfree] at hq
 | call hg hp => simp [AOp.hfree] at hq
 | callv hg hf hp => simp [AOp.hfree] at hq
 | gcall hg hp => simp [AOp.hfree] at hq
 | gcallv hg hf hp => simp [AOp.hfree] at hq
 | eff hg hp hn => simp [AOp.hfree] at hq
theorem b8a {x : AIns} {e : Env} {H : Heap} {e1 : Env} {H1 : Heap} (s : St P n0 x e H e1 H1) (hq : x.op.isStore = true) :
  ∃ v, e1 = put x.dst v e ∧ ∀ e', (∀ t ∈ x.reads, look e t = look e' t) → St P n0 x e' H (put x.dst v e') H1 := by
 cases s with
 | skip hl => exact ⟨.tup [], rfl, fun e' h => .skip (by rw [← h _ (by simp [AIns.reads])]; exact hl)⟩
 | pure hg hp => simp [AOp.isStore] at hq
 | bsl hg hp => simp [AOp.isStore] at hq
 | call hg hp => simp [AOp.isStore] at hq
 | callv hg hf hp => simp [AOp.isStore] at hq
 | gcall hg hp => simp [AOp.isStore] at hq
 | gcallv hg hf hp => simp [AOp.isStore] at hq
 | eff hg hp hn =>
  rename_i o v _
  cases o <;> first | (simp [AOp.isStore] at hq; done) | skip
  rename_i n a b
  have hp0 := hp
  simp only [ev] at hp
  split at hp
  ·rename_i id i off heq
   simp only [Option.bind_eq_some_iff] at hp
   obtain ⟨blk, hb, hp⟩ := hp
   split at hp
   ·rename_i hc
    cases hp
    refine ⟨_, rfl, fun e' h => .eff (a1e hg fun t ht => h t (by simp only [AIns.reads, List.mem_append]; exact .inl ht)) ?_ (by simp)⟩
    have ha : a.ev e = a.ev e' := a0p fun t ht => h t (by simp only [AIns.reads, AOp.reads, EOp.reads, List.mem_append]; exact .inr (.inl ht))
    have hbv : b.ev e = b.ev e' := a0p fun t ht => h t (by simp only [AIns.reads, AOp.reads, EOp.reads, List.mem_append]; exact .inr (.inr ht))
    rw [hbv] at hc
    simp only [ev, ← ha, heq, Option.bind_eq_some_iff]
    exact ⟨blk, hb, by rw [if_pos hc, hbv]⟩
   ·simp at hp
  ·simp at hp
theorem e2K {x : AIns} {e : Env} {H : Heap} {e1 : Env} {H1 : Heap} (s : St P n0 x e H e1 H1) (hq : x.op.isBox = true) :
  ∃ v L, H1 = H ++ L ∧ e1 = put x.dst v e ∧ ∀ e', (∀ t ∈ x.reads, look e t = look e' t) → St P n0 x e' H (put x.dst v e') H1 := by
 cases s with
 | skip hl => exact ⟨.tup [], [], by simp, rfl, fun e' h => .skip (by rw [← h _ (by simp [AIns.reads])]; exact hl)⟩
 | pure hg hp => simp [AOp.isBox] at hq
 | bsl hg hp => simp [AOp.isBox] at hq
 | call hg hp => simp [AOp.isBox] at hq
 | callv hg hf hp => simp [AOp.isBox] at hq
 | gcall hg hp =>
  refine ⟨_, _, rfl, rfl, fun e' h => .gcall (a1e hg fun t ht => h t (by simp only [AIns.reads, List.mem_append]; exact .inl ht)) ?_⟩
  rw [← b0t (fun t ht => h t (by simp only [AIns.reads, AOp.reads, List.mem_append]; exact .inr ht))]
  exact hp
 | gcallv hg hf hp =>
  refine ⟨_, _, rfl, rfl, fun e' h => .gcallv (a1e hg fun t ht => h t (by simp only [AIns.reads, List.mem_append]; exact .inl ht)) (by rw [← a0p (fun t ht => h t (by simp only [AIns.reads, AOp.reads, List.mem_append]; exact .inr (.inl ht)))]; exact hf) ?_⟩
  rw [← b0t (fun t ht => h t (by simp only [AIns.reads, AOp.reads, List.mem_append]; exact .inr (.inr ht)))]
  exact hp
 | eff hg hp hn =>
  rename_i o v _
  cases o <;> first | (simp [AOp.isBox] at hq; done) | skip
  case box n b =>
   simp only [ev] at hp
   split at hp
   ·rename_i hc
    cases hp
    refine ⟨_, _, rfl, rfl, fun e' h => .eff (a1e hg fun t ht => h t (by simp only [AIns.reads, List.mem_append]; exact .inl ht)) ?_ (by simp)⟩
    have hbv : b.ev e = b.ev e' := a0p fun t ht => h t (by simp only [AIns.reads, AOp.reads, EOp.reads, List.mem_append]; exact .inr ht)
    rw [hbv] at hc
    simp only [ev]
    rw [if_pos hc, hbv]
   ·simp at hp
  case bslm wd ps =>
   simp only [ev] at hp
   split at hp
   ·rename_i hc
    cases hp
    refine ⟨_, _, rfl, rfl, fun e' h => .eff (a1e hg fun t ht => h t (by simp only [AIns.reads, List.mem_append]; exact .inl ht)) ?_ (by simp)⟩
    have hev : ∀ s ∈ ps, s.ev e = s.ev e' := fun s hs => a0p fun t ht => h t (by simp only [AIns.reads, AOp.reads, EOp.reads, List.mem_append, List.mem_flatMap]; exact .inr ⟨s, hs, ht⟩)
    have hm : ps.map (·.ev e) = ps.map (·.ev e') := List.map_congr_left hev
    simp only [ev]
    rw [if_pos, hm]
    refine ⟨hc.1, ?_⟩
    have := hc.2
    simp only [List.all_eq_true] at this ⊢
    intro s hs
    have h2 := this s hs
    rw [hev s hs] at h2
    exact h2
   ·simp at hp
theorem c2c {y : AIns} {e : Env} {H : Heap} {e1 : Env} {H1 : Heap} (s : St P n0 y e H e1 H1) (hq : y.op.isApp = true) :
  ∃ v, (e1 = put y.dst v e ∧ ∀ e', (∀ t ∈ y.reads, look e t = look e' t) → St P n0 y e' H (put y.dst v e') H1) ∨
   ∃ id, e1 = put y.dst v (scrub id e) ∧ ∀ e', (∀ t ∈ y.reads, look e t = look e' t) → St P n0 y e' H (put y.dst v (scrub id e')) H1 := by
 cases s with
 | skip hl => exact ⟨.tup [], .inl ⟨rfl, fun e' h => .skip (by rw [← h _ (by simp [AIns.reads])]; exact hl)⟩⟩
 | pure hg hp => simp [AOp.isApp] at hq
 | bsl hg hp => simp [AOp.isApp] at hq
 | call hg hp => simp [AOp.isApp] at hq
 | callv hg hf hp => simp [AOp.isApp] at hq
 | gcall hg hp => simp [AOp.isApp] at hq
 | gcallv hg hf hp => simp [AOp.isApp] at hq
 | eff hg hp hn =>
  rename_i d g o v e2
  cases o <;> first | (simp [AOp.isApp] at hq; done) | skip
  rename_i wd bytes str a b
  have hab : ∀ e', (∀ t ∈ (AIns.mk d g (.e (.app wd bytes str a b)) : AIns).reads, look e t = look e' t) → a.ev e = a.ev e' ∧ b.ev e = b.ev e' := fun e' h =>
   ⟨a0p fun t ht => h t (by simp only [AIns.reads, AOp.reads, EOp.reads, List.mem_append]; exact .inr (.inl ht)), a0p fun t ht => h t (by simp only [AIns.reads, AOp.reads, EOp.reads, List.mem_append]; exact .inr (.inr ht))⟩
  have hgd : ∀ e', (∀ t ∈ (AIns.mk d g (.e (.app wd bytes str a b)) : AIns).reads, look e t = look e' t) → ∀ t want, g = some (t, want) → look e' t = .bool want := fun e' h => a1e hg fun t ht => h t (by simp only [AIns.reads, List.mem_append]; exact .inl ht)
  simp only [ev, Option.bind_eq_some_iff] at hp
  obtain ⟨ys, hys, hp⟩ := hp
  refine ⟨v, ?_⟩
  split at hp
  ·rename_i hae
   split at hp
   ·rename_i hc
    cases hp
    refine .inl ⟨rfl, fun e' h => .eff (hgd e' h) ?_ (by simp)⟩
    simp only [ev, ← (hab e' h).1, ← (hab e' h).2, hys, Option.bind_some, hae]
    rw [if_pos hc]
   ·simp at hp
  ·rename_i id off len oc hae
   simp only [Option.bind_eq_some_iff] at hp
   obtain ⟨r, hr, hp⟩ := hp
   split at hp
   ·rename_i hc
    cases hp
    refine .inl ⟨rfl, fun e' h => .eff (hgd e' h) ?_ (by simp)⟩
    simp only [ev, ← (hab e' h).1, ← (hab e' h).2, hys, Option.bind_some, hae, hr]
    rw [if_pos hc]
   ·rename_i hc0
    split at hp
    ·rename_i hc
     cases hp
     refine .inr ⟨id, rfl, fun e' h => .eff (hgd e' h) ?_ (by simp)⟩
     simp only [ev, ← (hab e' h).1, ← (hab e' h).2, hys, Option.bind_some, hae, hr]
     rw [if_neg hc0, if_pos hc]
    ·rename_i hc1
     split at hp
     ·rename_i hc
      cases hp
      refine .inl ⟨rfl, fun e' h => .eff (hgd e' h) ?_ (by simp)⟩
      simp only [ev, ← (hab e' h).1, ← (hab e' h).2, hys, Option.bind_some, hae, hr]
      rw [if_neg hc0, if_neg hc1, if_pos hc]
     ·rename_i hc2
      split at hp
      ·rename_i hc
       cases hp
       refine .inr ⟨id, rfl, fun e' h => .eff (hgd e' h) ?_ (by simp)⟩
       simp only [ev, ← (hab e' h).1, ← (hab e' h).2, hys, Option.bind_some, hae, hr]
       rw [if_neg hc0, if_neg hc1, if_neg hc2, if_pos hc]
      ·simp at hp
  ·simp at hp
theorem e7o (id : Nat) (b : Bool) : nref id (.bool b) = true := a0l.2 (.bool b)
theorem e4V {x : AIns} {e : Env} {H : Heap} {e1 : Env} {H1 : Heap} (s : St P n0 x e H e1 H1) (hq : x.op.isMv = true) :
  H1 = H ∧ ∃ v, e1 = put x.dst v e ∧ (∀ e' H', (∀ t ∈ x.reads, look e t = look e' t) → St P n0 x e' H' (put x.dst v e') H') ∧
   ∀ id e' H', (∀ t ∈ x.reads, (if nref id (look e t) then look e t else .top) = look e' t) → St P n0 x e' H' (put x.dst (if nref id v then v else .top) e') H' := by
 have hfr : x.op.hfree = true := by
  cases h : x.op <;> rw [h] at hq <;> first | (simp [AOp.isMv] at hq; done) | skip
  rename_i o
  cases o <;> first | rfl | (simp [AOp.isMv] at hq; done)
 have hh := b8T s hfr
 cases s with
 | skip hl =>
  rename_i d t want o
  refine ⟨rfl, .tup [], rfl, fun e' L h => .skip (by rw [← h _ (by simp [AIns.reads])]; exact hl), fun id e' H' h => ?_⟩
  have h1 := h t (by simp [AIns.reads])
  have ht : nref id (.tup []) = true := a0l.2 (.tup _ fun c hc => absurd hc (by simp))
  rw [if_pos ht]
  refine .skip ?_
  rw [← h1]
  rcases hl with ⟨c, hc, hn⟩ | hc
  ·rw [hc, if_pos (e7o id c)]; exact .inl ⟨c, rfl, hn⟩
  ·rw [hc, if_pos ht]; exact .inr rfl
 | pure hg hp =>
  rename_i d g o v
  cases o <;> first | (simp [AOp.isMv] at hq; done) | skip
  rename_i a
  cases a <;> first | (simp [AOp.isMv] at hq; done) | skip
  rename_i k
  have hv : v = look e k := by simp only [pv, Src.ev, Option.some.injEq] at hp; exact hp.symm
  subst hv
  refine ⟨rfl, _, rfl, fun e' H' h => .pure (a1e hg fun t ht => h t (by simp only [AIns.reads, List.mem_append]; exact .inl ht)) ?_, fun id e' H' h => .pure ?_ ?_⟩
  ·simp only [pv, Src.ev]
   rw [← h k (by simp [AIns.reads, AOp.reads, POp.reads, Src.tmps])]
  ·intro t want hh
   subst hh
   have h1 := h t (by simp [AIns.reads])
   rw [hg t want rfl, if_pos (e7o id want)] at h1
   exact h1.symm
  ·simp only [pv, Src.ev]
   rw [← h k (by simp [AIns.reads, AOp.reads, POp.reads, Src.tmps])]
 | bsl hg hp => simp [AOp.isMv] at hq
 | call hg hp => simp [AOp.isMv] at hq
 | callv hg hf hp => simp [AOp.isMv] at hq
 | gcall hg hp => simp [AOp.isMv] at hq
 | gcallv hg hf hp => simp [AOp.isMv] at hq
 | eff hg hp hn => simp [AOp.isMv] at hq
theorem a2m {d : Option Nat} {v : AV} {e : Env} {rs : List Nat} (h : (match d with | some d => !rs.contains d | none => true) = true) : ∀ t ∈ rs, look e t = look (put d v e) t := by
 intro t ht
 rw [a1K]
 split
 ·rename_i hd
  subst hd
  simp at h
  exact absurd ht h
 ·rfl
theorem b2O {d1 d2 : Option Nat} {v1 v2 : AV} {e : Env} (h : ∀ d, d1 = some d → d2 ≠ some d) : a2y (put d1 v1 (put d2 v2 e)) (put d2 v2 (put d1 v1 e)) := by
 intro t
 simp only [a1K]
 by_cases h1 : d1 = some t
 ·rw [if_pos h1, if_neg (h t h1), if_pos h1]
 ·rw [if_neg h1, if_neg h1]
theorem d4U {x y : AIns} (q1 : x.op.isMv = true) (q2 : y.op.isApp = true) {e : Env} {H : Heap} {e1 : Env} {H1 : Heap} {e2 : Env} {H2 : Heap} (hx : ∀ v, ∀ t ∈ y.reads, look (put x.dst v e) t = look e t)
  (hT2 : (match y.dst with | some d => !x.reads.contains d | none => true) = true) (hd : ∀ d, y.dst = some d → x.dst ≠ some d) (s : St P n0 x e H e1 H1) (t : St P n0 y e1 H1 e2 H2) :
  ∃ e1' H' e2', St P n0 y e H e1' H' ∧ St P n0 x e1' H' e2' H2 ∧ a2y e2 e2' := by
 obtain ⟨rfl, v, rfl, f, f2⟩ := e4V s q1
 obtain ⟨u, ⟨rfl, g⟩ | ⟨id, rfl, g⟩⟩ := c2c t q2
 ·exact ⟨_, H2, _, g e (hx v), f (put y.dst u e) H2 (a2m hT2), b2O hd⟩
 ·refine ⟨_, H2, _, g e (hx v), f2 id (put y.dst u (scrub id e)) H2 (fun t ht => ?_), fun t => ?_⟩
  ·rw [← a2m (v := u) (e := scrub id e) hT2 t ht, a3f]
  ·simp only [a1K, a3f]
   by_cases h1 : y.dst = some t
   ·rw [if_pos h1, if_neg (hd t h1), if_pos h1]
   ·rw [if_neg h1, if_neg h1]
    split <;> rfl
theorem St.swap {x y : AIns} (hT : b0K x y = true) (hH : c5g x y = true) {e : Env} {H : Heap} {e1 : Env} {H1 : Heap} {e2 : Env} {H2 : Heap} (s : St P n0 x e H e1 H1) (t : St P n0 y e1 H1 e2 H2) :
  ∃ e1' H' e2', St P n0 y e H e1' H' ∧ St P n0 x e1' H' e2' H2 ∧ a2y e2 e2' := by
 simp only [b0K, Bool.and_eq_true] at hT
 obtain ⟨hT1, hT2⟩ := hT
 have hx : ∀ v, ∀ t ∈ y.reads, look (put x.dst v e) t = look e t := by
  intro v t ht
  refine (a2m (rs := y.reads) (d := x.dst) ?_ t ht).symm
  cases hd : x.dst <;> simp only [hd] at hT1 ⊢
  simp only [Bool.and_eq_true] at hT1
  exact hT1.1
 have hy : ∀ v, ∀ t ∈ x.reads, look e t = look (put y.dst v e) t := fun v => a2m hT2
 have hd : ∀ d, y.dst = some d → x.dst ≠ some d := by
  intro d h1 h2
  simp only [h2, Bool.and_eq_true] at hT1
  rw [h1] at hT1
  simp at hT1
 simp only [c5g, Bool.or_eq_true, Bool.and_eq_true] at hH
 rcases hH with (((⟨q1, q2⟩ | ⟨q1, q2⟩) | ⟨q1, q2⟩) | ⟨q1, q2⟩) | ⟨q1, q2⟩
 ·obtain ⟨rfl, v, rfl, f⟩ := b8k s q1
  obtain ⟨rfl, u, rfl, g⟩ := b8k t q2
  refine ⟨_, H2, _, by simpa using g e [] (hx v), by simpa using f (put y.dst u e) [] (hy u), b2O hd⟩
 ·obtain ⟨v, rfl, f⟩ := b8a s q1
  obtain ⟨rfl, u, rfl, g⟩ := b8T t q2
  exact ⟨_, H, _, g e H (hx v), f (put y.dst u e) (hy u), b2O hd⟩
 ·obtain ⟨rfl, v, rfl, f⟩ := b8T s q1
  obtain ⟨u, rfl, g⟩ := b8a t q2
  exact ⟨_, H2, _, g e (hx v), f (put y.dst u e) H2 (hy u), b2O hd⟩
 ·obtain ⟨rfl, v, rfl, f⟩ := b8k s q1
  obtain ⟨u, L, rfl, rfl, g⟩ := e2K t q2
  exact ⟨_, _, _, g e (hx v), f (put y.dst u e) L (hy u), b2O hd⟩
 ·exact d4U q1 q2 hx hT2 hd s t
def SwG (P : Program) (n0 : Nat) (G : Env → Prop) (x y : AIns) : Prop := ∀ {e : Env} {H : Heap} {e1 : Env} {H1 : Heap} {e2 : Env} {H2 : Heap}, G e → St P n0 x e H e1 H1 → St P n0 y e1 H1 e2 H2 →
 ∃ e1' H' e2', St P n0 y e H e1' H' ∧ St P n0 x e1' H' e2' H2 ∧ a2y e2 e2'
def d3j (P : Program) (n0 : Nat) (G : Env → Prop) (x : AIns) : Prop := ∀ {e : Env} {H : Heap} {e1 : Env} {H1 : Heap}, G e → St P n0 x e H e1 H1 → G e1
theorem Sts.bubble {G : Env → Prop} {y : AIns} {B : List AIns} {ef : Env} {Hf : Heap} : ∀ (A : List AIns) {e : Env} {H : Heap}, G e → (∀ x ∈ A, SwG P n0 G x y ∧ d3j P n0 G x) → Sts P n0 (A ++ y :: B) e H ef Hf →
  ∃ e1 H1 ef', St P n0 y e H e1 H1 ∧ Sts P n0 (A ++ B) e1 H1 ef' Hf ∧ a2y ef ef'
 | [], e, H, hg, hA, s => by
  cases s with
  | cons h t => exact ⟨_, _, _, h, t, .refl _⟩
 | x :: A, e, H, hg, hA, s => by
  cases s with
  | cons h t =>
   obtain ⟨e1, H1, ef', q1, q2, q3⟩ := Sts.bubble A ((hA x (by simp)).2 hg h) (fun x hx => hA x (by simp [hx])) t
   obtain ⟨e1', H', e2', r1, r2, r3⟩ := (hA x (by simp)).1 hg h q1
   obtain ⟨ef2, u1, u2⟩ := q2.eqv r3
   exact ⟨e1', H', ef2, r1, .cons r2 u1, q3.trans u2⟩
end
section
variable {ops : List Oper}
def c7s (ops : List Oper) (S : Nat → Prop) : Prop := ∀ j o, S j → ops[j]? = some o → ∀ e ∈ o.after, Region.binds .any e = true → S e.on
theorem d4T {T : List Nat} {o : Oper} {a : Nat} (h : (tcOf T o).testBit a = true) : ∃ e ∈ o.after, Region.binds .any e = true ∧ (a = e.on ∨ (T.getD e.on 0).testBit a = true) := by
 unfold tcOf at h
 have main : ∀ (l : List Edge) (acc : Nat), (l.foldl (fun acc e => if Region.binds .any e then (acc ||| ((1 <<< e.on) ||| T.getD e.on 0)) else acc) acc).testBit a = true →
   acc.testBit a = true ∨ ∃ e ∈ l, Region.binds .any e = true ∧ (a = e.on ∨ (T.getD e.on 0).testBit a = true) := by
  intro l
  induction l with
  | nil => intro acc h; exact .inl h
  | cons e l ih =>
   intro acc h
   rw [List.foldl_cons] at h
   rcases ih _ h with h1 | ⟨e', he', h1⟩
   ·by_cases hb : Region.binds .any e = true
    ·rw [if_pos hb] at h1
     simp only [Nat.testBit_or, Bool.or_eq_true] at h1
     rcases h1 with h1 | h1 | h1
     ·exact .inl h1
     ·refine .inr ⟨e, by simp, hb, .inl ?_⟩
      rw [Nat.one_shiftLeft, Nat.testBit_two_pow] at h1
      exact (of_decide_eq_true h1).symm
     ·exact .inr ⟨e, by simp, hb, .inr h1⟩
    ·rw [if_neg hb] at h1
     exact .inl h1
   ·exact .inr ⟨e', by simp [he'], h1⟩
 rcases main _ 0 h with h1 | ⟨e, he, h1⟩
 ·simp at h1
 ·exact ⟨e, by simpa using he, h1⟩
theorem b4X {S : Nat → Prop} (hS : c7s ops S) : ∀ (r : List Oper) (pre : List Oper) (T : List Nat), ops = pre ++ r → T.length = pre.length →
  (∀ (i m : Nat) (o : Oper), T[i]? = some m → ops[i]? = some o → (∀ e ∈ o.after, Region.binds .any e = true → S e.on) → ∀ a, m.testBit a = true → S a) →
  ∀ (i m : Nat) (o : Oper), (b0V r T)[i]? = some m → ops[i]? = some o → (∀ e ∈ o.after, Region.binds .any e = true → S e.on) → ∀ a, m.testBit a = true → S a
 | [], pre, T, h, hl, hT => by simpa [b0V] using hT
 | o :: r, pre, T, h, hl, hT => by
  simp only [b0V]
  refine b4X hS r (pre ++ [o]) _ (by simp [h]) (by simp [hl]) ?_
  intro i m o' hm ho' he a ha
  rcases Nat.lt_or_ge i T.length with hi | hi
  ·rw [List.getElem?_append_left hi] at hm
   exact hT i m o' hm ho' he a ha
  ·have hi' : i = T.length := by
    have := a0i hm
    simp at this; omega
   subst hi'
   simp at hm
   have : o' = o := by
    rw [h, hl] at ho'
    simpa using ho'.symm
   subst this
   subst hm
   obtain ⟨e, h1, h2, h3⟩ := d4T ha
   rcases h3 with rfl | h3
   ·exact he e h1 h2
   ·have hs := he e h1 h2
    cases hx : T[e.on]? with
    | none => simp [List.getD_eq_getElem?_getD, hx] at h3
    | some m' =>
     have h3' : m'.testBit a = true := by simpa [List.getD_eq_getElem?_getD, hx] using h3
     have hlt := a0i hx
     have hlt' : e.on < ops.length := by rw [h]; simp; omega
     exact hT e.on m' ops[e.on] hx (List.getElem?_eq_getElem hlt') (fun e2 q1 q2 => hS e.on _ hs (List.getElem?_eq_getElem hlt') e2 q1 q2) a h3'
theorem b7B {m : Nat} {y : AIns} : ∀ {k : Nat} {pre : List AIns}, c8C m y k pre = true → ∀ a x, pre[a]? = some x → m.testBit (k + a) = true ∨ (b0K x y = true ∧ c5g x y = true)
 | _, [], _, a, x, hx => by simp at hx
 | k, p :: pre, h, a, x, hx => by
  simp only [c8C, Bool.and_eq_true, Bool.or_eq_true] at h
  cases a with
  | zero => simp at hx; subst hx; exact h.1
  | succ a =>
   rw [show k + (a + 1) = (k + 1) + a by omega]
   exact b7B h.2 a x (by simpa using hx)
theorem b1I {T : List Nat} : ∀ {l pre : List AIns}, c4S T pre.length pre l = true → ∀ i a x y, pre.length ≤ i → a < i → (pre ++ l)[a]? = some x → (pre ++ l)[i]? = some y → (T.getD i 0).testBit a = true ∨ (b0K x y = true ∧ c5g x y = true)
 | [], pre, h, i, a, x, y, h0, h1, h2, h3 => by
  have := a0i h3
  simp at this; omega
 | z :: l, pre, h, i, a, x, y, h0, h1, h2, h3 => by
  simp only [c4S, Bool.and_eq_true] at h
  rcases Nat.lt_or_eq_of_le h0 with hlt | heq
  ·have h' : c4S T (pre ++ [z]).length (pre ++ [z]) l = true := by simpa using h.2
   exact b1I h' i a x y (by simp; omega) h1 (by simpa using h2) (by simpa using h3)
  ·subst heq
   simp at h3
   subst h3
   rw [List.getElem?_append_left h1] at h2
   have := b7B h.1 a x h2
   simpa using this
theorem a9P : ∀ {k : Nat} {l : List Oper}, b3T k l = true → ∀ i o, l[i]? = some o → ∀ e ∈ o.after, Region.binds .any e = true → e.on < k + i
 | _, [], _, i, o, h => by simp at h
 | k, p :: l, h, i, o, ho => by
  simp only [b3T, Bool.and_eq_true] at h
  cases i with
  | zero =>
   simp at ho; subst ho
   intro e he hb
   have := List.all_eq_true.1 h.1 e (by simpa using he)
   simpa [hb] using this
  | succ i =>
   rw [show k + (i + 1) = (k + 1) + i by omega]
   exact a9P h.2 i o (by simpa using ho)
end
section
variable {P : Program} {nt : Nat}
theorem a6L {mu : Nat → Nat → Bool} {rid : Nat} {ops : Array Oper} : ∀ (l0 : List Oper) (k : Nat) (l : List AIns), a5S P mu nt rid ops k l0 = some l → l.length = l0.length ∧ ∀ i o, l0[i]? = some o → ∃ x, l[i]? = some x ∧ cins P (mu rid (k + i)) nt ops o = some x
 | [], k, l, h => by
  simp [a5S] at h; subst h; simp
 | o :: l0, k, l, h => by
  simp only [a5S] at h
  split at h
  ·rename_i i l' hi hl
   cases h
   obtain ⟨q1, q2⟩ := a6L l0 (k + 1) l' hl
   refine ⟨by simp [q1], fun j o' ho => ?_⟩
   cases j with
   | zero => simp at ho; subst ho; exact ⟨i, by simp, hi⟩
   | succ j =>
    obtain ⟨x, r1, r2⟩ := q2 j o' (by simpa using ho)
    exact ⟨x, by simpa using r1, by rw [show k + (j + 1) = (k + 1) + j by omega]; exact r2⟩
  ·simp at h
theorem St.wpOp {n0 : Nat} {mutable : Bool} {ops : Array Oper} {o : Oper} {j : Nat} (hj : ops[j]? = some o) {x : AIns} (hi : cins P mutable nt ops o = some x) {E : Emb} {env : Env} {tmps : Array Value} (hsz : tmps.size = nt)
  (hok : HOk E) (he : a0r E env tmps) (hn : n0 ≤ E.H.length) {e1 : Env} {H1 : Heap} (s : St P n0 x env E.H e1 H1) {Q : Exit → Act → World → Prop} {next : Act → World → Prop}
  (hnext : ∀ a w, Kc n0 nt E (fun e' H' => e' = e1 ∧ H' = H1) a w → next a w) : Go.wpOp P ops Q j next ⟨tmps, []⟩ E.w := by
 unfold cins at hi
 split at hi
 ·rename_i hd
  split at hi
  ·rename_i g a hg ha
   cases hi
   have hw := a8i (o := o) he hg
   unfold Go.wpOp
   rw [hj]
   simp only
   have go : (∀ t want, g = some (t, want) → look env t = .bool want) → a3a P n0 a o.dst (fun e' H' => e' = e1 ∧ H' = H1) env E.H → (if Region.wanted o (yielded ops tmps) then o.wp P ⟨tmps, []⟩ E.w next Q ∨ (o.asks P ⟨tmps, []⟩ E.w ∧ LetsOut Q) else next ((Act.mk tmps []).put o.dst undef) E.w) := by
    intro hgd hs
    have hwt : Region.wanted o (yielded ops tmps) = true := by
     split at hw
     ·exact hw
     ·rename_i t want _
      rw [hw.1 want (hgd t want rfl)]; simp
    rw [if_pos hwt]
    exact .inl (a2t ha hd hsz hok he hn hs hnext)
   cases s with
   | skip hl =>
    rename_i t want
    simp only at hw
    have hf : Region.wanted o (yielded ops tmps) = false := by
     rcases hl with ⟨c, hl, hc⟩ | hl
     ·rw [hw.1 c hl]; simpa using hc
     ·exact hw.2 hl
    rw [if_neg (by rw [hf]; simp)]
    refine hnext _ _ ⟨E.φ, _, E.H, ⟨rfl, rfl⟩, hok, ?_, ?_, ?_, hn, Ext.refl _ _⟩
    ·subst hsz; exact a2i he hd b2M
    ·cases o.dst <;> rfl
    ·rw [a4c]; exact hsz
   | pure hgd hp => exact go hgd (by simp only [a3a, hp, c1g, and_self])
   | bsl hgd hp => exact go hgd (by simp only [a3a, hp, b8Y, and_self])
   | call hgd hp => exact go hgd (by
     simp only [a3a]
     have := hp []
     simp only [List.append_nil] at this
     exact this.mono fun r H' ⟨h1, h2⟩ => by subst h1; subst h2; exact ⟨rfl, rfl⟩)
   | callv hgd hf hp => exact go hgd (by
     simp only [a3a, hf]
     have := hp []
     simp only [List.append_nil] at this
     exact this.mono fun r H' ⟨h1, h2⟩ => by subst h1; subst h2; exact ⟨rfl, rfl⟩)
   | gcall hgd hp => exact go hgd (by simp only [a3a]; exact hp.mono fun r H' ⟨h1, h2⟩ => by subst h1; subst h2; exact ⟨rfl, rfl⟩)
   | gcallv hgd hf hp => exact go hgd (by simp only [a3a, hf]; exact hp.mono fun r H' ⟨h1, h2⟩ => by subst h1; subst h2; exact ⟨rfl, rfl⟩)
   | eff hgd hp hne => exact go hgd (by simp only [a3a, hp, b8Y, and_self])
  ·simp at hi
 ·simp at hi
theorem b8i {E : Emb} {env env' : Env} {tmps : Array Value} (he : a0r E env tmps) (h : a2y env env') : a0r E env' tmps := fun t => by rw [← h t]; exact he t
theorem c1y {mu : Nat → Nat → Bool} {rid : Nat} {ops : Array Oper} {l : List AIns} (hl : a5S P mu nt rid ops 0 ops.toList = some l) (hback : b3T 0 ops.toList = true) {n0 : Nat} {G : Env → Prop} (hGk : ∀ x ∈ l, d3j P n0 G x)
  {Q : Exit → Act → World → Prop} {E0 : Emb} {ef : Env} {Hf : Heap}
  (hQ : ∀ a w, Kc n0 nt E0 (fun e' H' => a2y ef e' ∧ H' = Hf) a w → Q .normal a w) :
  ∀ (fuel : Nat) (rem : List Nat) (listed : Array Bool), listed.size = ops.size → rem.Pairwise (· < ·) → (∀ i, i ∈ rem ↔ listed.getD i true = false) → rem.length ≤ fuel →
   c7s ops.toList (fun j => listed.getD j false = true) →
   (∀ i a x y, a ∈ rem → i ∈ rem → a < i → l[a]? = some x → l[i]? = some y → ((b0V ops.toList []).getD i 0).testBit a = true ∨ SwG P n0 G x y) →
   ∀ (E : Emb) (env : Env) (tmps : Array Value) (ef' : Env), tmps.size = nt → HOk E → a0r E env tmps → n0 ≤ E.H.length → Ext (· < n0) E0 E → a2y ef ef' → G env →
    Sts P n0 (rem.filterMap (l[·]?)) env E.H ef' Hf → wpAny P .any ops Q fuel listed ⟨tmps, []⟩ E.w := by
 obtain ⟨hlen, hget⟩ := a6L _ _ _ hl
 have done : ∀ (E : Emb) (env : Env) (tmps : Array Value) (ef' : Env), tmps.size = nt → HOk E → a0r E env tmps → n0 ≤ E.H.length → Ext (· < n0) E0 E → a2y ef ef' → Sts P n0 [] env E.H ef' Hf → Q .normal ⟨tmps, []⟩ E.w := by
  intro E env tmps ef' h1 h2 h3 h4 h5 h6 h7
  generalize hH : E.H = HH at h7
  cases h7
  exact hQ _ _ ⟨E.φ, env, E.H, ⟨h6, hH⟩, h2, h3, rfl, h1, h4, h5⟩
 have noready : ∀ (rem : List Nat) (listed : Array Bool), listed.size = ops.size → rem.Pairwise (· < ·) → (∀ i, i ∈ rem ↔ listed.getD i true = false) → Region.ready .any ops listed = [] → rem = [] := by
  intro rem listed hsz hp hm hr
  cases rem with
  | nil => rfl
  | cons i rem =>
   exfalso
   have hi := (hm i).1 (by simp)
   have hlt : i < ops.size := by
    rw [← hsz]
    rcases Nat.lt_or_ge i listed.size with h' | h'
    ·exact h'
    ·simp [Array.getElem?_eq_none h'] at hi
   have : i ∈ Region.ready .any ops listed := by
    rw [mem_ready]
    refine ⟨hi, ops[i], by simp [hlt], fun e he hb => ?_⟩
    have hlt2 := a9P hback i ops[i] (by simp [hlt]) e he hb
    have hno : ¬ e.on ∈ i :: rem := by
     intro hmem
     rcases List.mem_cons.1 hmem with h | h
     ·omega
     ·have := (List.pairwise_cons.1 hp).1 _ h
      omega
    rw [hm] at hno
    have hlt3 : e.on < listed.size := by omega
    simp [hlt3] at hno ⊢
    exact hno
   rw [hr] at this
   cases this
 intro fuel
 induction fuel with
 | zero =>
  intro rem listed hsz hp hm hf hcl hall' E env tmps ef' h1 h2 h3 h4 h5 h6 hg h7
  have : rem = [] := List.length_eq_zero_iff.1 (Nat.le_zero.1 hf)
  subst this
  refine ⟨?_, done E env tmps ef' h1 h2 h3 h4 h5 h6 h7⟩
  cases hr : Region.ready .any ops listed with
  | nil => rfl
  | cons i r =>
   have := (mem_ready.1 (show i ∈ Region.ready .any ops listed by rw [hr]; simp)).1
   rw [← hm] at this
   simp at this
 | succ fuel ih =>
  intro rem listed hsz hp hm hf hcl hall' E env tmps ef' h1 h2 h3 h4 h5 h6 hg h7
  refine ⟨fun hr => ?_, fun i hi => ?_⟩
  ·have := noready rem listed hsz hp hm hr
   subst this
   exact done E env tmps ef' h1 h2 h3 h4 h5 h6 h7
  ·obtain ⟨hun, o, ho, hedges⟩ := mem_ready.1 hi
   have himem := (hm i).2 hun
   obtain ⟨A, B, rfl⟩ := List.append_of_mem himem
   obtain ⟨x, hx, hcx⟩ := hget i o (by simpa using ho)
   have hAlt : ∀ a ∈ A, a < i := fun a ha => (List.pairwise_append.1 hp).2.2 a ha i (by simp)
   have hapart : ∀ z ∈ A.filterMap (l[·]?), SwG P n0 G z x ∧ d3j P n0 G z := by
    intro z hz
    obtain ⟨a, ha, hza⟩ := List.mem_filterMap.1 hz
    refine ⟨?_, hGk z (List.mem_of_getElem? (by simpa using hza))⟩
    rcases hall' i a z x (by simp [ha]) (by simp) (hAlt a ha) (by simpa using hza) (by simpa using hx) with hb | hb
    ·exfalso
     -- a would be listed
     have hT : ∃ m, (b0V ops.toList [])[i]? = some m ∧ m.testBit a = true := by
      cases hq : (b0V ops.toList [])[i]? with
      | none => simp [List.getD_eq_getElem?_getD, hq] at hb
      | some m => exact ⟨m, rfl, by simpa [List.getD_eq_getElem?_getD, hq] using hb⟩
     obtain ⟨m, hm1, hm2⟩ := hT
     have := b4X (S := fun j => listed.getD j false = true) hcl ops.toList [] [] rfl rfl (by simp) i m o hm1 (by simpa using ho) hedges a hm2
     have ha' := (hm a).1 (by simp [ha])
     rcases Nat.lt_or_ge a listed.size with h' | h'
     ·simp [h'] at this ha'; rw [this] at ha'; cases ha'
     ·simp [Array.getElem?_eq_none h'] at ha'
    ·exact hb
   simp only [List.filterMap_append, List.filterMap_cons, hx] at h7
   obtain ⟨e1, H1, ef2, q1, q2, q3⟩ := Sts.bubble _ hg hapart h7
   refine St.wpOp ho hcx h1 h2 h3 h4 q1 ?_
   rintro a w' ⟨φ, env', H', ⟨rfl, rfl⟩, r1, r2, r3, r4, r5, r6⟩
   have ha : a = ⟨a.tmps, []⟩ := by cases a; simp at r3; simp [r3]
   rw [ha]
   have hilt : i < listed.size := by
    rcases Nat.lt_or_ge i listed.size with h' | h'
    ·exact h'
    ·simp [Array.getElem?_eq_none h'] at hun
   have hpAB : (A ++ B).Pairwise (· < ·) := by
    rw [List.pairwise_append] at hp ⊢
    exact ⟨hp.1, (List.pairwise_cons.1 hp.2.1).2, fun a ha b hb => hp.2.2 a ha b (by simp [hb])⟩
   have hiB : ∀ b ∈ B, i < b := (List.pairwise_cons.1 (List.pairwise_append.1 hp).2.1).1
   refine ih (A ++ B) (listed.setIfInBounds i true) (by simp [hsz]) hpAB ?_ (by simp at hf ⊢; omega) ?_ (fun i' a' x' y' ha' hi' => hall' i' a' x' y' (by simp at ha' ⊢; rcases ha' with h | h <;> simp [h]) (by simp at hi' ⊢; rcases hi' with h | h <;> simp [h])) ⟨φ, H', w'⟩ env' a.tmps ef2 r4 r1 r2 r5 (h5.trans r6) (h6.trans q3) (hGk x (List.mem_of_getElem? (by simpa using hx)) hg q1) (by simpa [List.filterMap_append] using q2)
   ·intro k
    by_cases hk : k = i
    ·subst hk
     constructor
     ·intro hmem
      exfalso
      rcases List.mem_append.1 hmem with h | h
      ·exact Nat.lt_irrefl _ (hAlt _ h)
      ·exact Nat.lt_irrefl _ (hiB _ h)
     ·intro h; simp [hilt] at h
    ·rw [getD_set_ne true (Ne.symm hk), ← hm k]
     simp [hk]
   ·intro j oj hj hoj e he hb
    by_cases hji : j = i
    ·subst hji
     have : oj = o := by
      have h' : ops.toList[j]? = some o := by simpa using ho
      rw [h'] at hoj; cases hoj; rfl
     subst this
     exact getD_set_true (hedges e he hb)
    ·rw [getD_set_ne false (Ne.symm hji)] at hj
     exact getD_set_true (hcl j oj hj hoj e he hb)
theorem a6e (S : Nat → Prop) (φ : Nat → Option Nat) (H : Heap) (w : World) (n : Nat) : Ext S ⟨φ, H, w⟩ ⟨φ, H, { w with drawn := n }⟩ :=
 ⟨rfl, rfl, rfl, Nat.le_refl _, fun _ _ h => h, fun _ _ _ => rfl, fun id blk' _ _ h => ⟨blk', h, rfl⟩, fun _ _ _ _ _ _ _ => rfl, fun _ _ h => h, fun _ _ _ => rfl, fun _ _ => rfl⟩
theorem b7m {φ : Nat → Option Nat} {H : Heap} {w : World} {n : Nat} (h : HOk ⟨φ, H, w⟩) : HOk ⟨φ, H, { w with drawn := n }⟩ := by
 refine ⟨fun id blk b h1 h2 h3 => ?_, h.wids, ?_, h.emp, h.inj⟩
 ·rcases h.obj id blk b h1 h2 h3 with q | q | ⟨bs, ks, vs, n', q1, us, q2, q3, q4, q5, q6, q7, q8⟩
  ·exact .inl q
  ·exact .inr (.inl q)
  ·exact .inr (.inr ⟨bs, ks, vs, n', q1, us, q2, q3, q4, q5, q6, q7, fun k u v hu hv => (q8 k u v hu hv).mono (a6e All φ H w n) (q6 v (List.mem_of_getElem? hv)).ref⟩)
 intro id blk b h1 h2
 obtain ⟨c, e, r⟩ := h.row id blk b h1 h2
 exact ⟨c, e, r.heap, r.fits, r.one, fun k v a hk ha => (r.rep k v a hk ha).mono (a6e All φ H w n) ((r.rep k v a hk ha).ref.mono fun _ _ => trivial)⟩
end
def b4y (P : Program) (n0 : Nat) (o : AOp) (d : Option Nat) (K : Env → Heap → Prop) (env : Env) (H : Heap) : Prop :=
 match o with
 | .p o => c1g (pv o env H) fun v => K (put d v env) H
 | .e o => b8Y (ev n0 o env H) fun v env' H' => K (put d v env') H'
 | .call f args => ∃ r, (∀ L, a0h P f (args.map (·.ev env)) (H ++ L) fun r' H' => r' = r ∧ H' = H ++ L) ∧ K (put d r env) H
 | .callv g args => match g.ev env with
  | .fn f caps => ∃ r, (∀ L, a0h P f (args.map (·.ev env) ++ caps) (H ++ L) fun r' H' => r' = r ∧ H' = H ++ L) ∧ K (put d r env) H
  | _ => False
 | .gcall f args => ∃ r L, (a0h P f (args.map (·.ev env)) H fun r' H' => r' = r ∧ H' = H ++ L) ∧ K (put d r env) (H ++ L)
 | .gcallv g args => match g.ev env with
  | .fn f caps => ∃ r L, (a0h P f (args.map (·.ev env) ++ caps) H fun r' H' => r' = r ∧ H' = H ++ L) ∧ K (put d r env) (H ++ L)
  | _ => False
 | .nxt _ => False
def dops (P : Program) (n0 : Nat) : List AIns → (Env → Heap → Prop) → Env → Heap → Prop
 | [], K, env, H => K env H
 | i :: l, K, env, H =>
  match i.guard with
  | none => b4y P n0 i.op i.dst (dops P n0 l K) env H
  | some (t, want) => a9y want (look env t) fun c => if c = want then b4y P n0 i.op i.dst (dops P n0 l K) env H else dops P n0 l K (put i.dst (.tup []) env) H
theorem d0G {P : Program} {n0 : Nat} {o : AOp} {d : Option Nat} {g : Option (Nat × Bool)} {K : Env → Heap → Prop} {env : Env} {H : Heap} (hg : ∀ t want, g = some (t, want) → look env t = .bool want) (h : b4y P n0 o d K env H) :
  ∃ e1 H1, St P n0 ⟨d, g, o⟩ env H e1 H1 ∧ K e1 H1 := by
 cases o with
 | p o =>
  simp only [b4y, c1g] at h
  split at h
  ·rename_i v hv
   exact ⟨_, _, .pure hg hv, h⟩
  ·exact h.elim
 | e o =>
  simp only [b4y, b8Y] at h
  split at h
  ·rename_i v env' H' hv
   by_cases hb : ∃ wd ps, o = .bsl wd ps
   ·obtain ⟨wd, ps, rfl⟩ := hb
    have : env' = env ∧ H' = H := by
     simp only [ev] at hv
     split at hv
     ·cases hv; exact ⟨rfl, rfl⟩
     ·simp at hv
    obtain ⟨rfl, rfl⟩ := this
    exact ⟨_, _, .bsl hg hv, h⟩
   ·exact ⟨_, _, .eff hg hv (fun wd ps he => hb ⟨wd, ps, he⟩), h⟩
  ·exact h.elim
 | call f args =>
  obtain ⟨r, h1, h2⟩ := h
  exact ⟨_, _, .call hg h1, h2⟩
 | callv s args =>
  simp only [b4y] at h
  split at h
  ·rename_i f caps hf
   obtain ⟨r, h1, h2⟩ := h
   exact ⟨_, _, .callv hg hf h1, h2⟩
  ·exact h.elim
 | gcall f args =>
  obtain ⟨r, L, h1, h2⟩ := h
  exact ⟨_, _, .gcall hg h1, h2⟩
 | gcallv s args =>
  simp only [b4y] at h
  split at h
  ·rename_i f caps hf
   obtain ⟨r, L, h1, h2⟩ := h
   exact ⟨_, _, .gcallv hg hf h1, h2⟩
  ·exact h.elim
 | nxt a => exact h.elim
theorem a7V {P : Program} {n0 : Nat} {K : Env → Heap → Prop} : ∀ {l : List AIns} {env : Env} {H : Heap}, dops P n0 l K env H → ∃ e1 H1, Sts P n0 l env H e1 H1 ∧ K e1 H1
 | [], env, H, h => ⟨_, _, .nil, h⟩
 | ⟨d, g, o⟩ :: l, env, H, h => by
  simp only [dops] at h
  split at h
  ·obtain ⟨e1, H1, q1, q2⟩ := d0G (g := none) (by simp) h
   obtain ⟨e2, H2, r1, r2⟩ := a7V q2
   exact ⟨_, _, .cons q1 r1, r2⟩
  ·rename_i t want
   simp only [a9y] at h
   split at h
   ·rename_i c hc
    split at h
    ·rename_i hcw
     subst hcw
     obtain ⟨e1, H1, q1, q2⟩ := d0G (g := some (t, c)) (by rintro _ _ ⟨⟩; exact hc) h
     obtain ⟨e2, H2, r1, r2⟩ := a7V q2
     exact ⟨_, _, .cons q1 r1, r2⟩
    ·rename_i hcw
     obtain ⟨e2, H2, r1, r2⟩ := a7V h
     exact ⟨_, _, .cons (.skip (.inl ⟨c, hc, hcw⟩)) r1, r2⟩
   ·rename_i hc
    rw [if_neg (by cases want <;> simp)] at h
    obtain ⟨e2, H2, r1, r2⟩ := a7V h
    exact ⟨_, _, .cons (.skip (.inr hc)) r1, r2⟩
   ·exact h.elim
theorem Safe.regionD {x : Cx} {todo : List AItem} {env : Env} {H : Heap} {R : AV → Heap → Prop} {l : List AIns} (h : dops x.P x.n0 l (fun env' H' => Safe x todo env' H' R) env H) : Safe x (.code (.region l true) :: todo) env H R := by
 intro φ w tmps b k cs hg hn hb hk ht hsz hok he
 obtain ⟨i, k', rfl, h1, h2⟩ := a0j ht
 obtain ⟨c, rfl, h1⟩ := a0m h1
 obtain ⟨id, ops, rfl, g1, g2⟩ := a5R h1
 have g2 := g2 rfl
 have hmix : x.P.follows .mixedOrders = true := by simp only [dchk, Bool.and_eq_true] at g2; exact g2.1
 obtain ⟨ef, Hf, s1, s2⟩ := a7V h
 have hx0 := a6e (· < x.n0) φ H w (w.drawn + 1)
 have hxA := a6e All φ H w (w.drawn + 1)
 have hlst : (List.range ops.size).filterMap (l[·]?) = l := by
  have := (a6L _ _ _ g1).1
  have hl : ops.size = l.length := by simpa using this.symm
  rw [hl]
  apply List.ext_getElem?
  intro m
  have : ∀ (n : Nat), n ≤ l.length → (List.range n).filterMap (l[·]?) = l.take n := by
   intro n
   induction n with
   | zero => simp
   | succ n ih =>
    intro hn
    rw [List.range_succ, List.filterMap_append, ih (by omega), List.take_add_one]
    simp [List.getElem?_eq_getElem (show n < l.length by omega)]
  rw [this l.length (Nat.le_refl _), List.take_length]
 have g3 := g2
 simp only [dchk, Bool.and_eq_true] at g3
 have hall' := b1I (pre := []) g3.2.2
 have hw := c1y (P := x.P) (nt := x.nt) g1 g3.2.1 (n0 := x.n0) (G := fun _ => True) (fun _ _ => fun _ _ => trivial) (E0 := ⟨φ, H, { w with drawn := w.drawn + 1 }⟩) (ef := ef) (Hf := Hf)
  (Q := fun e a w' => e = .normal ∧ Kc x.n0 x.nt ⟨φ, H, { w with drawn := w.drawn + 1 }⟩ (fun e' H' => a2y ef e' ∧ H' = Hf) a w') (fun a w h => ⟨rfl, h⟩)
  ops.size (List.range ops.size) (Array.replicate ops.size false) (by simp) (List.pairwise_lt_range) (by
   intro i
   rw [List.mem_range]
   constructor
   ·intro hi; simp [hi]
   ·intro hi
    rcases Nat.lt_or_ge i ops.size with h' | h'
    ·exact h'
    ·simp [Array.getElem?_eq_none (show (Array.replicate ops.size false).size ≤ i by simpa using h')] at hi) (by simp) (by
   intro j o hj
   exfalso
   rcases Nat.lt_or_ge j ops.size with h' | h'
   ·simp [h'] at hj
   ·simp [Array.getElem?_eq_none (show (Array.replicate ops.size false).size ≤ j by simpa using h')] at hj)
  (fun i a x y _ _ hai hx hy => by
   rcases hall' i a x y (by simp) hai (by simpa using hx) (by simpa using hy) with h | h
   ·exact .inl h
   ·exact .inr fun _ s t => St.swap h.1 h.2 s t)
  ⟨φ, H, { w with drawn := w.drawn + 1 }⟩ env tmps ef hsz (b7m hok) (he.mono (hxA.sub fun _ _ => trivial)) hn (Ext.refl _ _) (.refl _) trivial (by rw [hlst]; exact s1)
 obtain ⟨e, a', w', ⟨rfl, φ1, env1, H1, ⟨sq, rfl⟩, s3, s4, s5, s6, s7, s8⟩, harr⟩ := wp_region_any hmix hw b k' cs
 have ha : a' = ⟨a'.tmps, []⟩ := by cases a'; simp at s5; simp [s5]
 rw [ha] at harr
 obtain ⟨v, w2, fr, r, φ', H', q1, q2, q3, q4, q5, q6, q7⟩ := s2 φ1 w' a'.tmps b k' cs hg s7 hb hk h2 s6 s3 (b8i s4 sq.symm)
 exact ⟨v, w2, fr, r, φ', H', q1, q2, q3, q4, hx0.trans (s8.trans q5), Steps.trans harr q6, q7⟩
end Go.Abs
namespace Go.Abs
def d8r (a b : AV) : Prop := match a, b with
 | .loc i _ _, .loc j _ _ => i ≠ j
 | _, _ => False
theorem d0d (i j k l o p : Nat) : d8r (.loc i k o) (.loc j l p) = (i ≠ j) := rfl
def sdP (e : Env) (p : Nat × Nat) : Prop := if p.1 = p.2 then Cl (look e p.1) else d8r (look e p.1) (look e p.2)
def sdOk : List (Nat × Nat) → Env → Prop
 | [], _ => True
 | p :: r, e => sdP e p ∧ sdOk r e
theorem d3D (e : Env) : sdOk [] e = True := rfl
theorem c9v (a b : Nat) (r : List (Nat × Nat)) (e : Env) : sdOk ((a, b) :: r) e = ((if a = b then Cl (look e a) else d8r (look e a) (look e b)) ∧ sdOk r e) := rfl
theorem c1G : ∀ {sd : List (Nat × Nat)} {e : Env}, sdOk sd e → ∀ p ∈ sd, sdP e p
 | [], _, _, p, h => by cases h
 | q :: r, e, h, p, hp => by
  rcases List.mem_cons.1 hp with rfl | hp
  ·exact h.1
  ·exact c1G h.2 p hp
theorem e4p {sd : List (Nat × Nat)} {e : Env} (h : sdOk sd e) {t : Nat} (ht : sd.contains (t, t) = true) : Cl (look e t) := by
 have := c1G h (t, t) (by simpa using ht)
 unfold sdP at this
 rwa [if_pos rfl] at this
theorem d6k {a b : AV} (h : d8r a b) : ∃ i j k l o p, a = .loc i k o ∧ b = .loc j l p ∧ i ≠ j := by
 cases a <;> cases b <;> first | exact h.elim | exact ⟨_, _, _, _, _, _, rfl, rfl, h⟩
section
variable {P : Program} {n0 : Nat}
theorem St.look {x : AIns} {e : Env} {H : Heap} {e1 : Env} {H1 : Heap} (s : St P n0 x e H e1 H1) (ha : x.op.isApp = false) {t : Nat} (ht : x.dst ≠ some t) : look e1 t = look e t := by
 cases s with
 | skip hl => rw [a1K, if_neg ht]
 | pure hg hp => rw [a1K, if_neg ht]
 | bsl hg hp => rw [a1K, if_neg ht]
 | call hg hp => rw [a1K, if_neg ht]
 | callv hg hf hp => rw [a1K, if_neg ht]
 | gcall hg hp => rw [a1K, if_neg ht]
 | gcallv hg hf hp => rw [a1K, if_neg ht]
 | eff hg hp hn =>
  rename_i o v e'
  rw [a1K, if_neg ht]
  suffices e' = e by rw [this]
  cases o with
  | app => simp [AOp.isApp] at ha
  | store n a b =>
   simp only [ev] at hp
   split at hp
   ·simp only [Option.bind_eq_some_iff] at hp
    obtain ⟨b, hb, hp⟩ := hp
    split at hp
    ·cases hp; rfl
    ·cases hp
   ·cases hp
  | cpy =>
   simp only [ev, Option.bind_eq_some_iff] at hp
   obtain ⟨ys, hy, hp⟩ := hp
   split at hp
   ·simp only [Option.bind_eq_some_iff] at hp
    obtain ⟨b, hb, hp⟩ := hp
    split at hp
    ·cases hp; rfl
    ·cases hp
   ·cases hp
  | mksl =>
   simp only [ev] at hp
   split at hp
   ·split at hp
    ·cases hp; rfl
    ·cases hp
   ·cases hp
  | mkmap => simp only [ev] at hp; cases hp; rfl
  | mset m k v' =>
   simp only [ev] at hp
   split at hp
   ·simp only [Option.bind_eq_some_iff] at hp
    obtain ⟨b, hb, hp⟩ := hp
    split at hp
    ·cases hp; rfl
    ·cases hp
   ·cases hp
  | mrng m =>
   simp only [ev] at hp
   split at hp
   ·simp only [Option.bind_eq_some_iff] at hp
    obtain ⟨b, hb, hp⟩ := hp
    cases hp; rfl
   ·cases hp
  | smut q m k v' =>
   simp only [ev] at hp
   unfold b6A at hp
   split at hp
   ·cases hp; rfl
   ·split at hp
    ·cases hp; rfl
    ·cases hp
   ·split at hp
    ·split at hp
     ·cases hp; rfl
     ·cases hp
    ·cases hp
   ·split at hp
    ·cases hp; rfl
    ·cases hp
   ·cases hp
  | _ =>
   simp only [ev] at hp
   split at hp
   ·cases hp; rfl
   ·cases hp
theorem d2x {H : Heap} {i j : Nat} {b : Option Blk} (h : i ≠ j) : hrow (H.set j b) i = hrow H i := by
 unfold hrow
 rw [List.getElem?_set, if_neg (fun e => h e.symm)]
theorem d7c {x y : AIns} (hT : b0K x y = true) {a b : Nat} (hl : ldst x y = some (a, b)) {e : Env} {H : Heap} {e1 : Env} {H1 : Heap} {e2 : Env} {H2 : Heap} (hne : d8r (Go.Abs.look e a) (Go.Abs.look e b)) (s : St P n0 x e H e1 H1) (t : St P n0 y e1 H1 e2 H2) :
  ∃ e1' H' e2', St P n0 y e H e1' H' ∧ St P n0 x e1' H' e2' H2 ∧ a2y e2 e2' := by
 obtain ⟨xd, xg, xo⟩ := x
 obtain ⟨yd, yg, yo⟩ := y
 simp only [ldst] at hl
 split at hl
 ·rename_i n a' m b' sv
  cases hl
  simp only [b0K, Bool.and_eq_true] at hT
  obtain ⟨hT1, hT2⟩ := hT
  have hx : ∀ v, ∀ t ∈ (AIns.mk yd yg (.e (.store m (.t b) sv))).reads, Go.Abs.look (put xd v e) t = Go.Abs.look e t := by
   intro v t ht
   refine (a2m (rs := (AIns.mk yd yg (.e (.store m (.t b) sv))).reads) (d := xd) ?_ t ht).symm
   cases hd : xd <;> simp only [hd] at hT1 ⊢
   simp only [Bool.and_eq_true] at hT1
   exact hT1.1
  have hy : ∀ v, ∀ t ∈ (AIns.mk xd xg (.p (.load n (.t a)))).reads, Go.Abs.look e t = Go.Abs.look (put yd v e) t := fun v => a2m hT2
  have hd : ∀ d, yd = some d → xd ≠ some d := by
   intro d h1 h2
   simp only [h2, Bool.and_eq_true] at hT1
   rw [h1] at hT1
   simp at hT1
  obtain ⟨i, j, k, l, o, p, ea, eb, hij⟩ := d6k hne
  have hra : a ∈ (AIns.mk xd xg (.p (.load n (.t a)))).reads := by simp [AIns.reads, AOp.reads, POp.reads, Src.tmps]
  have fx : H1 = H ∧ ∃ v, e1 = put xd v e ∧ ∀ e' H', (∀ t ∈ (AIns.mk xd xg (.p (.load n (.t a)))).reads, Go.Abs.look e t = Go.Abs.look e' t) → hrow H' i = hrow H i → St P n0 ⟨xd, xg, .p (.load n (.t a))⟩ e' H' (put xd v e') H' := by
   cases s with
   | skip hl => exact ⟨rfl, .tup [], rfl, fun e' H' h _ => .skip (by rw [← h _ (by simp [AIns.reads])]; exact hl)⟩
   | pure hg hp =>
    refine ⟨rfl, _, rfl, fun e' H' h hrw => .pure (a1e hg fun t ht => h t (by simp only [AIns.reads, List.mem_append]; exact .inl ht)) ?_⟩
    have ea' : Go.Abs.look e' a = .loc i k o := by rw [← h a hra, ea]
    simp only [pv, Src.ev, ea, ea', c4s, atV] at hp ⊢
    rw [hrw]; exact hp
  obtain ⟨rfl, v, rfl, f⟩ := fx
  -- what the store leaves in row i
  have hrow : hrow H2 i = hrow H1 i := by
   have hxb := hx v b (by simp [AIns.reads, AOp.reads, EOp.reads, Src.tmps])
   cases t with
   | skip => rfl
   | eff hg hp hn =>
    simp only [ev] at hp
    have hb2 : (Src.t b).ev (put xd v e) = .loc j l p := by
     show Go.Abs.look _ b = _
     rw [hxb, eb]
    rw [hb2] at hp
    simp only [Option.bind_eq_some_iff] at hp
    obtain ⟨blk, hb, hp⟩ := hp
    split at hp
    ·cases hp; exact d2x hij
    ·cases hp
  obtain ⟨u, rfl, g⟩ := b8a t rfl
  exact ⟨_, H2, _, g e (hx v), f (put yd u e) H2 (hy u) hrow, b2O hd⟩
 ·cases hl
theorem c5L {s : Src} {e : Env} (hk : s.okc = true) (h : ∀ t ∈ s.tmps, Cl (Go.Abs.look e t)) : Cl (s.ev e) := by
 cases s with
 | t n => exact h n (by simp [Src.tmps])
 | c a => cases a <;> first | (simp [Src.okc] at hk; done) | exact .int _ _ | exact .bool _ | exact .nil
theorem e6m {op : BinOp} {a b v : AV} (h : binV op a b = some v) : Cl v := by
 unfold binV at h
 split at h
 ·split at h
  ·simp only [b2n] at h
   split at h
   ·cases h
   ·cases h; exact .int _ _
  ·simp only [b2n] at h
   split at h
   ·cases h
   ·cases h; exact .int _ _
  ·split at h
   ·unfold a6J at h
    split at h
    all_goals first | (cases h; done) | (cases h; first | exact .int _ _ | exact .bool _) | (split at h <;> first | (cases h; done) | (cases h; exact .int _ _))
   ·cases h
 ·split at h
  ·split at h
   ·cases h
   ·cases h; exact .str _
  ·cases h; exact .bool _
  ·cases h; exact .bool _
  ·cases h
 ·cases h
theorem e6b {wd : Nat} {xs : List AV} (h : Cl (.sl wd xs)) (i : Nat) : ∀ c ∈ (xs.getD i .top).cells, Cl c := by
 cases h with
 | sl _ _ h =>
  intro c hc
  rcases Nat.lt_or_ge i xs.length with hi | hi
  ·rw [List.getD_eq_getElem?_getD, List.getElem?_eq_getElem hi] at hc
   exact h c (List.mem_flatMap.2 ⟨_, List.getElem_mem hi, hc⟩)
  ·rw [List.getD_eq_getElem?_getD, List.getElem?_eq_none hi] at hc
   simp [AV.cells] at hc
   subst hc; exact .top
theorem e8u {x : AV} {off : Nat} (h : Cl (.ro x off)) : ∀ c ∈ x.cells, Cl c := by
 cases h with
 | ro _ _ h => exact h
theorem e8n {o : POp} (hq : o.clq = true) {e : Env} {H : Heap} {v : AV} (hr : ∀ t ∈ o.reads, Cl (Go.Abs.look e t)) (h : pv o e H = some v) : Cl v ∧ ∀ H', pv o e H' = some v := by
 cases o <;> first | (simp [POp.clq] at hq; done) | skip
 case mv a =>
  simp only [pv, Option.some.injEq] at h
  subst h
  exact ⟨c5L hq hr, fun _ => rfl⟩
 case len a =>
  have ha := c5L hq hr
  simp only [pv] at h ⊢
  generalize a.ev e = x at *
  cases ha <;> simp only [lenV] at h ⊢ <;> first | (cases h; done) | (cases h; exact ⟨.int _ _, fun _ => rfl⟩)
 case bin op a b => exact ⟨e6m h, fun _ => h⟩
 case idxp wd a i =>
  simp only [POp.clq, Bool.and_eq_true] at hq
  simp only [POp.reads, List.mem_append] at hr
  have ha := c5L hq.1 fun t ht => hr t (.inl ht)
  have hi := c5L hq.2 fun t ht => hr t (.inr ht)
  simp only [pv] at h ⊢
  generalize a.ev e = x at *
  generalize i.ev e = y at *
  cases y <;> simp only [idxV] at h ⊢ <;> first | (cases h; done) | skip
  cases x <;> simp only at h ⊢ <;> first | (cases h; done) | skip
  case sl =>
   refine ⟨?_, fun _ => h⟩
   split at h
   ·cases h; exact .ro _ _ (e6b ha _)
   ·cases h
  case mu => cases ha
 case load n a =>
  have ha := c5L hq hr
  simp only [pv, c4s] at h ⊢
  generalize a.ev e = x at *
  cases x <;> simp only [atV] at h ⊢ <;> first | (cases h; done) | skip
  case loc => cases ha
  case ro y off =>
   refine ⟨?_, fun _ => h⟩
   have hc := e8u ha
   simp only [Option.bind_some] at h
   cases n with
   | none =>
    have := List.mem_of_getElem? h
    exact hc v (List.mem_of_mem_drop this)
   | some n =>
    simp only at h
    split at h
    ·cases h; exact .agg _ fun c hcm => hc c (List.mem_of_mem_drop (List.mem_of_mem_take hcm))
    ·cases h
 case slc wd x lo hi mx =>
  simp only [POp.clq, Bool.and_eq_true] at hq
  simp only [POp.reads, List.mem_append] at hr
  have hx := c5L hq.1 fun t ht => hr t (.inl ht)
  simp only [pv] at h ⊢
  generalize x.ev e = x at *
  generalize lo.map (·.ev e) = lo at *
  generalize hi.map (·.ev e) = hi at *
  generalize mx.map (·.ev e) = mx at *
  cases x <;> simp only [slcV] at h ⊢ <;> first | (cases h; done) | skip
  case mu => cases hx
  case sl wd' xs =>
   refine ⟨?_, fun _ => h⟩
   have hsub : ∀ m n, Cl (.sl wd ((xs.drop m).take n)) := fun m n => by
    cases hx with
    | sl _ _ hx =>
     refine .sl _ _ fun c hc => ?_
     obtain ⟨a, ha, hca⟩ := List.mem_flatMap.1 hc
     exact hx c (List.mem_flatMap.2 ⟨a, List.mem_of_mem_drop (List.mem_of_mem_take ha), hca⟩)
   simp only [Option.bind_eq_some_iff] at h
   obtain ⟨l, _, r, _, h⟩ := h
   split at h
   ·split at h
    ·cases h; exact hsub _ _
    ·cases h
   ·split at h
    ·cases h; exact hsub _ _
    ·cases h
   ·cases h
theorem c1X {x : AIns} {sd : List (Nat × Nat)} (hq : clI sd x = true) {e : Env} {H : Heap} {e1 : Env} {H1 : Heap} (hG : ∀ t ∈ x.reads, Cl (Go.Abs.look e t)) (s : St P n0 x e H e1 H1) :
  H1 = H ∧ ∃ u, Cl u ∧ e1 = put x.dst u e ∧ ∀ e' H', (∀ t ∈ x.reads, Go.Abs.look e t = Go.Abs.look e' t) → St P n0 x e' H' (put x.dst u e') H' := by
 simp only [clI, Bool.and_eq_true] at hq
 obtain ⟨hq, hq2⟩ := hq
 clear hq2
 cases s with
 | skip hl => exact ⟨rfl, .tup [], .tup _ fun c hc => absurd hc (by simp), rfl, fun e' L h => .skip (by rw [← h _ (by simp [AIns.reads])]; exact hl)⟩
 | pure hg hp =>
  rename_i d g o v
  obtain ⟨h1, h2⟩ := e8n hq (fun t ht => hG t (by simp only [AIns.reads, List.mem_append]; exact .inr ht)) hp
  refine ⟨rfl, v, h1, rfl, fun e' H' h => .pure (a1e hg fun t ht => h t (by simp only [AIns.reads, List.mem_append]; exact .inl ht)) ?_⟩
  rw [← c1H (fun t ht => h t (by simp only [AIns.reads, List.mem_append]; exact .inr ht))]
  exact h2 H'
 | bsl hg hp => simp at hq
 | call hg hp => simp at hq
 | callv hg hf hp => simp at hq
 | gcall hg hp => simp at hq
 | gcallv hg hf hp => simp at hq
 | eff hg hp hn => simp at hq
theorem c4V {x : AIns} {sd : List (Nat × Nat)} (hq : clI sd x = true) {e : Env} (hG : sdOk sd e) : ∀ t ∈ x.reads, Cl (Go.Abs.look e t) := fun t ht => by
 simp only [clI, Bool.and_eq_true, List.all_eq_true] at hq
 exact e4p hG (hq.2 t ht)
theorem a7M {id : Nat} {e : Env} {t : Nat} (h : Cl (Go.Abs.look e t)) : Go.Abs.look (scrub id e) t = Go.Abs.look e t := by
 rw [a3f, if_pos (a0l.2 h.ref)]
theorem c1a {x y : AIns} (hT : b0K x y = true) : (∀ v e, ∀ t ∈ y.reads, Go.Abs.look (put x.dst v e) t = Go.Abs.look e t) ∧ (∀ v e, ∀ t ∈ x.reads, Go.Abs.look e t = Go.Abs.look (put y.dst v e) t) ∧ (∀ d, y.dst = some d → x.dst ≠ some d) := by
 simp only [b0K, Bool.and_eq_true] at hT
 obtain ⟨hT1, hT2⟩ := hT
 refine ⟨fun v e t ht => ?_, fun v e => a2m hT2, fun d h1 h2 => ?_⟩
 ·refine (a2m (rs := y.reads) (d := x.dst) ?_ t ht).symm
  cases hd : x.dst <;> simp only [hd] at hT1 ⊢
  simp only [Bool.and_eq_true] at hT1
  exact hT1.1
 ·simp only [h2, Bool.and_eq_true] at hT1
  rw [h1] at hT1
  simp at hT1
theorem d4W {x y : AIns} {sd : List (Nat × Nat)} (hT : b0K x y = true) (q1 : x.op.isApp = true) (q2 : clI sd y = true) : SwG P n0 (sdOk sd) x y := by
 intro e H e1 H1 e2 H2 hG s t
 obtain ⟨hx, hy, hd⟩ := c1a hT
 have hcl := c4V q2 hG
 obtain ⟨v, ⟨rfl, f⟩ | ⟨id, rfl, f⟩⟩ := c2c s q1
 ·obtain ⟨rfl, u, hu, rfl, g⟩ := c1X q2 (fun t ht => by rw [hx v e t ht]; exact hcl t ht) t
  exact ⟨_, H, _, g e H (hx v e), f (put y.dst u e) (hy u e), b2O hd⟩
 ·obtain ⟨rfl, u, hu, rfl, g⟩ := c1X q2 (fun t ht => by rw [hx v _ t ht, a7M (hcl t ht)]; exact hcl t ht) t
  refine ⟨_, H, _, g e H (fun t ht => by rw [hx v _ t ht, a7M (hcl t ht)]), f (put y.dst u e) (hy u e), fun t => ?_⟩
  simp only [a1K, a3f]
  by_cases h1 : y.dst = some t
  ·rw [if_pos h1, if_neg (hd t h1), if_pos h1, if_pos (a0l.2 hu.ref)]
  ·rw [if_neg h1, if_neg h1]
theorem d4V {x y : AIns} {sd : List (Nat × Nat)} (hT : b0K x y = true) (q1 : clI sd x = true) (q2 : y.op.isApp = true) : SwG P n0 (sdOk sd) x y := by
 intro e H e1 H1 e2 H2 hG s t
 obtain ⟨hx, hy, hd⟩ := c1a hT
 have hcl := c4V q1 hG
 obtain ⟨rfl, u, hu, rfl, f⟩ := c1X q1 hcl s
 obtain ⟨v, ⟨rfl, g⟩ | ⟨id, rfl, g⟩⟩ := c2c t q2
 ·exact ⟨_, H2, _, g e (hx u e), f (put y.dst v e) H2 (hy v e), b2O hd⟩
 ·refine ⟨_, H2, _, g e (hx u e), f (put y.dst v (scrub id e)) H2 (fun t ht => by rw [← hy v (scrub id e) t ht, a7M (hcl t ht)]), fun t => ?_⟩
  simp only [a1K, a3f]
  by_cases h1 : y.dst = some t
  ·rw [if_pos h1, if_neg (hd t h1), if_pos h1]
  ·rw [if_neg h1, if_neg h1]
   by_cases h2 : x.dst = some t
   ·rw [if_pos h2, if_pos h2, if_pos (a0l.2 hu.ref)]
   ·rw [if_neg h2, if_neg h2]
theorem Sts.append {A B : List AIns} {e : Env} {H : Heap} {e1 : Env} {H1 : Heap} {e2 : Env} {H2 : Heap} (h : Sts P n0 A e H e1 H1) (k : Sts P n0 B e1 H1 e2 H2) : Sts P n0 (A ++ B) e H e2 H2 := by
 induction h with
 | nil => exact k
 | cons h t ih => exact .cons h (ih k)
theorem b6n {m k i : Nat} {sd : List (Nat × Nat)} {y : AIns} : ∀ {b : Nat} {pre : List AIns}, c7z m k i sd y b pre = true → ∀ a x, pre[a]? = some x → okX m sd (b + a) x y = true ∨ (b + a = k ∧ i = k + 1)
 | _, [], _, a, x, hx => by simp at hx
 | b, p :: pre, h, a, x, hx => by
  simp only [c7z, Bool.and_eq_true, Bool.or_eq_true, beq_iff_eq] at h
  cases a with
  | zero => simp at hx; subst hx; exact h.1
  | succ a =>
   rw [show b + (a + 1) = (b + 1) + a by omega]
   exact b6n h.2 a x (by simpa using hx)
theorem b6o {T : List Nat} {k : Nat} {sd : List (Nat × Nat)} : ∀ {l pre : List AIns}, c2w T k sd pre.length pre l = true → ∀ i a x y, pre.length ≤ i → a < i → (pre ++ l)[a]? = some x → (pre ++ l)[i]? = some y → okX (T.getD i 0) sd a x y = true ∨ (a = k ∧ i = k + 1)
 | [], pre, h, i, a, x, y, h0, h1, h2, h3 => by
  have := a0i h3
  simp at this; omega
 | z :: l, pre, h, i, a, x, y, h0, h1, h2, h3 => by
  simp only [c2w, Bool.and_eq_true] at h
  rcases Nat.lt_or_eq_of_le h0 with hlt | heq
  ·have h' : c2w T k sd (pre ++ [z]).length (pre ++ [z]) l = true := by simpa using h.2
   exact b6o h' i a x y (by simp; omega) h1 (by simpa using h2) (by simpa using h3)
  ·subst heq
   simp at h3
   subst h3
   rw [List.getElem?_append_left h1] at h2
   have := b6n h.1 a x h2
   simpa using this
theorem e1x {m : Nat} {sd : List (Nat × Nat)} {a : Nat} {x y : AIns} (h : okX m sd a x y = true) : m.testBit a = true ∨ SwG P n0 (sdOk sd) x y := by
 simp only [okX, Bool.or_eq_true, Bool.and_eq_true] at h
 rcases h with h | ⟨h1, h2 | h2 | ⟨h2, h3⟩ | ⟨h2, h3⟩⟩
 ·exact .inl h
 ·exact .inr fun _ s t => St.swap h1 h2 s t
 ·split at h2
  ·rename_i p hp
   obtain ⟨a, b⟩ := p
   simp only [Bool.and_eq_true, bne_iff_ne, ne_eq] at h2
   refine .inr fun hg s t => d7c h1 hp ?_ s t
   have := c1G hg (a, b) (by simpa using h2.2)
   unfold sdP at this
   rwa [if_neg h2.1] at this
  ·cases h2
 ·exact .inr (d4W h1 h2 h3)
 ·exact .inr (d4V h1 h2 h3)
theorem d7D : ∀ {sd : List (Nat × Nat)} {e : Env}, (∀ p ∈ sd, sdP e p) → sdOk sd e
 | [], _, _ => trivial
 | q :: r, e, h => ⟨h q (by simp), d7D fun p hp => h p (by simp [hp])⟩
theorem St.look_cl {x : AIns} {e : Env} {H : Heap} {e1 : Env} {H1 : Heap} (s : St P n0 x e H e1 H1) {t : Nat} (ht : x.dst ≠ some t) (hc : Cl (Go.Abs.look e t)) : Cl (Go.Abs.look e1 t) := by
 cases ha : x.op.isApp with
 | false => rw [s.look ha ht]; exact hc
 | true =>
  obtain ⟨v, ⟨rfl, _⟩ | ⟨id, rfl, _⟩⟩ := c2c s ha
  ·rw [a1K, if_neg ht]; exact hc
  ·rw [a1K, if_neg ht, a7M hc]; exact hc
theorem e6E {sd : List (Nat × Nat)} {l : List AIns} (h2 : (sd.all fun p => if p.1 = p.2 then l.all fun x => x.dst != some p.1 || clI sd x else (l.all fun x => !x.op.isApp) && l.all fun x => x.dst != some p.1 && x.dst != some p.2) = true) : ∀ x ∈ l, d3j P n0 (sdOk sd) x := by
 intro x hx e H e1 H1 hg s
 rw [List.all_eq_true] at h2
 refine d7D fun p hp => ?_
 have h3 := h2 p hp
 have hgp := c1G hg p hp
 unfold sdP at hgp ⊢
 by_cases hpp : p.1 = p.2
 ·rw [if_pos hpp] at h3 hgp ⊢
  rw [List.all_eq_true] at h3
  have h4 := h3 x hx
  simp only [Bool.or_eq_true, bne_iff_ne, ne_eq] at h4
  by_cases hd : x.dst = some p.1
  ·rcases h4 with h4 | h4
   ·exact absurd hd h4
   ·obtain ⟨_, u, hu, rfl, _⟩ := c1X h4 (c4V h4 hg) s
    rw [a1K, if_pos hd]; exact hu
  ·exact s.look_cl hd hgp
 ·rw [if_neg hpp] at h3 hgp ⊢
  simp only [Bool.and_eq_true, List.all_eq_true] at h3
  have ha : x.op.isApp = false := by simpa using h3.1 x hx
  have h4 := h3.2 x hx
  simp only [Bool.and_eq_true, bne_iff_ne, ne_eq] at h4
  rw [s.look ha h4.1, s.look ha h4.2]
  exact hgp
end
section
variable {P : Program} {nt : Nat}
theorem a4n {l : List AIns} (k n : Nat) (h : k + n = l.length) : ((List.range' k n).filterMap (l[·]?)) = l.drop k := by
 induction n generalizing k with
 | zero => simp [List.drop_eq_nil_of_le (show l.length ≤ k by omega)]
 | succ n ih =>
  rw [List.range'_succ, List.filterMap_cons, List.getElem?_eq_getElem (show k < l.length by omega)]
  simp only
  rw [ih (k + 1) (by omega), List.drop_eq_getElem_cons (show k < l.length by omega)]
theorem d4c {α β : Type} {f g : α → Option β} : ∀ {l : List α}, (∀ a ∈ l, f a = g a) → l.filterMap f = l.filterMap g
 | [], _ => rfl
 | x :: l, h => by rw [List.filterMap_cons, List.filterMap_cons, h x (by simp), d4c fun a ha => h a (by simp [ha])]
theorem d4O {mu : Nat → Nat → Bool} {rid : Nat} {ops : Array Oper} {l : List AIns} (hl : a5S P mu nt rid ops 0 ops.toList = some l) (hback : b3T 0 ops.toList = true) {n0 : Nat} {G : Env → Prop} (hGk : ∀ x ∈ l, d3j P n0 G x)
  {Q : Exit → Act → World → Prop} {E0 : Emb} {ef1 ef2 : Env} {Hf1 Hf2 : Heap} (hQ1 : ∀ a w, Kc n0 nt E0 (fun e' H' => a2y ef1 e' ∧ H' = Hf1) a w → Q .normal a w) (hQ2 : ∀ a w, Kc n0 nt E0 (fun e' H' => a2y ef2 e' ∧ H' = Hf2) a w → Q .normal a w)
  {k : Nat} (hk : k + 1 < l.length) (hpair : ∀ i a x y, a < i → l[a]? = some x → l[i]? = some y → (((b0V ops.toList []).getD i 0).testBit a = true ∨ SwG P n0 G x y) ∨ (a = k ∧ i = k + 1))
  (htw : ∀ j, k + 2 ≤ j → j < l.length → ((b0V ops.toList []).getD j 0).testBit k = true ∨ ((b0V ops.toList []).getD j 0).testBit (k + 1) = true) :
  ∀ (fuel : Nat) (rem : List Nat) (listed : Array Bool), listed.size = ops.size → rem.Pairwise (· < ·) → (∀ i, i ∈ rem ↔ i < k ∧ listed.getD i true = false) → (∀ j, k ≤ j → j < l.length → listed.getD j true = false) → rem.length + (l.length - k) ≤ fuel →
   c7s ops.toList (fun j => listed.getD j false = true) →
   ∀ (E : Emb) (env : Env) (tmps : Array Value) (es : Env) (Hs : Heap) (ef1' ef2' : Env), tmps.size = nt → HOk E → a0r E env tmps → n0 ≤ E.H.length → Ext (· < n0) E0 E → a2y ef1 ef1' → a2y ef2 ef2' → G env →
    Sts P n0 (rem.filterMap (l[·]?)) env E.H es Hs → Sts P n0 (l.drop k) es Hs ef1' Hf1 → Sts P n0 (d4Q (l.drop k)) es Hs ef2' Hf2 → wpAny P .any ops Q fuel listed ⟨tmps, []⟩ E.w := by
 obtain ⟨hlen, hget⟩ := a6L _ _ _ hl
 have hlen' : l.length = ops.size := by simpa using hlen
 intro fuel
 induction fuel with
 | zero => intro rem listed hsz hp hm hm2 hf; omega
 | succ fuel ih =>
  intro rem listed hsz hp hm hm2 hf hcl E env tmps es Hs ef1' ef2' h1 h2 h3 h4 h5 h6 h6' hg hA hB hC
  have hkl : listed.getD k true = false := hm2 k (Nat.le_refl _) (by omega)
  have hkl1 : listed.getD (k + 1) true = false := hm2 (k + 1) (by omega) hk
  have unl : ∀ j, j < l.length → listed.getD j true = false → ¬ listed.getD j false = true := by
   intro j hj hu
   have : j < listed.size := by omega
   simp [this] at hu ⊢
   exact hu
  refine ⟨fun hr => ?_, fun i hi => ?_⟩
  ·-- something is ready
   exfalso
   have hall : ∀ m, m ≤ k → (∀ j, j < m → listed.getD j false = true) → (∃ i, i ∈ Region.ready .any ops listed) ∨ ∀ j, j < m → listed.getD j false = true := fun m _ h => .inr h
   have least : ∃ i, i < l.length ∧ listed.getD i true = false ∧ ∀ j, j < i → ¬ listed.getD j true = false := by
    have ex : ∃ i, i < l.length ∧ listed.getD i true = false := ⟨k, by omega, hkl⟩
    obtain ⟨n, hn1, hn2⟩ := ex
    induction n using Nat.strongRecOn with
    | _ n ihn =>
     by_cases hc : ∃ j, j < n ∧ listed.getD j true = false
     ·obtain ⟨j, hj1, hj2⟩ := hc
      exact ihn j hj1 (by omega) hj2
     ·exact ⟨n, hn1, hn2, fun j hj hh => hc ⟨j, hj, hh⟩⟩
   obtain ⟨i, hi1, hi2, hi3⟩ := least
   have : i ∈ Region.ready .any ops listed := by
    rw [mem_ready]
    refine ⟨hi2, ops[i]'(by omega), by simp [show i < ops.size by omega], fun e he hb => ?_⟩
    have hlt2 := a9P hback i (ops[i]'(by omega)) (by simp [show i < ops.size by omega]) e he hb
    have hno := hi3 e.on (by omega)
    have hlt3 : e.on < listed.size := by omega
    simp [hlt3] at hno ⊢
    exact hno
   rw [hr] at this
   cases this
  ·obtain ⟨hun, o, ho, hedges⟩ := mem_ready.1 hi
   obtain ⟨x, hx, hcx⟩ := hget i o (by simpa using ho)
   have hil : i < l.length := a0i hx
   have hilt : i < listed.size := by omega
   -- the new state's facts
   have hcl' : c7s ops.toList (fun j => (listed.setIfInBounds i true).getD j false = true) := by
    intro j oj hj hoj e he hb
    by_cases hji : j = i
    ·subst hji
     have : oj = o := by
      have h' : ops.toList[j]? = some o := by simpa using ho
      rw [h'] at hoj; cases hoj; rfl
     subst this
     exact getD_set_true (hedges e he hb)
    ·rw [getD_set_ne false (Ne.symm hji)] at hj
     exact getD_set_true (hcl j oj hj hoj e he hb)
   have bitNo : ∀ a, a < l.length → listed.getD a true = false → ((b0V ops.toList []).getD i 0).testBit a = true → False := by
    intro a ha hau hb
    have hT : ∃ m, (b0V ops.toList [])[i]? = some m ∧ m.testBit a = true := by
     cases hq : (b0V ops.toList [])[i]? with
     | none => simp [List.getD_eq_getElem?_getD, hq] at hb
     | some m => exact ⟨m, rfl, by simpa [List.getD_eq_getElem?_getD, hq] using hb⟩
    obtain ⟨m, hm1, hm2⟩ := hT
    have := b4X (S := fun j => listed.getD j false = true) hcl ops.toList [] [] rfl rfl (by simp) i m o hm1 (by simpa using ho) hedges a hm2
    exact unl a ha hau this
   have swp : ∀ a z, a < i → a < l.length → listed.getD a true = false → ¬ (a = k ∧ i = k + 1) → l[a]? = some z → SwG P n0 G z x ∧ d3j P n0 G z := by
    intro a z hai hal hau hne hz
    refine ⟨?_, hGk z (List.mem_of_getElem? hz)⟩
    rcases hpair i a z x hai hz hx with (hb | hb) | hb
    ·exact (bitNo a hal hau hb).elim
    ·exact hb
    ·exact (hne hb).elim
   have remlt : ∀ a ∈ rem, a < k ∧ listed.getD a true = false := fun a ha => (hm a).1 ha
   rcases Nat.lt_or_ge i k with hik | hik
   ·-- ahead of the two
    have himem := (hm i).2 ⟨hik, hun⟩
    obtain ⟨A, B, rfl⟩ := List.append_of_mem himem
    have hAlt : ∀ a ∈ A, a < i := fun a ha => (List.pairwise_append.1 hp).2.2 a ha i (by simp)
    simp only [List.filterMap_append, List.filterMap_cons, hx] at hA
    obtain ⟨e1, H1, es', q1, q2, q3⟩ := Sts.bubble _ hg (fun z hz => by
     obtain ⟨a, ha, hza⟩ := List.mem_filterMap.1 hz
     exact swp a z (hAlt a ha) (by have := hAlt a ha; omega) (remlt a (by simp [ha])).2 (by omega) hza) hA
    refine St.wpOp ho hcx h1 h2 h3 h4 q1 ?_
    rintro a w' ⟨φ, env', H', ⟨rfl, rfl⟩, r1, r2, r3, r4, r5, r6⟩
    have ha : a = ⟨a.tmps, []⟩ := by cases a; simp at r3; simp [r3]
    rw [ha]
    have hpAB : (A ++ B).Pairwise (· < ·) := by
     rw [List.pairwise_append] at hp ⊢
     exact ⟨hp.1, (List.pairwise_cons.1 hp.2.1).2, fun a ha b hb => hp.2.2 a ha b (by simp [hb])⟩
    have hiB : ∀ b ∈ B, i < b := (List.pairwise_cons.1 (List.pairwise_append.1 hp).2.1).1
    obtain ⟨f1, u1, u2⟩ := hB.eqv q3
    obtain ⟨f2, v1, v2⟩ := hC.eqv q3
    refine ih (A ++ B) (listed.setIfInBounds i true) (by simp [hsz]) hpAB ?_ ?_ (by simp at hf ⊢; omega) hcl' ⟨φ, H', w'⟩ env' a.tmps es' Hs f1 f2 r4 r1 r2 r5 (h5.trans r6) (h6.trans u2) (h6'.trans v2) (hGk x (List.mem_of_getElem? hx) hg q1) (by simpa [List.filterMap_append] using q2) u1 v1
    ·intro j
     by_cases hj : j = i
     ·subst hj
      constructor
      ·intro hmem
       exfalso
       rcases List.mem_append.1 hmem with h | h
       ·exact Nat.lt_irrefl _ (hAlt _ h)
       ·exact Nat.lt_irrefl _ (hiB _ h)
      ·intro h; simp [hilt] at h
     ·rw [getD_set_ne true (Ne.symm hj), ← hm j]
      simp [hj]
    ·intro j hj1 hj2
     rw [getD_set_ne true (by omega)]
     exact hm2 j hj1 hj2
   ·-- one of the two
    have hi2 : i = k ∨ i = k + 1 := by
     rcases Nat.lt_or_ge i (k + 2) with h | h
     ·omega
     ·exfalso
      rcases htw i h hil with hb | hb
      ·exact bitNo k (by omega) hkl hb
      ·exact bitNo (k + 1) hk hkl1 hb
    have hd0 : l.drop k = l[k] :: l[k + 1] :: l.drop (k + 2) := by
     rw [List.drop_eq_getElem_cons (show k < l.length by omega), List.drop_eq_getElem_cons hk]
    have hpr : ∀ (A B : List Nat), (∀ a ∈ A, a < k) → A.Pairwise (· < ·) → (∀ b ∈ B, k ≤ b) → B.Pairwise (· < ·) → (A ++ B).Pairwise (· < ·) := fun A B h1 h2 h3 h4 =>
     List.pairwise_append.2 ⟨h2, h4, fun a ha b hb => by have := h1 a ha; have := h3 b hb; omega⟩
    have fin : ∀ (rest : List Nat) (ef : Env) (Hf : Heap) (ef' : Env) (hQ : ∀ a w, Kc n0 nt E0 (fun e' H' => a2y ef e' ∧ H' = Hf) a w → Q .normal a w) (hre : a2y ef ef'), rest.Pairwise (· < ·) → (∀ j, j ∈ rest ↔ k ≤ j ∧ j < l.length ∧ j ≠ i) → rest.length + 1 = l.length - k → (¬ (k ∈ rest ∧ k + 1 ∈ rest)) →
      Sts P n0 (x :: rest.filterMap (l[·]?)) es Hs ef' Hf → Go.wpOp P ops Q i (fun a' w' => wpAny P .any ops Q fuel (listed.setIfInBounds i true) a' w') ⟨tmps, []⟩ E.w := by
     intro rest ef Hf ef' hQ hre hrp hrm hrl hrt hrs
     have hS := Sts.append hA hrs
     obtain ⟨e1, H1, ef2, q1, q2, q3⟩ := Sts.bubble _ hg (fun z hz => by
      obtain ⟨a, ha, hza⟩ := List.mem_filterMap.1 hz
      have := remlt a ha
      exact swp a z (by omega) (by omega) this.2 (by omega) hza) hS
     refine St.wpOp ho hcx h1 h2 h3 h4 q1 ?_
     rintro a w' ⟨φ, env', H', ⟨rfl, rfl⟩, r1, r2, r3, r4, r5, r6⟩
     have ha : a = ⟨a.tmps, []⟩ := by cases a; simp at r3; simp [r3]
     rw [ha]
     refine c1y hl hback hGk hQ fuel (rem ++ rest) (listed.setIfInBounds i true) (by simp [hsz]) (hpr _ _ (fun a ha => (remlt a ha).1) hp (fun b hb => ((hrm b).1 hb).1) hrp) ?_ (by simp; omega) hcl' ?_ ⟨φ, H', w'⟩ env' a.tmps ef2 r4 r1 r2 r5 (h5.trans r6) (hre.trans q3) (hGk x (List.mem_of_getElem? hx) hg q1) (by simpa [List.filterMap_append] using q2)
     ·intro j
      rw [List.mem_append, hm, hrm]
      by_cases hj : j = i
      ·subst hj
       simp [hilt]; omega
      ·rw [getD_set_ne true (Ne.symm hj)]
       constructor
       ·rintro (h | h)
        ·exact h.2
        ·exact hm2 j h.1 h.2.1
       ·intro h
        rcases Nat.lt_or_ge j k with hjk | hjk
        ·exact .inl ⟨hjk, h⟩
        ·refine .inr ⟨hjk, ?_, hj⟩
         rcases Nat.lt_or_ge j listed.size with h' | h'
         ·omega
         ·simp [Array.getElem?_eq_none h'] at h
     ·intro i' a' x' y' ha' hi' hai hx' hy'
      rcases hpair i' a' x' y' hai hx' hy' with h | ⟨h1, h2⟩
      ·exact h
      ·exfalso
       refine hrt ⟨?_, ?_⟩
       ·rcases List.mem_append.1 ha' with h | h
        ·have := (remlt _ h).1; omega
        ·rw [h1] at h; exact h
       ·rcases List.mem_append.1 hi' with h | h
        ·have := (remlt _ h).1; omega
        ·rw [h2] at h; exact h
    have hfd : (List.range' (k + 2) (l.length - (k + 2))).filterMap (l[·]?) = l.drop (k + 2) := a4n _ _ (by omega)
    rcases hi2 with rfl | rfl
    ·refine fin (List.range' (i + 1) (l.length - (i + 1))) ef1 Hf1 ef1' hQ1 h6 (List.pairwise_lt_range') (fun j => by rw [List.mem_range'_1]; omega) (by simp; omega) (by rw [List.mem_range'_1]; omega) ?_
     rw [a4n _ _ (by omega)]
     have e1 : l[i] = x := by rw [List.getElem?_eq_getElem hil] at hx; exact Option.some.inj hx
     rw [← e1, ← List.drop_eq_getElem_cons hil]
     exact hB
    ·refine fin (k :: List.range' (k + 2) (l.length - (k + 2))) ef2 Hf2 ef2' hQ2 h6' ?_ (fun j => by rw [List.mem_cons, List.mem_range'_1]; omega) (by simp; omega) (by rw [List.mem_cons, List.mem_cons, List.mem_range'_1, List.mem_range'_1]; omega) ?_
     ·refine List.pairwise_cons.2 ⟨fun b hb => ?_, List.pairwise_lt_range'⟩
      rw [List.mem_range'_1] at hb; omega
     ·rw [List.filterMap_cons, List.getElem?_eq_getElem (show k < l.length by omega)]
      simp only
      rw [hfd]
      have e1 : l[k + 1] = x := by rw [List.getElem?_eq_getElem hil] at hx; exact Option.some.inj hx
      rw [hd0] at hC
      simp only [d4Q] at hC
      rw [← e1]
      exact hC
end
theorem Safe.regionX {x : Cx} {todo : List AItem} {env : Env} {H : Heap} {R : AV → Heap → Prop} {p s1 s2 : List AIns} {sd : List (Nat × Nat)} (hs : sdOk sd env)
  (h : dops x.P x.n0 p (fun env' H' => dops x.P x.n0 s1 (fun env' H' => Safe x todo env' H' R) env' H' ∧ dops x.P x.n0 s2 (fun env' H' => Safe x todo env' H' R) env' H') env H) : Safe x (.code (.regionX p s1 s2 sd) :: todo) env H R := by
 intro φ w tmps b k cs hg hn hb hk ht hsz hok he
 obtain ⟨i, k', rfl, h1, h2⟩ := a0j ht
 obtain ⟨c, rfl, h1⟩ := a0m h1
 obtain ⟨id, ops, l, kk, rfl, g1, g2, rfl, rfl, rfl⟩ := d2w h1
 simp only [xchk, Bool.and_eq_true, Bool.or_eq_true] at g2
 obtain ⟨hmix, hback, hall, htw, hds⟩ := g2
 obtain ⟨es, Hs, s0, s1, s2⟩ := a7V h
 obtain ⟨ef1, Hf1, t1, k1⟩ := a7V s1
 obtain ⟨ef2, Hf2, t2, k2⟩ := a7V s2
 have hx0 := a6e (· < x.n0) φ H w (w.drawn + 1)
 have hxA := a6e All φ H w (w.drawn + 1)
 have hlen : l.length = ops.size := by simpa using (a6L _ _ _ g1).1
 have hGk : ∀ y ∈ l, d3j x.P x.n0 (sdOk sd) y := e6E hds
 have hall' := b6o (pre := []) hall
 have hpair : ∀ i a y z, a < i → l[a]? = some y → l[i]? = some z → (((b0V ops.toList []).getD i 0).testBit a = true ∨ SwG x.P x.n0 (sdOk sd) y z) ∨ (a = kk ∧ i = kk + 1) := by
  intro i a y z hai hy hz
  rcases hall' i a y z (by simp) hai (by simpa using hy) (by simpa using hz) with h | h
  ·exact .inl (e1x h)
  ·exact .inr h
 have empC : c7s ops.toList (fun j => (Array.replicate ops.size false).getD j false = true) := by
  intro j o hj
  exfalso
  rcases Nat.lt_or_ge j ops.size with h' | h'
  ·simp [h'] at hj
  ·simp [Array.getElem?_eq_none (show (Array.replicate ops.size false).size ≤ j by simpa using h')] at hj
 have hw : wpAny x.P .any ops (fun e a w' => e = .normal ∧ (Kc x.n0 x.nt ⟨φ, H, { w with drawn := w.drawn + 1 }⟩ (fun env' H' => Safe x todo env' H' R) a w')) ops.size (Array.replicate ops.size false) ⟨tmps, []⟩ { w with drawn := w.drawn + 1 } := by
  have toQ : ∀ (ef : Env) (Hf : Heap), Safe x todo ef Hf R → ∀ a w', Kc x.n0 x.nt ⟨φ, H, { w with drawn := w.drawn + 1 }⟩ (fun e' H' => a2y ef e' ∧ H' = Hf) a w' → Exit.normal = Exit.normal ∧ (Kc x.n0 x.nt ⟨φ, H, { w with drawn := w.drawn + 1 }⟩ (fun env' H' => Safe x todo env' H' R) a w') := by
   rintro ef Hf hsafe a w' ⟨φ1, env1, H1, ⟨sq, rfl⟩, q⟩
   refine ⟨rfl, φ1, env1, H1, ?_, q⟩
   intro φ2 w2 tmps2 b2 k2 cs2 hg2 hn2 hb2 hk2 ht2 hsz2 hok2 he2
   exact hsafe φ2 w2 tmps2 b2 k2 cs2 hg2 hn2 hb2 hk2 ht2 hsz2 hok2 (b8i he2 sq.symm)
  rcases Nat.lt_or_ge (kk + 1) l.length with hkl | hkl
  ·refine d4O (P := x.P) (nt := x.nt) g1 hback hGk (toQ ef1 Hf1 k1) (toQ ef2 Hf2 k2) hkl hpair ?_ ops.size (List.range kk) (Array.replicate ops.size false) (by simp) List.pairwise_lt_range ?_ ?_ (by simp; omega) empC
    ⟨φ, H, { w with drawn := w.drawn + 1 }⟩ env tmps es Hs ef1 ef2 hsz (b7m hok) (he.mono (hxA.sub fun _ _ => trivial)) hn (Ext.refl _ _) (.refl _) (.refl _) hs ?_ t1 t2
   ·intro j h1 h2
    simp only [e6O, List.all_eq_true, List.mem_range, Bool.or_eq_true, decide_eq_true_eq] at htw
    rcases htw j (by simpa [hlen] using h2) with (h | h) | h
    ·omega
    ·exact .inl h
    ·exact .inr h
   ·intro i
    rw [List.mem_range]
    constructor
    ·intro hi; exact ⟨hi, by simp [show i < ops.size by omega]⟩
    ·exact fun h => h.1
   ·intro j _ hj; simp [show j < ops.size by omega]
   ·have : (List.range kk).filterMap (l[·]?) = l.take kk := by
     rw [List.range_eq_range']
     have e : l.take kk = (l.take kk).drop 0 := rfl
     rw [e, ← a4n (l := l.take kk) 0 kk (by simp; omega)]
     refine d4c fun a ha => ?_
     rw [List.mem_range'_1] at ha
     rw [List.getElem?_take, if_pos (by omega)]
    rw [this]; exact s0
  ·refine c1y (P := x.P) (nt := x.nt) g1 hback hGk (toQ ef1 Hf1 k1) ops.size (List.range ops.size) (Array.replicate ops.size false) (by simp) List.pairwise_lt_range ?_ (by simp) empC ?_
    ⟨φ, H, { w with drawn := w.drawn + 1 }⟩ env tmps ef1 hsz (b7m hok) (he.mono (hxA.sub fun _ _ => trivial)) hn (Ext.refl _ _) (.refl _) hs ?_
   ·intro i
    rw [List.mem_range]
    constructor
    ·intro hi; simp [hi]
    ·intro hi
     rcases Nat.lt_or_ge i ops.size with h' | h'
     ·exact h'
     ·simp [Array.getElem?_eq_none (show (Array.replicate ops.size false).size ≤ i by simpa using h')] at hi
   ·intro i a y z _ _ hai hy hz
    rcases hpair i a y z hai hy hz with h | h
    ·exact h
    ·have := a0i hz
     omega
   ·have := a4n (l := l) 0 ops.size (by omega)
    rw [← List.range_eq_range'] at this
    rw [this, List.drop_zero]
    have := Sts.append s0 t1
    rwa [List.take_append_drop] at this
 obtain ⟨e, a', w', ⟨rfl, φ1, env1, H1, s2, s3, s4, s5, s6, s7, s8⟩, harr⟩ := wp_region_any hmix hw b k' cs
 have ha : a' = ⟨a'.tmps, []⟩ := by cases a'; simp at s5; simp [s5]
 rw [ha] at harr
 obtain ⟨v, w2, fr, r, φ', H', q1, q2, q3, q4, q5, q6, q7⟩ := s2 φ1 w' a'.tmps b k' cs hg s7 hb hk h2 s6 s3 s4
 exact ⟨v, w2, fr, r, φ', H', q1, q2, q3, q4, hx0.trans (s8.trans q5), Steps.trans harr q6, q7⟩
end Go.Abs
namespace Go.Abs
def frz (id : Nat) (b : Blk) : AV → AV
 | .mu i off len oc => if i = id then (if off + len ≤ b.xs.length then .sl b.wd ((b.xs.drop off).take len) else .top) else .mu i off len oc
 | .loc i k off => if i = id then (if k < b.xs.length then .ro (b.xs.getD k .top) off else .top) else .loc i k off
 | .agg cs => .agg (cs.map (frz id b))
 | .tup cs => .tup (cs.map (frz id b))
 | .fn f cs => .fn f (cs.map (frz id b))
 | .bfn f cs => .bfn f (cs.map (frz id b))
 | .top => .top
 | .int k n => .int k n
 | .bool b => .bool b
 | .str s => .str s
 | .nil => .nil
 | .lit v => .lit v
 | .sl wd xs => .sl wd xs
 | .ro x off => .ro x off
 | .mp k i => if i = id then .top else .mp k i
 | .mo l => .mo l
 | .io i n seen => .io i n seen
 | .ms bs ks vs n => .ms bs ks vs n
section
variable {id : Nat} {b : Blk}
theorem a4l {a : AV} (h : Ref (· ≠ id) a) : frz id b a = a := by
 induction h with
 | top => simp only [frz]
 | int k n => simp only [frz]
 | bool b => simp only [frz]
 | str s => simp only [frz]
 | nil => simp only [frz]
 | lit v => simp only [frz]
 | sl wd xs => simp only [frz]
 | ro x off => simp only [frz]
 | mu i off len oc h => simp only [frz]; rw [if_neg h]
 | loc i k off h => simp only [frz]; rw [if_neg h]
 | mp k i h => simp only [frz]; rw [if_neg h]
 | mo l => simp only [frz]
 | io i n seen => simp only [frz]
 | ms bs ks vs n => simp only [frz]
 | agg cs h ih => simp only [frz]; rw [List.map_congr_left (g := fun x => x) ih]; simp
 | tup cs h ih => simp only [frz]; rw [List.map_congr_left (g := fun x => x) ih]; simp
 | fn f cs h ih => simp only [frz]; rw [List.map_congr_left (g := fun x => x) ih]; simp
 | bfn f cs h ih => simp only [frz]; rw [List.map_congr_left (g := fun x => x) ih]; simp
theorem b4P {a : AV} (h : Cl a) : frz id b a = a := a4l h.ref
theorem d0B (a : AV) : (frz id b a).cells = a.cells.map (frz id b) := by
 cases a
 case mu i off len oc =>
  simp only [frz, d4m, List.map_cons, List.map_nil]
  by_cases h : i = id
  ·simp only [h, if_true]; split <;> rfl
  ·simp only [h, if_false]; rfl
 case loc i k off =>
  simp only [frz, d0N, List.map_cons, List.map_nil]
  by_cases h : i = id
  ·simp only [h, if_true]; split <;> rfl
  ·simp only [h, if_false]; rfl
 case mp k i =>
  simp only [frz]
  by_cases h : i = id
  ·simp only [h, if_true]; simp [AV.cells, frz]
  ·simp only [h, if_false]; simp [AV.cells, frz, h]
 all_goals simp only [frz, AV.cells, List.map_cons, List.map_nil]
end
def frzB (id : Nat) (b : Blk) (x : Blk) : Blk := ⟨x.wd, x.xs.map (frz id b)⟩
def frzH (id : Nat) (b : Blk) (H : Heap) : Heap := (H.map (Option.map (frzB id b))).set id none
def frzE (id : Nat) (b : Blk) (env : Env) : Env := env.map fun p => (p.1, frz id b p.2)
theorem c4K (id : Nat) (b x : Blk) : (frzB id b x).flat = x.flat.map (frz id b) := by
 obtain ⟨wd, xs⟩ := x
 simp only [frzB, Blk.flat]
 induction xs with
 | nil => rfl
 | cons x xs ih => simp only [List.map_cons, List.flatMap_cons, List.map_append, d0B, ih]
theorem e2h (id : Nat) (b : Blk) (H : Heap) (j : Nat) : (frzH id b H)[j]? = if j = id then (if j < H.length then some none else none) else (H[j]?).map (Option.map (frzB id b)) := by
 unfold frzH
 rw [List.getElem?_set]
 by_cases h : id = j
 ·subst h; simp
 ·rw [if_neg h, if_neg (fun e => h e.symm)]; simp
theorem a3D {id : Nat} {b : Blk} {H : Heap} {j : Nat} {x : Blk} (h : (frzH id b H)[j]? = some (some x)) : j ≠ id ∧ ∃ y, H[j]? = some (some y) ∧ x = frzB id b y := by
 rw [e2h] at h
 split at h
 ·split at h <;> simp at h
 ·rename_i hj
  cases hy : H[j]? with
  | none => simp [hy] at h
  | some o =>
   cases o with
   | none => simp [hy] at h
   | some y => simp [hy] at h; exact ⟨hj, y, rfl, h.symm⟩
theorem c8w {E : Emb} {id : Nat} {b : Blk} : Ext All E ⟨E.φ, frzH id b E.H, E.w⟩ :=
 ⟨rfl, rfl, rfl, Nat.le_refl _, fun i _ hi => by simp [frzH]; exact hi, fun _ _ _ => rfl,
  fun i blk' _ _ h => by obtain ⟨_, y, h1, h2⟩ := a3D h; exact ⟨y, h1, by rw [h2]; rfl⟩,
  fun _ _ _ _ _ _ _ => rfl, fun bb _ ⟨j, x, h, hp⟩ => by obtain ⟨_, y, h1, h2⟩ := a3D h; exact ⟨j, y, h1, hp⟩, fun _ _ _ => rfl, fun _ _ => rfl⟩
theorem b4Q {b : Blk} (hw : ∀ x ∈ b.xs, x.cells.length = b.wd) (off len k : Nat) (h : off + len ≤ b.xs.length) (hk : k < len * b.wd) :
  (((b.xs.drop off).take len).flatMap AV.cells)[k]? = b.flat[off * b.wd + k]? := by
 have e : b.flat = (b.xs.take off).flatMap AV.cells ++ (((b.xs.drop off).take len).flatMap AV.cells ++ ((b.xs.drop off).drop len).flatMap AV.cells) := by
  rw [← List.flatMap_append, List.take_append_drop, ← List.flatMap_append, List.take_append_drop]; rfl
 have hl : ∀ (l : List AV), (∀ x ∈ l, x.cells.length = b.wd) → (l.flatMap AV.cells).length = l.length * b.wd := by
  intro l
  induction l with
  | nil => simp
  | cons x l ih =>
   intro h
   rw [List.flatMap_cons, List.length_append, ih (fun y hy => h y (by simp [hy])), h x (by simp), List.length_cons, Nat.add_mul]
   omega
 have h1 : ((b.xs.take off).flatMap AV.cells).length = off * b.wd := by
  rw [hl _ (fun x hx => hw x (List.mem_of_mem_take hx)), List.length_take, Nat.min_eq_left (by omega)]
 have h2 : (((b.xs.drop off).take len).flatMap AV.cells).length = len * b.wd := by
  rw [hl _ (fun x hx => hw x (List.mem_of_mem_drop (List.mem_of_mem_take hx))), List.length_take, List.length_drop, Nat.min_eq_left (by omega)]
 rw [e, List.getElem?_append_right (by omega), h1, Nat.add_sub_cancel_left, List.getElem?_append_left (by omega)]
theorem a3E {wd : Nat} {l : List AV} (h : ∀ x ∈ l, x.cells.length = wd) : (l.flatMap AV.cells).length = l.length * wd := by
 induction l with
 | nil => simp
 | cons x l ih =>
  rw [List.flatMap_cons, List.length_append, ih (fun y hy => h y (by simp [hy])), h x (by simp), List.length_cons, Nat.add_mul]
  omega
theorem d3G {E : Emb} {bl : Nat} {b : Blk} {c : Array Value} {e : TypeId} (r : RowOk E bl b c e) (hpos : 0 < b.wd) (q n : Nat) (h : q + n ≤ b.flat.length) :
  ∃ vs : List Value, vs.length = n ∧ (∀ (k : Nat) v, vs[k]? = some v → E.w.cell? ⟨bl, q + k, none⟩ = some v ∧ v.oneCell' = true) ∧ (∀ (k : Nat) v a, vs[k]? = some v → b.flat[q + k]? = some a → Rep E v a) := by
 have hf := r.fits
 refine ⟨(c.toList.drop q).take n, by simp; omega, ?_, ?_⟩
 ·intro k v hv
  have hlt := a0i hv
  simp at hlt
  have hv' : c[q + k]? = some v := by
   rw [List.getElem?_take, if_pos (by omega), List.getElem?_drop] at hv
   simpa using hv
  refine ⟨?_, r.one (q + k) v (by omega) hv'⟩
  simp [World.cell?, r.heap hpos, hv']
 ·intro k v a hv ha
  have hlt := a0i hv
  simp at hlt
  have hv' : c[q + k]? = some v := by
   rw [List.getElem?_take, if_pos (by omega), List.getElem?_drop] at hv
   simpa using hv
  exact r.rep (q + k) v a hv' ha
theorem d2D {E : Emb} (hok : HOk E) {id : Nat} {b : Blk} (hpos : 0 < b.wd) (hl : E.H[id]? = some (some b)) (hcl : ∀ c ∈ b.flat, Cl c) {v : Value} {a : AV} (hr : Rep E v a) : Rep ⟨E.φ, frzH id b E.H, E.w⟩ v (frz id b a) := by
 have hx := c8w (E := E) (id := id) (b := b)
 have leaf : ∀ {v a}, Rep E v a → Ref (· ≠ id) a → Rep ⟨E.φ, frzH id b E.H, E.w⟩ v (frz id b a) := by
  intro v a h hn
  rw [a4l hn]
  exact h.mono hx (hn.mono fun _ _ => trivial)
 have clr : ∀ {v a}, Rep E v a → Cl a → Rep ⟨E.φ, frzH id b E.H, E.w⟩ v a := fun h hc => h.mono hx hc.ref
 have hnm : ∀ bl, E.φ id = some bl → ¬ (Emb.mk E.φ (frzH id b E.H) E.w).Mut bl := by
  intro bl hb ⟨j, x, h, hp⟩
  obtain ⟨h0, y, h1, _⟩ := a3D h
  exact h0 (hok.inj _ _ _ _ bl h1 hl hp hb)
 have hwd := hok.wids id b hl
 induction hr with
 | top v => simp only [frz]; exact .top _
 | int k n => exact leaf (.int k n) (.int k n)
 | bool b => exact leaf (.bool b) (.bool b)
 | str s => exact leaf (.str s) (.str s)
 | nil => exact leaf .nil .nil
 | lit v => exact leaf (.lit v) (.lit v)
 | sl base cap wd xs vs bl o hcap hp hw hc hbase hlen hcell hrep ih => exact leaf (.sl base cap wd xs vs bl o hcap hp hw hc hbase hlen hcell hrep) (.sl wd xs)
 | ro x off bl o vs hb hp hc hlen hcell hrep ih => exact leaf (.ro x off bl o vs hb hp hc hlen hcell hrep) (.ro x off)
 | mu blk i off len oc bl q cap hlive hb hq hlen hsz hoc =>
  by_cases hi : i = id
  ·subst hi
   rw [hl] at hlive
   cases hlive
   simp only [frz, if_true]
   split
   ·rename_i hle
    have hcl' : ∀ c ∈ ((b.xs.drop off).take len).flatMap AV.cells, Cl c := by
     intro c hc
     obtain ⟨x, hx, hc⟩ := List.mem_flatMap.1 hc
     exact hcl c (List.mem_flatMap.2 ⟨x, List.mem_of_mem_drop (List.mem_of_mem_take hx), hc⟩)
    have hlen2 : ((b.xs.drop off).take len).length = len := by simp; omega
    have hw2 : ∀ x ∈ (b.xs.drop off).take len, x.cells.length = b.wd := fun x hx => hwd x (List.mem_of_mem_drop (List.mem_of_mem_take hx))
    rcases Nat.eq_zero_or_pos len with h0 | h0
    ·have : (b.xs.drop off).take len = [] := by rw [h0]; simp
     rw [this, h0]
     exact .sl _ cap b.wd [] [] bl q (Nat.zero_le _) hpos (by simp) (by simp) (.inl rfl) rfl (fun k v hk => by simp at hk) (fun k v a hk => by simp at hk)
    ·have hq' : q = off * b.wd := by
      rcases hq with hq | ⟨hq, _⟩
      ·exact hq
      ·omega
     subst hq'
     obtain ⟨c, e, r⟩ := hok.row i b bl hl hb
     have hfl : b.flat.length = b.xs.length * b.wd := a3E hwd
     have hle2 : off * b.wd + len * b.wd ≤ b.flat.length := by rw [hfl, ← Nat.add_mul]; exact Nat.mul_le_mul_right _ hle
     obtain ⟨vs, v1, v2, v3⟩ := d3G r hpos (off * b.wd) (len * b.wd) hle2
     have key := Rep.sl (E := ⟨E.φ, frzH i b E.H, E.w⟩) (some ⟨bl, off * b.wd, none⟩) cap b.wd ((b.xs.drop off).take len) vs bl (off * b.wd) (by rw [hlen2]; exact hlen) hpos hw2 hcl' (.inr ⟨rfl, hnm bl hb⟩) (by rw [a3E hw2, hlen2, v1]) v2 (by
      intro k v a hk ha
      have hkl := a0i hk
      rw [v1] at hkl
      have ha' := ha
      rw [b4Q hwd off len k hle hkl] at ha'
      exact clr (v3 k v a hk ha') (hcl' a (List.mem_of_getElem? ha)))
     rw [hlen2] at key
     exact key
   ·exact .top _
  ·exact leaf (.mu blk i off len oc bl q cap hlive hb hq hlen hsz hoc) (.mu i off len oc hi)
 | mu0 blk i off oc hlive hb hoc =>
  by_cases hi : i = id
  ·subst hi
   rw [hl] at hlive
   cases hlive
   simp only [frz, if_true]
   split
   ·simp only [List.take_zero]
    exact .sl none 0 b.wd [] [] 0 0 (Nat.zero_le _) hpos (by simp) (by simp) (.inl rfl) rfl (fun k v hk => by simp at hk) (fun k v a hk => by simp at hk)
   ·exact .top _
  ·exact leaf (.mu0 blk i off oc hlive hb hoc) (.mu i off 0 oc hi)
 | loc blk i k off bl hlive hb =>
  by_cases hi : i = id
  ·subst hi
   rw [hl] at hlive
   cases hlive
   simp only [frz, if_true]
   split
   ·rename_i hk
    obtain ⟨c, e, r⟩ := hok.row i b bl hl hb
    have hfl : b.flat.length = b.xs.length * b.wd := a3E hwd
    have hxc : (b.xs.getD k .top).cells = ((b.xs.drop k).take 1).flatMap AV.cells := by
     rw [List.getD_eq_getElem?_getD, List.getElem?_eq_getElem hk, Option.getD_some, List.drop_eq_getElem_cons hk, List.take_succ_cons]
     simp
    have hmem : b.xs.getD k .top ∈ b.xs := by rw [List.getD_eq_getElem?_getD, List.getElem?_eq_getElem hk, Option.getD_some]; exact List.getElem_mem hk
    have hle2 : k * b.wd + 1 * b.wd ≤ b.flat.length := by rw [hfl, ← Nat.add_mul]; exact Nat.mul_le_mul_right _ hk
    obtain ⟨vs, v1, v2, v3⟩ := d3G r hpos (k * b.wd) (1 * b.wd) hle2
    rw [Nat.one_mul] at v1
    have hcl2 : ∀ c ∈ (b.xs.getD k .top).cells, Cl c := fun c hc => hcl c (List.mem_flatMap.2 ⟨_, hmem, hc⟩)
    exact .ro (b.xs.getD k .top) off bl (k * b.wd) vs (hnm bl hb) (by rw [hwd _ hmem]; exact hpos) hcl2 (by rw [hwd _ hmem, v1]) v2 (by
     intro j v a hj ha
     have hjl := a0i hj
     rw [v1] at hjl
     refine clr (v3 j v a hj ?_) (hcl2 a (List.mem_of_getElem? ha))
     rw [← b4Q hwd k 1 j hk (by omega), ← hxc]
     exact ha)
   ·exact .top _
  ·exact leaf (.loc blk i k off bl hlive hb) (.loc i k off hi)
 | mp blk k i bl hlive hb hw =>
  by_cases hi : i = id
  ·simp only [frz, hi, if_true]; exact .top _
  ·exact leaf (.mp blk k i bl hlive hb hw) (.mp k i hi)
 | dead v a i hr hd h1 =>
  have hi : i ≠ id := by rintro rfl; rw [hl] at hd; simp at hd
  have hn : Ref (· ≠ id) a := by
   cases a <;> simp [AV.ref] at hr
   ·subst hr; exact .mu _ _ _ _ hi
   ·subst hr; exact .loc _ _ _ hi
   ·subst hr; exact .mp _ _ hi
  exact leaf (.dead v a i hr hd h1) hn
 | agg vs cs hlen h1 hrep ih =>
  simp only [frz]
  exact .agg vs _ (by simp [hlen]) h1 (fun k v a hk ha => by
   simp at ha
   obtain ⟨a0, h0, rfl⟩ := ha
   exact ih k v a0 hk h0)
 | tup vs cs hlen hrep ih =>
  simp only [frz]
  exact .tup vs _ (by simp [hlen]) (fun k v a hk ha => by
   simp at ha
   obtain ⟨a0, h0, rfl⟩ := ha
   exact ih k v a0 hk h0)
 | fn f vs cs hlen hrep ih =>
  simp only [frz]
  exact .fn f vs _ (by simp [hlen]) (fun k v a hk ha => by
   simp at ha
   obtain ⟨a0, h0, rfl⟩ := ha
   exact ih k v a0 hk h0)
 | bfn f vs cs hlen hrep ih =>
  simp only [frz]
  exact .bfn f vs _ (by simp [hlen]) (fun k v a hk ha => by
   simp at ha
   obtain ⟨a0, h0, rfl⟩ := ha
   exact ih k v a0 hk h0)
theorem e3A {E : Emb} (hok : HOk E) {id : Nat} {b : Blk} (hpos : 0 < b.wd) (hl : E.H[id]? = some (some b)) (hcl : ∀ c ∈ b.flat, Cl c) : HOk ⟨E.φ, frzH id b E.H, E.w⟩ := by
 refine ⟨fun j x bl h h0 hp => ?_, fun j x h => ?_, fun j x bl h hp => ?_, fun j x h hp => ?_, fun i j x y bl h1 h2 p1 p2 => ?_⟩
 ·obtain ⟨_, y, h1, rfl⟩ := a3D h
  rcases hok.obj j y bl h1 h0 hp with ⟨L, q1, q2⟩ | ⟨mid, n, seen, m, q1, q2, q3, q4⟩ | ⟨bs, ks, vs, n, q1, us, q2, q3, q4, q5, q6, q7, q8⟩
  ·exact .inl ⟨L, by simp [frzB, q1, frz], q2⟩
  ·refine .inr (.inl ⟨mid, n, seen, m, by simp [frzB, q1, frz], q2, q3, fun blk hb => ?_⟩)
   obtain ⟨_, z, hz, rfl⟩ := a3D hb
   exact q4 z hz
  ·exact .inr (.inr ⟨bs, ks, vs, n, by simp [frzB, q1, frz], us, q2, q3, q4, q5, q6, q7, fun k u v hu hv => (q8 k u v hu hv).mono (c8w (E := E) (id := id) (b := b)) (q6 v (List.mem_of_getElem? hv)).ref⟩)
 ·obtain ⟨_, y, h1, rfl⟩ := a3D h
  intro z hz
  simp only [frzB, List.mem_map] at hz
  obtain ⟨z0, hz0, rfl⟩ := hz
  rw [d0B, List.length_map]; exact hok.wids j y h1 z0 hz0
 ·obtain ⟨_, y, h1, rfl⟩ := a3D h
  obtain ⟨c, e, r⟩ := hok.row j y bl h1 hp
  refine ⟨c, e, r.heap, by rw [c4K, List.length_map]; exact r.fits, fun k v hk hv => r.one k v (by rw [c4K, List.length_map] at hk; exact hk) hv, fun k v a hk ha => ?_⟩
  rw [c4K] at ha
  simp at ha
  obtain ⟨a0, h0, rfl⟩ := ha
  exact d2D hok hpos hl hcl (r.rep k v a0 hk h0)
 ·obtain ⟨_, y, h1, rfl⟩ := a3D h
  simp [frzB, hok.emp j y h1 hp]
 ·obtain ⟨_, x', h1, _⟩ := a3D h1
  obtain ⟨_, y', h2, _⟩ := a3D h2
  exact hok.inj i j _ _ bl h1 h2 p1 p2
theorem d0c (id : Nat) (b : Blk) (env : Env) (t : Nat) : look (frzE id b env) t = frz id b (look env t) := by
 induction env with
 | nil => simp only [frzE, List.map_nil, look, frz]
 | cons p env ih =>
  simp only [frzE, List.map_cons, look]
  split
  ·rfl
  ·exact ih
section
variable {x : Cx} {todo : List AItem} {env : Env} {H : Heap} {R : AV → Heap → Prop}
theorem Safe.freezeG {id : Nat} {b : Blk} (hid : x.n0 ≤ id) (hl : H[id]? = some (some b)) (hcl : ∀ c ∈ b.flat, Cl c) (h : Safe x todo (frzE id b env) (frzH id b H) R) (hpos : 0 < b.wd := by exact Nat.zero_lt_succ _) : Safe x todo env H R := by
 intro φ w tmps bf k cs hg hn hb hk ht hsz hok he
 have hok' := e3A hok hpos hl hcl
 obtain ⟨v, w', fr, r, φ', H', q1, q2, q3, q4, q5, q6⟩ := h φ w tmps bf k cs hg (by simp [frzH]; exact hn) hb hk ht hsz hok' (fun t => by rw [d0c]; exact d2D hok hpos hl hcl (he t))
 exact ⟨v, w', fr, r, φ', H', q1, q2, q3, q4, (c8w.sub fun _ _ => trivial).trans q5, q6⟩
def frzL (id : Nat) (b : Blk) (L : Heap) : Heap := L.map (Option.map (frzB id b))
theorem d3Z (id : Nat) (b : Blk) : frzL id b [] = [] := rfl
theorem d0C (id : Nat) (b : Blk) (x : Blk) (L : Heap) : frzL id b (some x :: L) = some ⟨x.wd, x.xs.map (frz id b)⟩ :: frzL id b L := rfl
theorem d9i (id : Nat) (b : Blk) (L : Heap) : frzL id b (none :: L) = none :: frzL id b L := rfl
theorem e6i {id : Nat} {b y : Blk} (h : ∀ a ∈ y.flat, Ref (· ≠ id) a) : frzB id b y = y := by
 obtain ⟨wd, xs⟩ := y
 simp only [frzB, Blk.mk.injEq, true_and]
 rw [List.map_congr_left (g := fun x => x)]
 ·simp
 ·intro a ha
  have hc : ∀ c ∈ a.cells, Ref (· ≠ id) c := fun c hc => h c (List.mem_flatMap.2 ⟨a, ha, hc⟩)
  cases a
  case agg cs => exact a4l (.agg cs hc)
  case mo l => exact a4l (.mo l)
  case io i n seen => exact a4l (.io i n seen)
  case ms bs ks vs n => exact a4l (.ms bs ks vs n)
  all_goals exact a4l (hc _ (by simp [AV.cells]))
theorem c8x (hH : a0z H) (i : Nat) (b : Blk) (L : Heap) : frzH (lid H i) b (hap H L) = hap H ((frzL (lid H i) b L).set i none) := by
 unfold frzH hap
 rw [List.map_append]
 have : H.map (Option.map (frzB (lid H i) b)) = H := by
  rw [List.map_congr_left (g := fun x => x)]
  ·simp
  ·intro o ho
   obtain ⟨j, hj, rfl⟩ := List.getElem_of_mem ho
   cases hy : H[j] with
   | none => rfl
   | some y =>
    simp only [Option.map_some]
    rw [e6i]
    intro a ha
    refine (hH j y (by rw [List.getElem?_eq_getElem hj, hy]) a ha).mono fun k hk => ?_
    show k ≠ lid H i
    unfold lid; omega
 rw [this, List.set_append_right _ _ (by simp [lid]), show lid H i - H.length = i by simp [lid]]
 rfl
theorem Safe.freeze (i : Nat) {L : Heap} {b : Blk} (hH : a0z H) (hx : x.n0 = H.length) (hl : L[i]? = some (some b)) (hcl : ∀ c ∈ b.flat, Cl c)
  (h : Safe x todo (frzE (lid H i) b env) (hap H ((frzL (lid H i) b L).set i none)) R) (hpos : 0 < b.wd := by exact Nat.zero_lt_succ _) : Safe x todo env (hap H L) R := by
 refine Safe.freezeG (id := lid H i) (b := b) (by rw [hx]; exact a5g H i) ?_ hcl ?_ hpos
 ·unfold hap lid
  rw [List.getElem?_append_right (by omega), Nat.add_sub_cancel_left]; exact hl
 ·rw [c8x hH]; exact h
theorem e2i (id : Nat) (b : Blk) : frzE id b [] = [] := rfl
theorem d9j (id : Nat) (b : Blk) (t : Nat) (a : AV) (env : Env) : frzE id b ((t, a) :: env) = (t, frz id b a) :: frzE id b env := rfl
theorem Safe.nilrow (t wd : Nat) {L : Heap} (hwd : 0 < wd) (ht : look env t = .nil) (h : Safe x todo ((t, .mu (lid H L.length) 0 0 none) :: env) (hap H (L ++ [some ⟨wd, []⟩])) R) : Safe x todo env (hap H L) R := by
 intro φ w tmps bf k cs hg hn hb hk htd hsz hok he
 obtain ⟨hok', hx⟩ := hok.alloc (w := w) rfl rfl rfl (Nat.le_refl _) none (by simp) (fun _ _ => rfl) ⟨wd, []⟩ hwd (by simp) (.inl ⟨rfl, rfl⟩)
 simp only [hap, List.append_assoc] at hok' hx
 obtain ⟨v, w', fr, r, φ', H', q1, q2, q3, q4, q5, q6⟩ := h _ w tmps bf k cs hg (by simp only [hap, List.length_append] at hn ⊢; omega) hb hk htd hsz (by simpa [hap] using hok') (fun j => by
  simp only [look]
  split
  ·rename_i hj
   subst hj
   have h0 := he t
   rw [ht] at h0
   have hv : tmps.getD t undef = .slice none 0 0 := by
    generalize tmps.getD t undef = u at h0
    cases h0 with
    | nil => rfl
    | dead v a i hr hd h1 => simp [AV.ref] at hr
   rw [hv]
   refine .mu0 ⟨wd, []⟩ _ 0 none ?_ ?_ (by simp)
   ·simp only [hap, lid]
    rw [← List.append_assoc, List.getElem?_append_right (by simp)]; simp
   ·simp [lid, hap]
  ·have := (he j).mono' hx
   simpa [hap] using this)
 refine ⟨v, w', fr, r, φ', H', q1, q2, q3, q4, ?_, q6⟩
 have hx' := hx.sub (T := (· < x.n0)) (fun i hi => Nat.lt_of_lt_of_le hi hn)
 exact hx'.trans (by simpa [hap] using q5)
theorem b8j {E : Emb} {v : Value} (wd : Nat) (hwd : 0 < wd) (h : Rep E v .nil) : Rep E v (.sl wd []) := by
 cases h with
 | nil => exact .sl none 0 wd [] [] 0 0 (Nat.zero_le _) hwd (by simp) (by simp) (.inl rfl) rfl (fun k v hk => by simp at hk) (fun k v a hk => by simp at hk)
 | dead v a i hr hd h1 => simp [AV.ref] at hr
theorem Safe.nilsl (t wd : Nat) (hwd : 0 < wd) (ht : look env t = .nil) (h : Safe x todo ((t, .sl wd []) :: env) H R) : Safe x todo env H R := by
 intro φ w tmps bf k cs hg hn hb hk htd hsz hok he
 refine h φ w tmps bf k cs hg hn hb hk htd hsz hok fun j => ?_
 simp only [look]
 split
 ·rename_i hj
  subst hj
  have h0 := he t
  rw [ht] at h0
  exact b8j wd hwd h0
 ·exact he j
end
def a0f (P : Program) (f : FuncId) (args : List AV) (r : AV) : Prop := ∀ H, a0h P f args H fun r' H' => r' = r ∧ H' = H
theorem a0h.cut {P : Program} {f : FuncId} {args : List AV} {H : Heap} {r : AV} (hr : Ref (· < H.length) r) (h : a0h P f args H fun r' H' => r' = r ∧ ∃ L, H' = hap H L) : a0h P f args H fun r' H' => r' = r ∧ H' = H := by
 refine ⟨h.1, fun φ w vs hok hl hrep => (h.2 φ w vs hok hl hrep).mono ?_⟩
 rintro e w' ⟨v, r', φ', H', rfl, ⟨rfl, L, rfl⟩, q1, q2, q3, q4⟩
 have hfree : ∀ (j : Nat) bj, j < H.length → (hap H L)[j]? = some (some bj) → ∀ a ∈ bj.flat, Ref (· < H.length) a := by
  intro j bj hj hb
  simp only [hap] at hb
  rw [List.getElem?_append_left hj] at hb
  exact hok.refs hb
 have hcut := HOk.cut q1 H.length hfree
 have ht : (hap H L).take H.length = H := by simp [hap]
 simp only [ht] at hcut
 refine ⟨v, r', φ', H, rfl, ⟨rfl, rfl⟩, hcut.1, q2.mono hcut.2 hr, Nat.le_refl _, q4.trans hcut.2⟩
theorem a0f.intro {P : Program} {mu : Nat → Nat → Bool} {f : FuncId} {fn : Func} (hf : P.funcs[f]? = some fn) {ac : ACode} {rs : List ResV} {nt : Nat} (hc : fchk P mu fn = some (ac, rs, nt))
  {args : List AV} {r : AV} (ha : args.length ≤ nt) (hr : Cl r) (h : ∀ H, a0z H → Safe ⟨P, mu, f, nt, rs, H.length⟩ [.code ac] (b2o 0 args) (hap H []) fun r' H' => r' = r ∧ ∃ L, H' = hap H L) : a0f P f args r := by
 intro H
 refine a0h.cut hr.ref (a0h.intro hf hc ha fun hH => ?_)
 have := h H hH
 rw [a1Y] at this
 exact this
end Go.Abs
set_option linter.defProp false
namespace Go.Abs
section
variable (P : Program) (n0 : Nat) (K : Env → Heap → Prop) (env : Env) (H : Heap)
theorem e2u : dops P n0 [] K env H = K env H := rfl
theorem d9v (d : Option Nat) (o : AOp) (l : List AIns) : dops P n0 (⟨d, none, o⟩ :: l) K env H = b4y P n0 o d (dops P n0 l K) env H := rfl
theorem d9u (d : Option Nat) (t : Nat) (want : Bool) (o : AOp) (l : List AIns) :
  dops P n0 (⟨d, some (t, want), o⟩ :: l) K env H = a9y want (look env t) fun c => if c = want then b4y P n0 o d (dops P n0 l K) env H else dops P n0 l K (put d (.tup []) env) H := rfl
theorem e5M (o : POp) (d : Option Nat) : b4y P n0 (.p o) d K env H = c1g (pv o env H) fun v => K (put d v env) H := rfl
theorem e5N (o : EOp) (d : Option Nat) : b4y P n0 (.e o) d K env H = b8Y (ev n0 o env H) fun v env' H' => K (put d v env') H' := rfl
def dcall (P : Program) (f : FuncId) (args : List AV) (H : Heap) (K : AV → Prop) : Prop := ∃ r, (∀ L, a0h P f args (H ++ L) fun r' H' => r' = r ∧ H' = H ++ L) ∧ K r
def dres (K : Env → Heap → Prop) (d : Option Nat) (env : Env) (H : Heap) : AV → Prop := fun r => K (put d r env) H
theorem e5P (d : Option Nat) (r : AV) : dres K d env H r = K (put d r env) H := rfl
theorem d6u (f : FuncId) (args : List Src) (d : Option Nat) : b4y P n0 (.call f args) d K env H = dcall P f (args.map (·.ev env)) H (dres K d env H) := rfl
def d0M (P : Program) (g : AV) (args : List AV) (H : Heap) (K : AV → Prop) : Prop := match g with
 | .fn f caps => dcall P f (args ++ caps) H K
 | _ => False
theorem d2J (g : Src) (args : List Src) (d : Option Nat) : b4y P n0 (.callv g args) d K env H = d0M P (g.ev env) (args.map (·.ev env)) H (dres K d env H) := by
 simp only [b4y, d0M]; split <;> simp_all [dcall, dres]
theorem d9I (f : FuncId) (caps args : List AV) (K : AV → Prop) : d0M P (.fn f caps) args H K = dcall P f (args ++ caps) H K := rfl
end
def dgcall (P : Program) (f : FuncId) (args : List AV) (H : Heap) (K : AV → Heap → Prop) : Prop := ∃ r L, (a0h P f args H fun r' H' => r' = r ∧ H' = H ++ L) ∧ K r (H ++ L)
def d9A (P : Program) (g : AV) (args : List AV) (H : Heap) (K : AV → Heap → Prop) : Prop := match g with
 | .fn f caps => dgcall P f (args ++ caps) H K
 | _ => False
@[congr] theorem e3C {P : Program} {f : FuncId} {aXs as' : List AV} {H H' : Heap} {K : AV → Heap → Prop} (h : aXs = as') (h' : H = H') : dgcall P f aXs H K = dgcall P f as' H' K := by rw [h, h']
@[congr] theorem e2w {P : Program} {g g' : AV} {aXs as' : List AV} {H H' : Heap} {K : AV → Heap → Prop} (h : g = g') (h2 : aXs = as') (h' : H = H') : d9A P g aXs H K = d9A P g' as' H' K := by rw [h, h2, h']
@[congr] theorem e6A {P : Program} {n0 : Nat} {l : List AIns} {K : Env → Heap → Prop} {env env' : Env} {H H' : Heap} (h : env = env') (h' : H = H') : dops P n0 l K env H = dops P n0 l K env' H' := by rw [h, h']
@[congr] theorem e5O {P : Program} {n0 : Nat} {o : AOp} {d : Option Nat} {K : Env → Heap → Prop} {env env' : Env} {H H' : Heap} (h : env = env') (h' : H = H') : b4y P n0 o d K env H = b4y P n0 o d K env' H' := by rw [h, h']
@[congr] theorem e5S {P : Program} {f : FuncId} {aXs as' : List AV} {H H' : Heap} {K : AV → Prop} (h : aXs = as') (h' : H = H') : dcall P f aXs H K = dcall P f as' H' K := by rw [h, h']
@[congr] theorem e3E {P : Program} {g g' : AV} {aXs as' : List AV} {H H' : Heap} {K : AV → Prop} (h : g = g') (h2 : aXs = as') (h' : H = H') : d0M P g aXs H K = d0M P g' as' H' K := by rw [h, h2, h']
theorem a0f.acall {P : Program} {f : FuncId} {args : List AV} {H : Heap} {r : AV} {R : AV → Heap → Prop} (h : a0f P f args r) (k : R r H) : a0h P f args H R :=
 (h H).mono fun r' H' ⟨h1, h2⟩ => by subst h1; subst h2; exact k
theorem a0f.dcall {P : Program} {f : FuncId} {args : List AV} {H : Heap} {r : AV} {K : AV → Prop} (h : a0f P f args r) (k : K r) : dcall P f args H K := ⟨r, fun L => h (H ++ L), k⟩
theorem a0f.dgcall {P : Program} {f : FuncId} {args : List AV} {H : Heap} {r : AV} {K : AV → Heap → Prop} (h : a0f P f args r) (k : K r H) : dgcall P f args H K := ⟨r, [], by simpa using h H, by simpa using k⟩
theorem b4S {a : AV} (h : Cl a) : clb a = true := c4U.2 h
theorem a0J {id : Nat} {a : AV} (h : Cl a) : nref id a = true := a0l.2 h.ref
theorem e5Z (k : IntKind) (n : Int) : clb (.int k n) = true := b4S (.int k n)
theorem e2C (b : Bool) : clb (.bool b) = true := b4S (.bool b)
theorem e5X (s : ByteArray) : clb (.str s) = true := b4S (.str s)
theorem e5Y : clb .nil = true := b4S .nil
theorem e1z (id : Nat) : nref id .top = true := a0J .top
theorem c7W (id : Nat) (k : IntKind) (n : Int) : nref id (.int k n) = true := a0J (.int k n)
theorem d7W (id : Nat) (b : Bool) : nref id (.bool b) = true := a0J (.bool b)
theorem e1A (id : Nat) (s : ByteArray) : nref id (.str s) = true := a0J (.str s)
theorem e1B (id : Nat) : nref id .nil = true := a0J .nil
theorem e1D (id : Nat) (v : Value) : nref id (.lit v) = true := a0J (.lit v)
theorem d7V (id wd : Nat) (xs : List AV) : nref id (.sl wd xs) = true := a0l.2 (.sl wd xs)
theorem e4T (id off : Nat) (x : AV) : nref id (.ro x off) = true := a0l.2 (.ro x off)
theorem b6N (id : Nat) (cs : List AV) : nref id (.agg cs) = cs.all (nref id) := by
 rw [Bool.eq_iff_iff, a0l, List.all_eq_true]
 constructor
 ·intro h c hc; cases h with | agg _ h => exact a0l.2 (h c hc)
 ·intro h; exact .agg _ fun c hc => a0l.1 (h c hc)
theorem e1y (id : Nat) (cs : List AV) : nref id (.tup cs) = cs.all (nref id) := by
 rw [Bool.eq_iff_iff, a0l, List.all_eq_true]
 constructor
 ·intro h c hc; cases h with | tup _ h => exact a0l.2 (h c hc)
 ·intro h; exact .tup _ fun c hc => a0l.1 (h c hc)
theorem e4U (id : Nat) (f : FuncId) (cs : List AV) : nref id (.fn f cs) = cs.all (nref id) := by
 rw [Bool.eq_iff_iff, a0l, List.all_eq_true]
 constructor
 ·intro h c hc; cases h with | fn _ _ h => exact a0l.2 (h c hc)
 ·intro h; exact .fn _ _ fun c hc => a0l.1 (h c hc)
theorem c2S (H : Heap) (i j off len : Nat) (oc : Option Nat) : nref (lid H i) (.mu (lid H j) off len oc) = decide (j ≠ i) := by
 rw [Bool.eq_iff_iff, a0l, decide_eq_true_eq]
 constructor
 ·intro h; cases h with | mu _ _ _ _ h => intro e; exact h (by rw [e])
 ·intro h; exact .mu _ _ _ _ (by simp only [lid]; omega)
theorem c1I (H : Heap) (i j k off : Nat) : nref (lid H i) (.loc (lid H j) k off) = decide (j ≠ i) := by
 rw [Bool.eq_iff_iff, a0l, decide_eq_true_eq]
 constructor
 ·intro h; cases h with | loc _ _ _ h => intro e; exact h (by rw [e])
 ·intro h; exact .loc _ _ _ (by simp only [lid]; omega)
theorem d7F (id : Nat) : scrub id [] = [] := rfl
theorem d5g (id t : Nat) (a : AV) (env : Env) : scrub id ((t, a) :: env) = (t, if nref id a then a else .top) :: scrub id env := rfl
theorem e5x (id : Nat) (b : Blk) (k : IntKind) (n : Int) : frz id b (.int k n) = .int k n := by simp only [frz]
theorem e2f (id : Nat) (b : Blk) (c : Bool) : frz id b (.bool c) = .bool c := by simp only [frz]
theorem e5t (id : Nat) (b : Blk) (s : ByteArray) : frz id b (.str s) = .str s := by simp only [frz]
theorem e5u (id : Nat) (b : Blk) : frz id b .nil = .nil := by simp only [frz]
theorem e5s (id : Nat) (b : Blk) : frz id b .top = .top := by simp only [frz]
theorem e5w (id : Nat) (b : Blk) (v : Value) : frz id b (.lit v) = .lit v := by simp only [frz]
theorem e7B (id : Nat) (b : Blk) (wd : Nat) (xs : List AV) : frz id b (.sl wd xs) = .sl wd xs := by simp only [frz]
theorem e7C (id : Nat) (b : Blk) (x : AV) (off : Nat) : frz id b (.ro x off) = .ro x off := by simp only [frz]
theorem d9h (id : Nat) (b : Blk) (cs : List AV) : frz id b (.agg cs) = .agg (cs.map (frz id b)) := by simp only [frz]
theorem e5r (id : Nat) (b : Blk) (cs : List AV) : frz id b (.tup cs) = .tup (cs.map (frz id b)) := by simp only [frz]
theorem e7D (id : Nat) (b : Blk) (f : FuncId) (cs : List AV) : frz id b (.fn f cs) = .fn f (cs.map (frz id b)) := by simp only [frz]
theorem c4J (H : Heap) (i : Nat) (b : Blk) (len : Nat) (oc : Option Nat) (h : len = b.xs.length) : frz (lid H i) b (.mu (lid H i) 0 len oc) = .sl b.wd b.xs := by
 simp [frz, h]
theorem d0y (H : Heap) (i j : Nat) (b : Blk) (off len : Nat) (oc : Option Nat) (h : j ≠ i) : frz (lid H i) b (.mu (lid H j) off len oc) = .mu (lid H j) off len oc := by
 have : lid H j ≠ lid H i := by simp only [lid]; omega
 simp [frz, this]
theorem a7T (H : Heap) (i j : Nat) (b : Blk) (k off : Nat) (h : j ≠ i) : frz (lid H i) b (.loc (lid H j) k off) = .loc (lid H j) k off := by
 have : lid H j ≠ lid H i := by simp only [lid]; omega
 simp [frz, this]
theorem d0A (H : Heap) (i : Nat) (b : Blk) (k off : Nat) (h : k < b.xs.length) : frz (lid H i) b (.loc (lid H i) k off) = .ro (b.xs.getD k .top) off := by
 simp [frz, h]
section
variable (n0 : Nat) (env : Env) (H L : Heap)
def a5f (n : Nat) (p v : AV) (env : Env) (H : Heap) : Option (AV × Env × Heap) := match p with
 | .loc id i off => (hrow H id).bind fun b =>
    if i < b.xs.length ∧ v.fit = true ∧ v.cells.length = n ∧ off + n ≤ b.wd then some (.top, env, H.set id (some ⟨b.wd, b.xs.set i (upd (b.xs.getD i .top) b.wd off n v)⟩)) else none
 | _ => none
theorem e2s (n : Nat) (a v : Src) : ev n0 (.store n a v) env H = a5f n (a.ev env) (v.ev env) env H := by simp only [ev, a5f]; split <;> simp_all
theorem a5x (n i k off : Nat) (v : AV) {b : Blk} (hl : L[i]? = some (some b)) (hk : k < b.xs.length) (hf : v.fit = true) (hn : v.cells.length = n) (ho : off + n ≤ b.wd) :
  a5f n (.loc (lid H i) k off) v env (hap H L) = some (.top, env, hap H (L.set i (some ⟨b.wd, b.xs.set k (upd (b.xs.getD k .top) b.wd off n v)⟩))) := by
 simp only [a5f, a0Q, hl, Option.join_some, Option.bind_some, a2Q]
 rw [if_pos ⟨hk, hf, hn, ho⟩]
theorem e7L (n : Nat) (v : Src) : ev n0 (.box n v) env H = if (v.ev env).fit = true ∧ (v.ev env).cells.length = n ∧ 0 < n then some (.loc H.length 0 0, env, H ++ [some ⟨n, [v.ev env]⟩]) else none := rfl
theorem e7K (wd : Nat) (ps : List Src) : ev n0 (.bsl wd ps) env H = if 0 < wd ∧ ps.all (fun s => (s.ev env).fit && decide ((s.ev env).cells.length = wd) && (s.ev env).cells.all clb) then some (.sl wd (ps.map (·.ev env)), env, H) else none := rfl
theorem e5H (wd : Nat) (ps : List Src) : ev n0 (.bslm wd ps) env H = if 0 < wd ∧ ps.all (fun s => (s.ev env).fit && decide ((s.ev env).cells.length = wd)) then
   some (.mu H.length 0 ps.length (some ps.length), env, H ++ [some ⟨wd, ps.map (·.ev env)⟩]) else none := rfl
def d2c (wd bytes : Nat) (z l c : AV) (env : Env) (H : Heap) : Option (AV × Env × Heap) := match l, c with
  | .int _ l, .int _ c => if 0 < wd ∧ 0 ≤ l ∧ l ≤ c ∧ (bytes : Int) * c ≤ 281474976710656 ∧ c ≤ 9223372036854775807 then
    some (.mu H.length 0 l.toNat (some c.toNat), env, H ++ [some ⟨wd, List.replicate l.toNat z⟩]) else none
  | _, _ => none
theorem e5G (wd bytes : Nat) (z : AV) (l c : Src) : ev n0 (.mksl wd bytes z l c) env H = d2c wd bytes z (l.ev env) (c.ev env) env H := by simp only [ev, d2c]; split <;> simp_all
theorem c3V (wd bytes : Nat) (z : AV) (k k' : IntKind) (l c : Nat) (h0 : 0 < wd) (h1 : l ≤ c) (h2 : bytes * c ≤ 281474976710656) (h3 : c ≤ 9223372036854775807) :
  d2c wd bytes z (.int k l) (.int k' c) env (hap H L) = some (.mu (lid H L.length) 0 l (some c), env, hap H (L ++ [some ⟨wd, List.replicate l z⟩])) := by
 simp only [d2c, b8M, b9k, Int.toNat_natCast]
 rw [if_pos ⟨h0, by omega, by omega, by rw [← Int.natCast_mul]; omega, by omega⟩]
noncomputable def appV (n0 wd bytes : Nat) (str : Bool) (x y : AV) (env : Env) (H : Heap) : Option (AV × Env × Heap) := (a0Z H wd str y).bind fun ys =>
   match x with
   | .nil => if 0 < wd ∧ ys.length * bytes ≤ 140737488355328 ∧ ys.length ≤ 9223372036854775807 then some (.mu H.length 0 ys.length none, env, H ++ [some ⟨wd, ys⟩]) else none
   | .mu id off len oc => (hrow H id).bind fun r =>
     if r.wd = wd ∧ off = 0 ∧ len ≤ r.xs.length ∧ n0 ≤ id ∧ 0 < ys.length ∧ (oc.any fun c => decide (len + ys.length ≤ c)) = true then
      some (.mu id 0 (len + ys.length) oc, env, H.set id (some ⟨wd, r.xs.take len ++ ys⟩)) else
     if r.wd = wd ∧ off = 0 ∧ len ≤ r.xs.length ∧ n0 ≤ id ∧ free H id = true ∧ (ys.flatMap AV.cells).all (nref id) = true ∧ (r.xs.flatMap AV.cells).all (nref id) = true ∧
       (len + ys.length) * bytes ≤ 140737488355328 ∧ len + ys.length ≤ 9223372036854775807 then
      some (.mu id 0 (len + ys.length) (a1f oc (len + ys.length)), scrub id env, H.set id (some ⟨wd, r.xs.take len ++ ys⟩)) else
     if r.wd = wd ∧ off + len ≤ r.xs.length ∧ 0 < ys.length ∧ (oc.any fun c => decide (c < len + ys.length)) = true ∧ (len + ys.length) * bytes ≤ 140737488355328 ∧ len + ys.length ≤ 9223372036854775807 then
      some (.mu H.length 0 (len + ys.length) none, env, H ++ [some ⟨wd, (r.xs.drop off).take len ++ ys⟩]) else
     if r.wd = wd ∧ off = 0 ∧ len ≤ r.xs.length ∧ n0 ≤ id ∧ (ys.flatMap AV.cells).all (nref id) = true ∧ r.xs.all (nref id) = true ∧ (len + ys.length) * bytes ≤ 140737488355328 ∧ len + ys.length ≤ 9223372036854775807 then
      some (.mu id 0 (len + ys.length) (a1f oc (len + ys.length)), scrub id env, (a2a id H).set id (some ⟨wd, r.xs.take len ++ ys⟩)) else none
   | _ => none
theorem e7M (wd bytes : Nat) (str : Bool) (a b : Src) : ev n0 (.app wd bytes str a b) env H = appV n0 wd bytes str (a.ev env) (b.ev env) env H := by
 simp only [ev, appV]; cases a0Z H wd str (b.ev env) <;> simp only [Option.bind_none, Option.bind_some]; split <;> simp_all
theorem c8N (wd bytes : Nat) (str : Bool) (y : AV) (ys : List AV) (hy : a0Z (hap H L) wd str y = some ys) (h0 : 0 < wd) (h1 : ys.length * bytes ≤ 140737488355328) (h2 : ys.length ≤ 9223372036854775807) :
  appV n0 wd bytes str .nil y env (hap H L) = some (.mu (lid H L.length) 0 ys.length none, env, hap H (L ++ [some ⟨wd, ys⟩])) := by
 simp only [appV, hy, Option.bind_some, b8M, b9k]
 rw [if_pos ⟨h0, h1, h2⟩]
def e3g (H : Heap) (L : Heap) (i : Nat) : Prop := ∀ (j : Nat) b, L[j]? = some (some b) → ∀ a ∈ b.flat, Ref (· ≠ lid H i) a
theorem b4k {H L : Heap} {i : Nat} (h : ∀ b, some b ∈ L → ∀ a ∈ b.flat, Cl a) : e3g H L i := fun j b hb a ha => (h b (List.mem_of_getElem? hb) a ha).ref
theorem d4a {H L : Heap} {i : Nat} (hH : a0z H) (h : e3g H L i) : free (hap H L) (lid H i) = true := by
 rw [c1U]
 intro j bj hj hb a ha
 rcases Nat.lt_or_ge j H.length with hlt | hge
 ·simp only [hap] at hb
  rw [List.getElem?_append_left hlt] at hb
  exact (hH j bj hb a ha).mono fun k hk => by show k ≠ lid H i; simp only [lid]; omega
 ·simp only [hap] at hb
  rw [List.getElem?_append_right hge] at hb
  exact h _ bj hb a ha
theorem b7P (wd bytes : Nat) (str : Bool) (i len : Nat) (oc : Option Nat) (y : AV) (xs ys : List AV) (hH : a0z H) (hl : L[i]? = some (some ⟨wd, xs⟩)) (hlen : len = xs.length) (hn : n0 ≤ lid H i) (hy : a0Z (hap H L) wd str y = some ys) (ha : e3g H L i)
  (hys : ∀ a ∈ ys.flatMap AV.cells, Ref (· ≠ lid H i) a) (h1 : (len + ys.length) * bytes ≤ 140737488355328) (h2 : len + ys.length ≤ 9223372036854775807) (hoc : (oc.any fun c => decide (len + ys.length ≤ c)) = false) :
  appV n0 wd bytes str (.mu (lid H i) 0 len oc) y env (hap H L) = some (.mu (lid H i) 0 (len + ys.length) (a1f oc (len + ys.length)), scrub (lid H i) env, hap H (L.set i (some ⟨wd, xs ++ ys⟩))) := by
 subst hlen
 simp only [appV, hy, Option.bind_some, a0Q, hl, Option.join_some, a2Q]
 rw [if_neg (fun h => by rw [hoc] at h; exact absurd h.2.2.2.2.2 (by decide)), if_pos]
 ·simp
 ·refine ⟨trivial, trivial, Nat.le_refl _, hn, d4a hH ha, ?_, ?_, h1, h2⟩
  ·rw [List.all_eq_true]; intro a h; exact a0l.2 (hys a h)
  ·rw [List.all_eq_true]; intro a h; exact a0l.2 (ha i _ hl a h)
theorem e0i (wd bytes : Nat) (str : Bool) (i len c : Nat) (y : AV) (xs ys : List AV) (hl : L[i]? = some (some ⟨wd, xs⟩)) (hlen : len = xs.length) (hn : n0 ≤ lid H i) (hy : a0Z (hap H L) wd str y = some ys) (h0 : 0 < ys.length) (hc : len + ys.length ≤ c) :
  appV n0 wd bytes str (.mu (lid H i) 0 len (some c)) y env (hap H L) = some (.mu (lid H i) 0 (len + ys.length) (some c), env, hap H (L.set i (some ⟨wd, xs ++ ys⟩))) := by
 subst hlen
 simp only [appV, hy, Option.bind_some, a0Q, hl, Option.join_some, a2Q]
 rw [if_pos]
 ·simp
 ·exact ⟨trivial, trivial, Nat.le_refl _, hn, h0, by simpa using hc⟩
theorem a2b (wd : Nat) (xs : List AV) : a0Z H wd false (.sl wd xs) = some xs := by simp [a0Z]
end
theorem e5E (k : IntKind) (n : Int) : (AV.int k n).fit = true := rfl
theorem e2n (b : Bool) : (AV.bool b).fit = true := rfl
theorem e5B (s : ByteArray) : (AV.str s).fit = true := rfl
theorem e5F (cs : List AV) : (AV.agg cs).fit = true := rfl
theorem e7E (wd : Nat) (xs : List AV) : (AV.sl wd xs).fit = true := rfl
theorem e5C : AV.nil.fit = true := rfl
theorem e7G (id off len : Nat) (oc : Option Nat) : (AV.mu id off len oc).fit = true := rfl
theorem e5D (id i off : Nat) : (AV.loc id i off).fit = true := rfl
theorem e7H (f : FuncId) (cs : List AV) : (AV.fn f cs).fit = true := rfl
theorem e7F (x : AV) (off : Nat) : (AV.ro x off).fit = true := rfl
theorem a4a (x : AV) (wd : Nat) (v : AV) : upd x wd 0 wd v = v := by simp [upd]
theorem e1g (env : Env) (H : Heap) : resL env H [] = some [] := rfl
theorem e1f (env : Env) (H : Heap) (t : Nat) (r : List ResV) : resL env H (.tmp t :: r) = (resL env H r).map (look env t :: ·) := rfl
theorem d7J (env : Env) (H : Heap) (t : Nat) (n : Option Nat) (r : List ResV) : resL env H (.cell t n :: r) = (c4s H n (look env t)).bind fun a => (resL env H r).map (a :: ·) := rfl
theorem d7T (a : AV) : b4u [a] = a := rfl
theorem d7S (a b : AV) (r : List AV) : b4u (a :: b :: r) = .tup (a :: b :: r) := rfl
theorem d7U : b4u [] = .tup [] := rfl
def gret (o : Option (List AV)) (k : AV → Prop) : Prop := match o with
 | some aXs => k (b4u aXs)
 | none => False
theorem d8V (aXs : List AV) (k : AV → Prop) : gret (some aXs) k = k (b4u aXs) := rfl
@[congr] theorem e6z {x y : Option (List AV)} {k : AV → Prop} (h : x = y) : gret x k = gret y k := by rw [h]
theorem Safe.retn {x : Cx} {todo : List AItem} {env : Env} {H : Heap} {R : AV → Heap → Prop} (h : gret (resL env H x.rs) fun r => R r H) : Safe x (.code .ret :: todo) env H R := by
 unfold gret at h
 split at h
 ·rename_i aXs ha; exact Safe.ret ha h
 ·exact h.elim
theorem Safe.donen {x : Cx} {env : Env} {H : Heap} {R : AV → Heap → Prop} (h : gret (resL env H x.rs) fun r => R r H) : Safe x [] env H R := by
 unfold gret at h
 split at h
 ·rename_i aXs ha; exact Safe.done ha h
 ·exact h.elim
theorem c9f : (0 < 1) = True := by decide
def EV := And.intro (And.intro (And.intro (@d2A) (@d0w)) (And.intro (@e6r) (@e5P))) <| And.intro (And.intro (And.intro (And.intro (And.intro (And.intro (And.intro (@e3e) (@e0k)) (And.intro (@e0j) (And.intro (@e6o) (@e6p)))) (And.intro (And.intro (@d6F) (@d3d)) (And.intro (@d9U) (And.intro (@e2u) (@d9v))))) (And.intro (And.intro (And.intro (@d9u) (@e5M)) (And.intro (@e5N) (And.intro (@d6u) (@d2J)))) (And.intro (And.intro (@d9I) (@d5s)) (And.intro (@d5t) (And.intro (@c7m) (@d6t)))))) (And.intro (And.intro (And.intro (And.intro (@d6o) (@e8i)) (And.intro (@e8j) (And.intro (@c4r) (@e1T)))) (And.intro (And.intro (@e1m) (@e1n)) (And.intro (@d9r) (And.intro (@d6s) (@e8m))))) (And.intro (And.intro (And.intro (@e4B) (@d5q)) (And.intro (@c9I) (And.intro (@e1s) (@e7a)))) (And.intro (And.intro (@e4E) (@d3R)) (And.intro (@e7d) (And.intro (@e7e) (@e7S))))))) (And.intro (And.intro (And.intro (And.intro (And.intro (@e7R) (@e8l)) (And.intro (@e3R) (And.intro (@e3Q) (@e4I)))) (And.intro (And.intro (@d9L) (@e7b)) (And.intro (@e2q) (And.intro (@e4H) (@e5y))))) (And.intro (And.intro (And.intro (@e2k) (@e4G)) (And.intro (@e4F) (And.intro (@d3V) (@e4D)))) (And.intro (And.intro (@e6Y) (@e4A)) (And.intro (@e7c) (And.intro (@e4C) (@e6Z)))))) (And.intro (And.intro (And.intro (And.intro (@d3N) (@e7f)) (And.intro (@e3b) (And.intro (@c8g) (@e1V)))) (And.intro (And.intro (@c8h) (@e2Q)) (And.intro (@e2P) (And.intro (@d4t) (@e2O))))) (And.intro (And.intro (And.intro (@e2S) (@e6l)) (And.intro (@e2Y) (And.intro (@e2N) (@e2X)))) (And.intro (And.intro (@e2R) (And.intro (@e2T) (@e2U))) (And.intro (@e2V) (And.intro (@e2W) (@d0Y)))))))) (And.intro (And.intro (And.intro (And.intro (And.intro (And.intro (@d0X) (@d8s)) (And.intro (@e7W) (And.intro (@b3U) (@d9T)))) (And.intro (And.intro (@d9S) (@d6A)) (And.intro (@d9O) (And.intro (@d9Q) (@d9R))))) (And.intro (And.intro (And.intro (@e2D) (@d4m)) (And.intro (@d0N) (And.intro (@e2F) (@a0Q)))) (And.intro (And.intro (@b8M) (@a2Q)) (And.intro (@b9k) (And.intro (@e7u) (@d6E)))))) (And.intro (And.intro (And.intro (And.intro (@join_some) (@e1W)) (And.intro (@d8B) (And.intro (@e2s) (@e7L)))) (And.intro (And.intro (@e7K) (@e5H)) (And.intro (@e5G) (And.intro (@e7M) (@e5E))))) (And.intro (And.intro (And.intro (@e2n) (@e5B)) (And.intro (@e5F) (And.intro (@e7E) (@e5C)))) (And.intro (And.intro (@e7G) (@e5D)) (And.intro (@e7H) (And.intro (@e7F) (@e5Z))))))) (And.intro (And.intro (And.intro (And.intro (And.intro (@e2C) (@e5X)) (And.intro (@e5Y) (And.intro (@e1z) (@c7W)))) (And.intro (And.intro (@d7W) (@e1A)) (And.intro (@e1B) (And.intro (@e1D) (@d7V))))) (And.intro (And.intro (And.intro (@e4T) (@b6N)) (And.intro (@e1y) (And.intro (@e4U) (@c2S)))) (And.intro (And.intro (@c1I) (@d7F)) (And.intro (@d5g) (And.intro (@e5x) (@e2f)))))) (And.intro (And.intro (And.intro (And.intro (@e5t) (@e5u)) (And.intro (@e5s) (And.intro (@e5w) (@e7B)))) (And.intro (And.intro (@e7C) (@d9h)) (And.intro (@e5r) (And.intro (@e7D) (@e2i))))) (And.intro (And.intro (And.intro (@d9j) (@d3Z)) (And.intro (@d0C) (And.intro (@d9i) (@a4a)))) (And.intro (And.intro (@e1g) (And.intro (@e1f) (@d7J))) (And.intro (@d7T) (And.intro (@d7S) (And.intro @d7U (And.intro @d8V @c9f)))))))))
def EVC := And.intro (And.intro (And.intro (And.intro (And.intro (@List.map_cons.{0,0}) (@List.map_nil.{0,0})) (And.intro (@List.length_cons.{0}) (And.intro (@List.length_nil.{0}) (@List.cons_append.{0})))) (And.intro (And.intro (@List.nil_append.{0}) (@List.all_cons.{0})) (And.intro (@List.all_nil.{0}) (And.intro (@Option.map_some.{0,0}) (@Option.map_none.{0,0}))))) (And.intro (And.intro (And.intro (@Option.bind_some.{0,0}) (@Option.bind_none.{0,0})) (And.intro (@Option.isSome_some.{0}) (And.intro (@List.getElem?_cons_zero.{0}) (@List.getElem?_cons_succ.{0})))) (And.intro (And.intro (@List.set_cons_zero.{0}) (@List.set_cons_succ.{0})) (And.intro (@Option.join_some.{0}) (And.intro (@List.getD_cons_zero.{0}) (@List.drop_zero.{0})))))) (And.intro (And.intro (And.intro (And.intro (And.intro (@if_true.{0}) (@if_true.{1})) (And.intro (@if_false.{0}) (@if_false.{1}))) (And.intro (@Bool.false_eq_true) (And.intro (@Bool.true_and) (@Bool.and_true)))) (And.intro (And.intro (@Bool.not_true) (@Bool.not_false)) (And.intro (@decide_true) (And.intro (@decide_false) (@Bool.and_self))))) (And.intro (And.intro (And.intro (@ne_eq.{1}) (@not_true_eq_false)) (And.intro (@not_false_eq_true) (And.intro (@and_self) (@and_true)))) (And.intro (And.intro (@true_and) (@Nat.zero_add)) (And.intro (@Nat.add_zero) (And.intro (@Option.some.injEq.{0}) (@Nat.lt_add_one))))))
end Go.Abs
namespace Go.Abs
def Le (a b : AV) : Prop := ∀ E v, Rep E v a → Rep E v b
theorem Le.refl (a : AV) : Le a a := fun _ _ h => h
theorem Le.trans {a b c : AV} (h : Le a b) (k : Le b c) : Le a c := fun E v r => k E v (h E v r)
theorem Le.nil (wd : Nat) (h : 0 < wd) : Le .nil (.sl wd []) := fun E v r => b8j wd h r
theorem Le.top (a : AV) : Le a .top := fun E v r => .top v
theorem Le.agg {aXs bs : List AV} (hl : aXs.length = bs.length) (h : ∀ (k : Nat) a b, aXs[k]? = some a → bs[k]? = some b → Le a b) : Le (.agg aXs) (.agg bs) := by
 intro E v r
 cases r with
 | agg vs _ hlen h1 hrep =>
  refine .agg vs bs (by omega) h1 fun k v b hv hb => ?_
  have hk := a0i hb
  exact h k _ b (List.getElem?_eq_getElem (by omega)) hb E v (hrep k v _ hv (List.getElem?_eq_getElem (by omega)))
 | dead v a id hr hd h1 => simp [AV.ref] at hr
theorem Le.tup {aXs bs : List AV} (hl : aXs.length = bs.length) (h : ∀ (k : Nat) a b, aXs[k]? = some a → bs[k]? = some b → Le a b) : Le (.tup aXs) (.tup bs) := by
 intro E v r
 cases r with
 | tup vs _ hlen hrep =>
  refine .tup vs bs (by omega) fun k v b hv hb => ?_
  have hk := a0i hb
  exact h k _ b (List.getElem?_eq_getElem (by omega)) hb E v (hrep k v _ hv (List.getElem?_eq_getElem (by omega)))
 | dead v a id hr hd h1 => simp [AV.ref] at hr
theorem Le.agg2 {a b c d : AV} (h : Le a c) (k : Le b d) : Le (.agg [a, b]) (.agg [c, d]) := Le.agg rfl fun i x y hx hy => by
 match i with
 | 0 => cases hx; cases hy; exact h
 | 1 => cases hx; cases hy; exact k
theorem Le.tup3 {a b e c d f : AV} (h : Le a c) (k : Le b d) (l : Le e f) : Le (.tup [a, b, e]) (.tup [c, d, f]) := Le.tup rfl fun i x y hx hy => by
 match i with
 | 0 => cases hx; cases hy; exact h
 | 1 => cases hx; cases hy; exact k
 | 2 => cases hx; cases hy; exact l
theorem a0h.cutL {P : Program} {f : FuncId} {args : List AV} {H : Heap} {r : AV} (hr : Ref (· < H.length) r) (h : a0h P f args H fun r' H' => Le r' r ∧ ∃ L, H' = hap H L) : a0h P f args H fun r' H' => r' = r ∧ H' = H := by
 refine ⟨h.1, fun φ w vs hok hl hrep => (h.2 φ w vs hok hl hrep).mono ?_⟩
 rintro e w' ⟨v, r', φ', H', rfl, ⟨hle, L, rfl⟩, q1, q2, q3, q4⟩
 have hfree : ∀ (j : Nat) bj, j < H.length → (hap H L)[j]? = some (some bj) → ∀ a ∈ bj.flat, Ref (· < H.length) a := by
  intro j bj hj hb
  simp only [hap] at hb
  rw [List.getElem?_append_left hj] at hb
  exact hok.refs hb
 have hcut := HOk.cut q1 H.length hfree
 have ht : (hap H L).take H.length = H := by simp [hap]
 simp only [ht] at hcut
 exact ⟨v, r, φ', H, rfl, ⟨rfl, rfl⟩, hcut.1, (hle _ _ q2).mono hcut.2 hr, Nat.le_refl _, q4.trans hcut.2⟩
theorem a0f.introL {P : Program} {mu : Nat → Nat → Bool} {f : FuncId} {fn : Func} (hf : P.funcs[f]? = some fn) {ac : ACode} {rs : List ResV} {nt : Nat} (hc : fchk P mu fn = some (ac, rs, nt))
  {args : List AV} {r : AV} (ha : args.length ≤ nt) (hr : Cl r) (h : ∀ H, a0z H → Safe ⟨P, mu, f, nt, rs, H.length⟩ [.code ac] (b2o 0 args) (hap H []) fun r' H' => Le r' r ∧ ∃ L, H' = hap H L) : a0f P f args r := by
 intro H
 refine a0h.cutL hr.ref (a0h.intro hf hc ha fun hH => ?_)
 have := h H hH
 rw [a1Y] at this
 exact this
theorem Safe.toldRow (i : Nat) {x : Cx} {todo : List AItem} {env : Env} {H L : Heap} {R : AV → Heap → Prop} {b b' : Blk} (hl : L[i]? = some (some b)) (hw : b'.wd = b.wd) (hx : ∀ y ∈ b'.xs, y.cells.length = b.wd) (hlen : b'.flat.length = b.flat.length) (hemp : b.xs = [] → b'.xs = [])
  (hle : ∀ (k : Nat) a c, b.flat[k]? = some a → b'.flat[k]? = some c → Le a c) (h : Safe x todo env (hap H (L.set i (some b'))) R) (hpos : 0 < b.wd := by exact Nat.zero_lt_succ _) : Safe x todo env (hap H L) R := by
 intro φ w tmps bf k cs hg hn hb hk htd hsz hok he
 have hl' : (hap H L)[lid H i]? = some (some b) := by
  unfold hap lid
  rw [List.getElem?_append_right (by omega), Nat.add_sub_cancel_left]; exact hl
 have hget : ∀ (j : Nat), (hap H (L.set i (some b')))[j]? = if lid H i = j then some (some b') else (hap H L)[j]? := by
  intro j
  rw [← a2Q]
  exact a6O _ _ _ (a0k hl') j
 have hx2 : ∀ w : World, Ext All ⟨φ, hap H L, w⟩ ⟨φ, hap H (L.set i (some b')), w⟩ := by
  intro w
  refine ⟨rfl, rfl, rfl, Nat.le_refl _, by simp [hap], fun _ _ _ => rfl, ?_, fun _ _ _ _ _ _ _ => rfl, ?_, fun _ _ _ => rfl, fun _ _ => rfl⟩
  ·intro j blk' _ _ hb'
   rw [hget] at hb'
   split at hb'
   ·rename_i hj; subst hj; simp at hb'; subst hb'; exact ⟨b, hl', hw.symm⟩
   ·exact ⟨blk', hb', rfl⟩
  ·rintro b0 _ ⟨j, blk', hb', hp⟩
   simp only [hget] at hb'
   split at hb'
   ·rename_i hj; subst hj; exact ⟨_, b, hl', hp⟩
   ·exact ⟨j, blk', hb', hp⟩
 have live : ∀ (j : Nat) blk', (hap H (L.set i (some b')))[j]? = some (some blk') → (j = lid H i ∧ blk' = b') ∨ (j ≠ lid H i ∧ (hap H L)[j]? = some (some blk')) := by
  intro j blk' hb'
  rw [hget] at hb'
  split at hb'
  ·rename_i hj; simp at hb'; exact .inl ⟨hj.symm, hb'.symm⟩
  ·rename_i hj; exact .inr ⟨fun e => hj e.symm, hb'⟩
 have hok' : HOk ⟨φ, hap H (L.set i (some b')), w⟩ := by
  refine ⟨fun j x bl h h0 hp => ?_, fun j x h => ?_, fun j x bl h hp => ?_, fun j x h hp => ?_, fun j1 j2 x y bl h1 h2 p1 p2 => ?_⟩
  ·rcases live j x h with ⟨rfl, rfl⟩ | ⟨_, h'⟩
   ·omega
   ·rcases hok.obj j x bl h' h0 hp with ⟨L, q1, q2⟩ | ⟨mid, n, seen, m, q1, q2, q3, q4⟩ | ⟨bs, ks, vs, n, q1, us, q2, q3, q4, q5, q6, q7, q8⟩
    rotate_left 2
    ·exact .inr (.inr ⟨bs, ks, vs, n, q1, us, q2, q3, q4, q5, q6, q7, fun k u v hu hv => (q8 k u v hu hv).mono (hx2 w) (q6 v (List.mem_of_getElem? hv)).ref⟩)
    ·exact .inl ⟨L, q1, q2⟩
    ·refine .inr (.inl ⟨mid, n, seen, m, q1, q2, q3, fun blk hb => ?_⟩)
     rcases live mid blk hb with ⟨rfl, rfl⟩ | ⟨_, hb'⟩
     ·exact absurd (q4 b hl').1 (by omega)
     ·exact q4 blk hb'
  ·rcases live j x h with ⟨rfl, rfl⟩ | ⟨_, h'⟩
   ·rw [hw]; exact hx
   ·exact hok.wids j x h'
  ·have mv : ∀ {v a}, Rep ⟨φ, hap H L, w⟩ v a → Rep ⟨φ, hap H (L.set i (some b')), w⟩ v a := fun r => r.mono (hx2 w) (r.ref.mono fun _ _ => trivial)
   rcases live j x h with ⟨rfl, rfl⟩ | ⟨_, h'⟩
   ·obtain ⟨c, e, r⟩ := hok.row _ b bl hl' hp
    refine ⟨c, e, fun h0 => r.heap hpos, by rw [hlen]; exact r.fits, fun k v hk hv => r.one k v (by rw [← hlen]; exact hk) hv, fun k v a hv ha => ?_⟩
    have hk := a0i ha
    have ha' : b.flat[k]? = some (b.flat[k]'(by omega)) := List.getElem?_eq_getElem (by omega)
    exact mv (hle k _ a ha' ha _ _ (r.rep k v _ hv ha'))
   ·obtain ⟨c, e, r⟩ := hok.row j x bl h' hp
    exact ⟨c, e, r.heap, r.fits, r.one, fun k v a hv ha => mv (r.rep k v a hv ha)⟩
  ·rcases live j x h with ⟨rfl, rfl⟩ | ⟨_, h'⟩
   ·exact hemp (hok.emp _ b hl' hp)
   ·exact hok.emp j x h' hp
  ·have g1 : ∃ z, (hap H L)[j1]? = some (some z) := by rcases live j1 x h1 with ⟨rfl, _⟩ | ⟨_, h'⟩; exact ⟨b, hl'⟩; exact ⟨x, h'⟩
   have g2 : ∃ z, (hap H L)[j2]? = some (some z) := by rcases live j2 y h2 with ⟨rfl, _⟩ | ⟨_, h'⟩; exact ⟨b, hl'⟩; exact ⟨y, h'⟩
   obtain ⟨_, g1⟩ := g1
   obtain ⟨_, g2⟩ := g2
   exact hok.inj j1 j2 _ _ bl g1 g2 p1 p2
 obtain ⟨v, w', fr, r, φ', H', q1, q2, q3, q4, q5, q6⟩ := h φ w tmps bf k cs hg (by simpa [hap] using hn) hb hk htd hsz hok' (fun t => (he t).mono (hx2 w) ((he t).ref.mono fun _ _ => trivial))
 exact ⟨v, w', fr, r, φ', H', q1, q2, q3, q4, ((hx2 w).sub fun _ _ => trivial).trans q5, q6⟩
theorem e4f (n i off : Nat) (v : AV) (env : Env) (H L : Heap) : a5f n (.loc (lid H i) 0 off) v env (hap H L) = (L[i]?).join.bind fun b =>
  if 0 < b.xs.length ∧ v.fit = true ∧ v.cells.length = n ∧ off + n ≤ b.wd then some (.top, env, hap H (L.set i (some ⟨b.wd, b.xs.set 0 (upd (b.xs.getD 0 .top) b.wd off n v)⟩))) else none := by
 simp only [a5f, a0Q, a2Q]
theorem b7M (env : Env) (cs : List AV) : bldV env cs [] = some cs := rfl
theorem b7N (env : Env) (cs : List AV) (off n : Nat) (s : Src) (r : List (Nat × Nat × Src)) :
  bldV env cs ((off, n, s) :: r) = if (s.ev env).cells.length = n ∧ off + n ≤ cs.length ∧ (s.ev env).fit = true then bldV env (a2w cs off (s.ev env).cells) r else none := rfl
theorem c2I (cs : List AV) (off : Nat) (aXs : List AV) : a2w cs off aXs = cs.take off ++ aXs ++ cs.drop (off + aXs.length) := rfl
def EV2 := And.intro (And.intro @e4f (And.intro @b7M (And.intro @b7N @c2I))) (And.intro (And.intro (And.intro (@List.drop_succ_cons.{0}) (@List.take_succ_cons.{0})) (And.intro (@List.take_zero.{0}) (@List.take_nil.{0}))) (And.intro (And.intro (@List.drop_nil.{0}) (@List.append_nil.{0})) (And.intro (@Nat.le_refl) (@Nat.lt_irrefl))))
end Go.Abs
namespace Go.Abs
section
variable {x : Cx} {l : ACode} {todo : List AItem} {R : AV → Heap → Prop}
def stl : Nat → List AItem → List AItem
 | 0, k => k
 | n + 1, .code (.seq a b) :: k => stl n (.code a :: .code b :: k)
 | n + 1, .code .skip :: k => stl n k
 | n + 1, .code (.block id a) :: k => stl n (.code a :: .inBlock id :: k)
 | n + 1, .inBlock _ :: k => stl n k
 | n + 1, .code (.scope a) :: k => stl n (.code a :: .inScope a :: k)
 | n + 1, .inScope _ :: k => stl n k
 | n + 1, .code (.exit id) :: k => match c1x id k with
  | some k' => stl n k'
  | none => .code (.exit id) :: k
 | n + 1, .code (.label _) :: k => stl n k
 | n + 1, .code (.goto l) :: k => match c1w l k with
  | some k' => stl n k'
  | none => .code (.goto l) :: k
 | _, k => k
theorem Safe.stl {env : Env} {H : Heap} : ∀ (n : Nat) (k : List AItem), Safe x (stl n k) env H R → Safe x k env H R := by
 intro n
 induction n with
 | zero => intro k h; cases k <;> exact h
 | succ n ih =>
  intro k h
  unfold Abs.stl at h
  split at h
  ·rename_i h0; cases h0
  ·rename_i h0; cases h0; exact Safe.seq (ih _ h)
  ·rename_i h0; cases h0; exact Safe.skip (ih _ h)
  ·rename_i h0; cases h0; exact Safe.block (ih _ h)
  ·rename_i h0; cases h0; exact Safe.inBlock (ih _ h)
  ·rename_i h0; cases h0; exact Safe.scope (ih _ h)
  ·rename_i h0; cases h0; exact Safe.inScope (ih _ h)
  ·rename_i h0; cases h0
   split at h
   ·rename_i he; exact Safe.exit he (ih _ h)
   ·exact h
  ·rename_i h0; cases h0; exact Safe.label (ih _ h)
  ·rename_i h0; cases h0
   split at h
   ·rename_i he; exact Safe.goto he (ih _ h)
   ·exact h
  ·exact h
theorem Safe.rg {env : Env} {H : Heap} {k k' : List AItem} {b : Bool} {l : List AIns} (e : Abs.stl 40 k = .code (.region l b) :: k')
  (h : if b = true then dops x.P x.n0 l (fun env' H' => Safe x k' env' H' R) env H else aops x.P x.n0 l (fun env' H' => Safe x k' env' H' R) env H) : Safe x k env H R := by
 refine Safe.stl 40 k ?_
 rw [e]
 cases b
 ·exact Safe.region h
 ·exact Safe.regionD h
theorem Safe.rx {env : Env} {H : Heap} {k k' : List AItem} {p s1 s2 : List AIns} {sd : List (Nat × Nat)} (e : Abs.stl 40 k = .code (.regionX p s1 s2 sd) :: k') (hs : sdOk sd env)
  (h : dops x.P x.n0 p (fun env' H' => dops x.P x.n0 s1 (fun env' H' => Safe x k' env' H' R) env' H' ∧ dops x.P x.n0 s2 (fun env' H' => Safe x k' env' H' R) env' H') env H) : Safe x k env H R := by
 refine Safe.stl 40 k ?_
 rw [e]
 exact Safe.regionX hs h
theorem Safe.cd {env : Env} {H : Heap} {k k' : List AItem} {s : Src} {a b : ACode} (e : Abs.stl 40 k = .code (.cond s a b) :: k')
  (h : c1m (s.ev env) fun c => if c then Safe x (.code a :: k') env H R else Safe x (.code b :: k') env H R) : Safe x k env H R := by
 refine Safe.stl 40 k ?_
 rw [e]
 exact Safe.cond h
theorem Safe.lp {env : Env} {H : Heap} {k k' : List AItem} {a : ACode} (e : Abs.stl 40 k = .code (.loop a) :: k') (h : Safe x (.inLoop a :: k') env H R) : Safe x k env H R := by
 refine Safe.stl 40 k ?_
 rw [e]
 exact Safe.loop h
theorem Safe.rt {env : Env} {H : Heap} {k k' : List AItem} (e : Abs.stl 40 k = .code .ret :: k') (h : gret (resL env H x.rs) fun r => R r H) : Safe x k env H R := by
 refine Safe.stl 40 k ?_
 rw [e]
 exact Safe.retn h
theorem Safe.loopP (n : Nat) (E : Nat → Env) (G : Nat → Heap) (P : Nat → Prop) {env : Env} {H : Heap} (he : env = E 0) (hG : H = G 0) (h0 : P 0)
  (step : ∀ i, i < n → P i → (P (i + 1) → Safe x (.inLoop l :: todo) (E (i + 1)) (G (i + 1)) R) → Safe x (.inLoop l :: todo) (E i) (G i) R)
  (last : P n → Safe x (.inLoop l :: todo) (E n) (G n) R) : Safe x (.inLoop l :: todo) env H R := by
 subst he; subst hG
 have key : ∀ k i, i + k = n → P i → Safe x (.inLoop l :: todo) (E i) (G i) R := by
  intro k
  induction k with
  | zero => intro i hi hp; rw [show i = n by omega] at hp ⊢; exact last hp
  | succ k ih => intro i hi hp; exact step i (by omega) hp fun hp' => ih (i + 1) (by omega) hp'
 exact key n 0 (by omega) h0
theorem Safe.loopN (n : Nat) (E : Nat → Env) (G : Nat → Heap) {env : Env} {H : Heap} (he : env = E 0) (hG : H = G 0)
  (step : ∀ i, i < n → Safe x (.inLoop l :: todo) (E (i + 1)) (G (i + 1)) R → Safe x (.inLoop l :: todo) (E i) (G i) R)
  (last : Safe x (.inLoop l :: todo) (E n) (G n) R) : Safe x (.inLoop l :: todo) env H R :=
 Safe.loopP n E G (fun _ => True) he hG trivial (fun i hi _ ih => step i hi (ih trivial)) fun _ => last
theorem Safe.loopD (n : Nat) (E : Nat → Env) (G : Nat → Heap) {env : Env} {H : Heap} (he : env = E n) (hG : H = G n)
  (step : ∀ i, i < n → Safe x (.inLoop l :: todo) (E i) (G i) R → Safe x (.inLoop l :: todo) (E (i + 1)) (G (i + 1)) R)
  (last : Safe x (.inLoop l :: todo) (E 0) (G 0) R) : Safe x (.inLoop l :: todo) env H R := by
 subst he; subst hG
 have key : ∀ i, i ≤ n → Safe x (.inLoop l :: todo) (E i) (G i) R := by
  intro i
  induction i with
  | zero => intro _; exact last
  | succ i ih => intro hi; exact step i (by omega) (ih (by omega))
 exact key n (Nat.le_refl _)
theorem Safe.loopW {α : Type} (μ : α → Nat) (E : α → Env) (G : α → Heap) (P : α → Prop) (a0 : α) {env : Env} {H : Heap} (he : env = E a0) (hG : H = G a0) (h0 : P a0)
  (step : ∀ a, P a → (∀ b, P b → μ b < μ a → Safe x (.inLoop l :: todo) (E b) (G b) R) → Safe x (.inLoop l :: todo) (E a) (G a) R) : Safe x (.inLoop l :: todo) env H R := by
 subst he; subst hG
 have key : ∀ k a, μ a ≤ k → P a → Safe x (.inLoop l :: todo) (E a) (G a) R := by
  intro k
  induction k with
  | zero => intro a ha hp; exact step a hp fun b hb hlt => absurd hlt (by omega)
  | succ k ih => intro a ha hp; exact step a hp fun b hb hlt => ih b (by omega) hb
 exact key (μ a0) a0 (Nat.le_refl _) h0
theorem b0W {α β : Type} (f : α → β) (l : List α) {i : Nat} (h : i < l.length) : (l.take (i + 1)).map f = (l.take i).map f ++ [f l[i]] := by
 rw [List.take_succ_eq_append_getElem h, List.map_append]; rfl
theorem b2F {α : Type} (l : List α) {i : Nat} (h : i < l.length) : l.take (i + 1) = l.take i ++ [l[i]] := List.take_succ_eq_append_getElem h
end
end Go.Abs
namespace Go.Abs
theorem Ref.both {S T : Nat → Prop} {a : AV} (h : Ref S a) (k : Ref T a) : Ref (fun i => S i ∧ T i) a := by
 induction h with
 | top => exact .top
 | int => exact .int _ _
 | bool => exact .bool _
 | str => exact .str _
 | nil => exact .nil
 | lit => exact .lit _
 | sl => exact .sl _ _
 | ro => exact .ro _ _
 | mu i off len oc h => cases k with | mu _ _ _ _ h' => exact .mu i off len oc ⟨h, h'⟩
 | mp b i h => cases k with | mp _ _ h' => exact .mp b i ⟨h, h'⟩
 | mo l => exact .mo l
 | io i n seen => exact .io i n seen
 | ms bs ks vs n => exact .ms bs ks vs n
 | loc i k off h => cases k with | loc _ _ _ h' => exact .loc i _ off ⟨h, h'⟩
 | agg cs h ih => cases k with | agg _ h' => exact .agg cs fun c hc => ih c hc (h' c hc)
 | tup cs h ih => cases k with | tup _ h' => exact .tup cs fun c hc => ih c hc (h' c hc)
 | fn f cs h ih => cases k with | fn _ _ h' => exact .fn f cs fun c hc => ih c hc (h' c hc)
 | bfn f cs h ih => cases k with | bfn _ _ h' => exact .bfn f cs fun c hc => ih c hc (h' c hc)
theorem b7l {env : Env} {id : Nat} (h : env.all (fun p => nref id p.2) = true) (t : Nat) : Ref (· ≠ id) (look env t) := by
 induction env with
 | nil => exact .top
 | cons p env ih =>
  simp only [List.all_cons, Bool.and_eq_true] at h
  simp only [look]
  split
  ·exact a0l.1 h.1
  ·exact ih h.2
theorem Safe.drop {x : Cx} {todo : List AItem} {env : Env} {H L : Heap} {R : AV → Heap → Prop} {o : Option Blk} (hH : a0z H) (hx : x.n0 = H.length) (he : env.all (fun p => nref (lid H L.length) p.2) = true)
  (hL : ∀ b, some b ∈ L → ∀ a ∈ b.flat, nref (lid H L.length) a = true) (h : Safe x todo env (hap H L) R) : Safe x todo env (hap H (L ++ [o])) R := by
 intro φ w tmps b k cs hg hn hb hk htd hsz hok hrep
 have hlen : (hap H (L ++ [o])).length = lid H L.length + 1 := by simp [hap, lid, Nat.add_assoc]
 have lt : ∀ {a}, Ref (· < (hap H (L ++ [o])).length) a → Ref (· ≠ lid H L.length) a → Ref (· < lid H L.length) a := fun h1 h2 => (h1.both h2).mono fun i ⟨q1, q2⟩ => by rw [hlen] at q1; show i < _; omega
 have htake : (hap H (L ++ [o])).take (lid H L.length) = hap H L := by
  simp only [hap, lid, ← List.append_assoc]
  rw [show H.length + L.length = (H ++ L).length by simp, List.take_left']
  rfl
 have hcut := HOk.cut (E := ⟨φ, hap H (L ++ [o]), w⟩) hok (lid H L.length) (by
  intro j bj hj hbj a ha
  refine lt (hok.refs hbj a ha) ?_
  simp only [hap] at hbj
  rcases Nat.lt_or_ge j H.length with hlt | hge
  ·rw [List.getElem?_append_left hlt] at hbj
   exact (hH j bj hbj a ha).mono fun i hi => by show i ≠ H.length + L.length; have : i < H.length := hi; omega
  ·rw [List.getElem?_append_right hge] at hbj
   have hj2 : j - H.length < L.length := by simp only [lid] at hj; omega
   rw [List.getElem?_append_left hj2] at hbj
   exact a0l.1 (hL bj (List.mem_of_getElem? hbj) a ha))
 simp only [htake] at hcut
 obtain ⟨v, w', fr, r, φ', H', q1, q2, q3, q4, q5, q6⟩ := h φ w tmps b k cs hg (by rw [hx]; simp [hap]) hb hk htd hsz hcut.1 (fun t => (hrep t).mono hcut.2 (lt (hrep t).ref (b7l he t)))
 exact ⟨v, w', fr, r, φ', H', q1, q2, q3, q4, (hcut.2.sub fun i hi => by rw [hx] at hi; show i < H.length + L.length; have : i < H.length := hi; omega).trans q5, q6⟩
theorem Safe.dropC {x : Cx} {todo : List AItem} {env : Env} {H L : Heap} {R : AV → Heap → Prop} {o : Option Blk} (hH : a0z H) (hx : x.n0 = H.length) (he : env.all (fun p => nref (lid H L.length) p.2) = true)
  (hL : ∀ b, some b ∈ L → ∀ a ∈ b.flat, Cl a) (h : Safe x todo env (hap H L) R) : Safe x todo env (hap H (L ++ [o])) R :=
 Safe.drop hH hx he (fun b hb a ha => a0J (hL b hb a ha)) h
end Go.Abs
namespace Go.Abs
theorem a0f.ofBelow {P : Program} {f : FuncId} {fn : Func} (hf : P.funcs[f]? = some fn) (hn : (fn.name == "runtime.NumGoroutine") = false) (hb : fn.body.isSome = true) {args : List AV} {r : AV}
  (h : ∀ (E : Emb) (vs : List Value), HOk E → vs.length = args.length → (∀ (k : Nat) v a, vs[k]? = some v → args[k]? = some a → Rep E v a) →
   Calls P f vs.toArray E.w fun e w' => (∃ v, e = .returned v ∧ ∀ E', Rep E' v r) ∧ Go.RowKit.Below E.w.heap.size E.w w') : a0f P f args r := by
 intro H
 refine ⟨⟨fn, hf, hn, hb⟩, fun φ w vs hok hl hrep => (h ⟨φ, H, w⟩ vs hok hl hrep).mono ?_⟩
 rintro e w' ⟨⟨v, rfl, hv⟩, hbl⟩
 exact ⟨v, r, φ, H, rfl, ⟨rfl, rfl⟩, HOk.of_heap (E := ⟨φ, H, w⟩) hbl.os hbl.tape hbl.output hbl.size (fun b hb => hbl.block b hb) hok, hv _, Nat.le_refl _,
  Ext.of_heap (E := ⟨φ, H, w⟩) hbl.os hbl.tape hbl.output hbl.size (fun b hb => hbl.block b hb) hok⟩
end Go.Abs
namespace Go.Abs
theorem a0z.set {H : Heap} (h : a0z H) (id : Nat) {b : Blk} (hb : ∀ a ∈ b.flat, Ref (· < H.length) a) : a0z (H.set id (some b)) := by
 intro j bj hj a ha
 rw [List.length_set]
 rw [List.getElem?_set] at hj
 split at hj
 ·split at hj
  ·cases hj; exact hb a ha
  ·cases hj
 ·exact h j bj hj a ha
theorem a0h.eff {P : Program} {mu : Nat → Nat → Bool} {f : FuncId} {fn : Func} (hf : P.funcs[f]? = some fn) {ac : ACode} {rs : List ResV} {nt : Nat} (hc : fchk P mu fn = some (ac, rs, nt))
  {args : List AV} {H : Heap} {R : AV → Heap → Prop} (ha : args.length ≤ nt)
  (h : a0z H → Safe ⟨P, mu, f, nt, rs, H.length⟩ [.code ac] (b2o 0 args) (hap H []) fun r' H' => ∃ H1 L, H' = hap H1 L ∧ H1.length = H.length ∧ a0z H1 ∧ Ref (· < H.length) r' ∧ R r' H1) : a0h P f args H R := by
 have h0 : a0h P f args H fun r' H' => ∃ H1 L, H' = hap H1 L ∧ H1.length = H.length ∧ a0z H1 ∧ Ref (· < H.length) r' ∧ R r' H1 := a0h.intro hf hc ha fun hH => by
  have := h hH
  rw [a1Y] at this
  exact this
 refine ⟨h0.1, fun φ w vs hok hl hrep => (h0.2 φ w vs hok hl hrep).mono ?_⟩
 rintro e w' ⟨v, r', φ', H', rfl, ⟨H1, L, rfl, hlen, hrefs, hcl, hR⟩, q1, q2, q3, q4⟩
 have hfree : ∀ (j : Nat) bj, j < H.length → (hap H1 L)[j]? = some (some bj) → ∀ a ∈ bj.flat, Ref (· < H.length) a := by
  intro j bj hj hb
  simp only [hap] at hb
  rw [List.getElem?_append_left (by omega)] at hb
  have := hrefs j bj hb
  rwa [hlen] at this
 have hcut := HOk.cut q1 H.length hfree
 have ht : (hap H1 L).take H.length = H1 := by simp [hap, ← hlen]
 simp only [ht] at hcut
 exact ⟨v, r', φ', H1, rfl, hR, hcut.1, q2.mono hcut.2 hcl, by omega, q4.trans hcut.2⟩
section
variable {H L : Heap} {id : Nat} (hid : id < H.length)
include hid
theorem d1N (b : Blk) : hrow (hap (H.set id (some b)) L) id = some b := by
 rw [c8s _ _ _ (by simpa using hid)]
 simp [hrow, hid]
theorem e4Q (b : Option Blk) (b' : Option Blk) : (hap (H.set id b) L).set id b' = hap (H.set id b') L := by
 unfold hap
 rw [List.set_append_left _ _ (by simpa using hid), List.set_set]
theorem b8m (wd : Nat) (X : List AV) (off len j : Nat) (oc : Option Nat) (k : IntKind) (h : j < len) : idxV (hap (H.set id (some ⟨wd, X⟩)) L) wd (.mu id off len oc) (.int k j) = some (.loc id (off + j) 0) := by
 rw [c8r _ _ _ _ _ _ _ _ (by omega) (by omega), d1N hid]
 simp
theorem e7m (b : Blk) (j : Nat) (h : j < b.xs.length) : atV (hap (H.set id (some b)) L) (.loc id j 0) = some (b.xs.getD j .top).cells := by
 rw [b3U, d1N hid]; simp [h]
theorem e7l (env : Env) (b : Blk) (n j : Nat) (v : AV) (h : j < b.xs.length) (hf : v.fit = true) (hn : v.cells.length = n) (ho : n ≤ b.wd) :
  a5f n (.loc id j 0) v env (hap (H.set id (some b)) L) = some (.top, env, hap (H.set id (some ⟨b.wd, b.xs.set j (upd (b.xs.getD j .top) b.wd 0 n v)⟩)) L) := by
 simp only [a5f, d1N hid, Option.bind_some, e4Q hid]
 rw [if_pos ⟨h, hf, hn, by omega⟩]
end
theorem d3A {H : Heap} {id : Nat} {b : Option Blk} (h : H[id]? = some b) : H.set id b = H := by
 apply List.ext_getElem?
 intro j
 rw [List.getElem?_set]
 split
 ·rename_i e; subst e
  have := (List.getElem?_eq_some_iff.1 h).1
  rw [if_pos this, h]
 ·rfl
end Go.Abs
namespace Go.Abs
def fr (n : Nat) (f : Nat → AV) : List AV := (List.range n).map f
def hm (G : Heap) (β n : Nat) (O : List AV) (R : Nat → Option Blk) : Heap := G.mapIdx fun j o => if j = β then some ⟨1, O⟩ else if β < j ∧ j ≤ β + n then R (j - (β + 1)) else o
theorem d1D (A B : Heap) (id : Nat) (b : Option Blk) (h : id < A.length) : (hap A B).set id b = hap (A.set id b) B := by
 unfold hap; exact List.set_append_left _ _ h
def orow (β n c : Nat) (oc : Option Nat) (π : Nat → Nat) : List AV := fr n fun i => .mu (β + 1 + π i) 0 c oc
def hM (G : Heap) (β n w c : Nat) (oc : Option Nat) (π : Nat → Nat) (S : Nat → Nat → AV) : Heap := hm G β n (orow β n c oc π) fun j => some ⟨w, fr c (S j)⟩
def swp (π : Nat → Nat) (p r : Nat) : Nat → Nat := fun i => if i = p then π r else if i = r then π p else π i
theorem Safe.dropG {x : Cx} {todo : List AItem} {env : Env} {H L : Heap} {R : AV → Heap → Prop} {o : Option Blk} (hH : a0z H) (hx : x.n0 ≤ H.length) (he : env.all (fun p => nref (lid H L.length) p.2) = true)
  (hL : ∀ b, some b ∈ L → ∀ a ∈ b.flat, nref (lid H L.length) a = true) (h : Safe x todo env (hap H L) R) : Safe x todo env (hap H (L ++ [o])) R := by
 intro φ w tmps b k cs hg hn hb hk htd hsz hok hrep
 have hlen : (hap H (L ++ [o])).length = lid H L.length + 1 := by simp [hap, lid, Nat.add_assoc]
 have lt : ∀ {a}, Ref (· < (hap H (L ++ [o])).length) a → Ref (· ≠ lid H L.length) a → Ref (· < lid H L.length) a := fun h1 h2 => (h1.both h2).mono fun i ⟨q1, q2⟩ => by rw [hlen] at q1; show i < _; omega
 have htake : (hap H (L ++ [o])).take (lid H L.length) = hap H L := by
  simp only [hap, lid, ← List.append_assoc]
  rw [show H.length + L.length = (H ++ L).length by simp, List.take_left']
  rfl
 have hcut := HOk.cut (E := ⟨φ, hap H (L ++ [o]), w⟩) hok (lid H L.length) (by
  intro j bj hj hbj a ha
  refine lt (hok.refs hbj a ha) ?_
  simp only [hap] at hbj
  rcases Nat.lt_or_ge j H.length with hlt | hge
  ·rw [List.getElem?_append_left hlt] at hbj
   exact (hH j bj hbj a ha).mono fun i hi => by show i ≠ H.length + L.length; have : i < H.length := hi; omega
  ·rw [List.getElem?_append_right hge] at hbj
   have hj2 : j - H.length < L.length := by simp only [lid] at hj; omega
   rw [List.getElem?_append_left hj2] at hbj
   exact a0l.1 (hL bj (List.mem_of_getElem? hbj) a ha))
 simp only [htake] at hcut
 obtain ⟨v, w', fr, r, φ', H', q1, q2, q3, q4, q5, q6⟩ := h φ w tmps b k cs hg (by simp [hap]; omega) hb hk htd hsz hcut.1 (fun t => (hrep t).mono hcut.2 (lt (hrep t).ref (b7l he t)))
 exact ⟨v, w', fr, r, φ', H', q1, q2, q3, q4, (hcut.2.sub fun i hi => by show i < H.length + L.length; have : i < x.n0 := hi; omega).trans q5, q6⟩
theorem Safe.freezeB {x : Cx} {todo : List AItem} {env : Env} {H : Heap} {R : AV → Heap → Prop} (i : Nat) {L : Heap} {b : Blk} (hH : a0z H) (hx : x.n0 ≤ H.length) (hl : L[i]? = some (some b)) (hcl : ∀ c ∈ b.flat, Cl c)
  (h : Safe x todo (frzE (lid H i) b env) (hap H ((frzL (lid H i) b L).set i none)) R) (hpos : 0 < b.wd := by exact Nat.zero_lt_succ _) : Safe x todo env (hap H L) R := by
 refine Safe.freezeG (id := lid H i) (b := b) (Nat.le_trans hx (a5g H i)) ?_ hcl ?_ hpos
 ·unfold hap lid
  rw [List.getElem?_append_right (by omega), Nat.add_sub_cancel_left]; exact hl
 ·rw [c8x hH]; exact h
theorem a4k (H L M : Heap) : hap (hap H L) M = hap H (L ++ M) := by simp [hap]
end Go.Abs
namespace Go.Abs
theorem HOk.hrefs {φ : Nat → Option Nat} {H : Heap} {w : World} (h : HOk ⟨φ, H, w⟩) : a0z H := fun id b hb a ha => h.refs (E := ⟨φ, H, w⟩) hb a ha
theorem a0h.frz {P : Program} {f : FuncId} {args : List AV} {H : Heap} {R R2 : AV → Heap → Prop} (h : a0h P f args H R)
  (hR : a0z H → ∀ r H', R r H' → ∃ id b, H'[id]? = some (some b) ∧ (0 < b.wd ∧ ∀ c ∈ b.flat, Cl c) ∧ R2 (Abs.frz id b r) (frzH id b H')) : a0h P f args H R2 := by
 refine ⟨h.1, fun φ w vs hok hl hrep => (h.2 φ w vs hok hl hrep).mono ?_⟩
 rintro e w' ⟨v, r, φ', H', rfl, hr, q1, q2, q3, q4⟩
 obtain ⟨id, b, h1, ⟨h0, h2⟩, h3⟩ := hR hok.hrefs r H' hr
 exact ⟨v, _, φ', _, rfl, h3, e3A q1 h0 h1 h2, d2D q1 h0 h1 h2 q2, by simpa [frzH] using q3, q4.trans ((c8w (E := ⟨φ', H', w'⟩)).sub fun _ _ => trivial)⟩
end Go.Abs
namespace Go.Abs
section
variable (n0 : Nat) (env : Env) (H L : Heap)
def e5a (H : Heap) (a : AV) : Option AV := match a9x H a with
  | some (mid, n, seen) => match a9W H (.mp true mid), seen.getLast? with
   | some L, some i => if L.length = n then (L[i]?).map fun p => .tup [.int .i64 p.1, .int .i64 p.2] else none
   | none, some c => (a2P H (.mp true mid)).bind fun q => if q.2.2.2 = n then sent q.1 q.2.1 q.2.2.1 c else none
   | _, _ => none
  | none => none
theorem e0f (P : Program) (a : Src) (d : Option Nat) (K : Env → Heap → Prop) : a3a P n0 (.nxt a) d K env H = d1Q (a.ev env) H (ares K d env) := rfl
variable {H L}
theorem c7i {i m n : Nat} {seen : List Nat} (hl : L[i]? = some (some ⟨0, [.io m n seen]⟩)) : a9x (hap H L) (.mp false (lid H i)) = some (m, n, seen) := by
 simp [a9x, a0Q, hl]
end
theorem e2E (k : Bool) (id : Nat) : (AV.mp k id).cells = [.mp k id] := rfl
theorem a7J (H : Heap) (i j : Nat) (k : Bool) (h : j ≠ i) : nref (lid H i) (.mp k (lid H j)) = true :=
 a0l.2 (.mp _ _ (by simp only [lid]; omega))
theorem d0z (H : Heap) (i j : Nat) (b : Blk) (k : Bool) (h : j ≠ i) : frz (lid H i) b (.mp k (lid H j)) = .mp k (lid H j) := by
 have : lid H j ≠ lid H i := by simp only [lid]; omega
 simp [frz, this]
theorem a0h.argsLe {P : Program} {f : FuncId} {args args' : List AV} {H : Heap} {R : AV → Heap → Prop} (hlen : args.length = args'.length) (hle : ∀ (k : Nat) a c, args[k]? = some a → args'[k]? = some c → Le a c)
  (h : a0h P f args' H R) : a0h P f args H R := by
 refine ⟨h.1, fun φ w vs hok hl hrep => h.2 φ w vs hok (hl.trans hlen) fun k v c hv hc => ?_⟩
 have hk : k < args.length := by rw [hlen]; exact a0i hc
 exact hle k _ c (List.getElem?_eq_getElem hk) hc _ _ (hrep k v _ hv (List.getElem?_eq_getElem hk))
end Go.Abs
namespace Go.Abs
structure K0 (r : Blk) : Prop where
 wd : r.wd = 1
 pos : 0 < r.xs.length
 len : r.xs.length ≤ 17592186044416
 el : ∀ x ∈ r.xs, ∃ z : Int, x = .int .u32 z
def NatT (n0 : Nat) (A : Heap) (a : AV) : Prop := a = .nil ∨ ∃ id r, a = .mu id 0 r.xs.length (some r.xs.length) ∧ n0 ≤ id ∧ A[id]? = some (some r) ∧ K0 r
def IntT (n0 : Nat) (A : Heap) (a : AV) : Prop := ∃ b m, a = .agg [.bool b, m] ∧ NatT n0 A m
structure K1 (n0 : Nat) (A : Heap) (r : Blk) : Prop where
 wd : r.wd = 2
 el : ∀ x ∈ r.xs, IntT n0 A x
def VecT (n0 : Nat) (A : Heap) (a : AV) : Prop := a = .nil ∨ ∃ id off l oc r, a = .mu id off l oc ∧ n0 ≤ id ∧ A[id]? = some (some r) ∧ K1 n0 A r ∧ off + l ≤ r.xs.length ∧ l ≤ 2097152
structure K2 (n0 : Nat) (A : Heap) (r : Blk) : Prop where
 wd : r.wd = 1
 el : ∀ x ∈ r.xs, VecT n0 A x
def MatT (n0 : Nat) (A : Heap) (a : AV) : Prop := a = .nil ∨ ∃ id off l oc r, a = .mu id off l oc ∧ n0 ≤ id ∧ A[id]? = some (some r) ∧ K2 n0 A r ∧ off + l ≤ r.xs.length ∧ l ≤ 2097152
def M0 (n0 : Nat) (A B : Heap) : Prop := ∀ id r, n0 ≤ id → A[id]? = some (some r) → K0 r → ∃ r', B[id]? = some (some r') ∧ K0 r' ∧ r'.xs.length = r.xs.length
def M1 (n0 : Nat) (A B : Heap) : Prop := ∀ id r, n0 ≤ id → A[id]? = some (some r) → K1 n0 A r → ∃ r', B[id]? = some (some r') ∧ K1 n0 B r' ∧ r'.xs.length = r.xs.length
def M2 (n0 : Nat) (A B : Heap) : Prop := ∀ id r, n0 ≤ id → A[id]? = some (some r) → K2 n0 A r → ∃ r', B[id]? = some (some r') ∧ K2 n0 B r' ∧ r'.xs.length = r.xs.length
section
variable {n0 : Nat} {A B C : Heap}
theorem M0.refl : M0 n0 A A := fun id r _ h k => ⟨r, h, k, rfl⟩
theorem M0.trans (h : M0 n0 A B) (k : M0 n0 B C) : M0 n0 A C := fun id r h0 h1 h2 => by
 obtain ⟨r', q1, q2, q3⟩ := h id r h0 h1 h2
 obtain ⟨r2, s1, s2, s3⟩ := k id r' h0 q1 q2
 exact ⟨r2, s1, s2, by omega⟩
theorem M1.refl : M1 n0 A A := fun id r _ h k => ⟨r, h, k, rfl⟩
theorem M1.trans (h : M1 n0 A B) (k : M1 n0 B C) : M1 n0 A C := fun id r h0 h1 h2 => by
 obtain ⟨r', q1, q2, q3⟩ := h id r h0 h1 h2
 obtain ⟨r2, s1, s2, s3⟩ := k id r' h0 q1 q2
 exact ⟨r2, s1, s2, by omega⟩
theorem M2.refl : M2 n0 A A := fun id r _ h k => ⟨r, h, k, rfl⟩
theorem M2.trans (h : M2 n0 A B) (k : M2 n0 B C) : M2 n0 A C := fun id r h0 h1 h2 => by
 obtain ⟨r', q1, q2, q3⟩ := h id r h0 h1 h2
 obtain ⟨r2, s1, s2, s3⟩ := k id r' h0 q1 q2
 exact ⟨r2, s1, s2, by omega⟩
theorem NatT.mono (h : M0 n0 A B) {a : AV} (t : NatT n0 A a) : NatT n0 B a := by
 rcases t with rfl | ⟨id, r, rfl, h0, h1, h2⟩
 ·exact .inl rfl
 ·obtain ⟨r', q1, q2, q3⟩ := h id r h0 h1 h2
  exact .inr ⟨id, r', by rw [q3], h0, q1, q2⟩
theorem IntT.mono (h : M0 n0 A B) {a : AV} (t : IntT n0 A a) : IntT n0 B a := by
 obtain ⟨b, m, rfl, hm⟩ := t
 exact ⟨b, m, rfl, hm.mono h⟩
theorem K1.mono (h : M0 n0 A B) {r : Blk} (k : K1 n0 A r) : K1 n0 B r := ⟨k.wd, fun x hx => (k.el x hx).mono h⟩
theorem VecT.mono (h : M1 n0 A B) {a : AV} (t : VecT n0 A a) : VecT n0 B a := by
 rcases t with rfl | ⟨id, off, l, oc, r, rfl, h0, h1, h2, h3, h4⟩
 ·exact .inl rfl
 ·obtain ⟨r', q1, q2, q3⟩ := h id r h0 h1 h2
  exact .inr ⟨id, off, l, oc, r', rfl, h0, q1, q2, by omega, h4⟩
theorem K2.mono (h : M1 n0 A B) {r : Blk} (k : K2 n0 A r) : K2 n0 B r := ⟨k.wd, fun x hx => (k.el x hx).mono h⟩
theorem MatT.mono (h : M2 n0 A B) {a : AV} (t : MatT n0 A a) : MatT n0 B a := by
 rcases t with rfl | ⟨id, off, l, oc, r, rfl, h0, h1, h2, h3, h4⟩
 ·exact .inl rfl
 ·obtain ⟨r', q1, q2, q3⟩ := h id r h0 h1 h2
  exact .inr ⟨id, off, l, oc, r', rfl, h0, q1, q2, by omega, h4⟩
theorem d2B {H L : Heap} {id : Nat} {x : Option Blk} (h : H[id]? = some x) : (hap H L)[id]? = some x := by
 unfold hap; rw [List.getElem?_append_left (a0k h)]; exact h
theorem M0.app (L : Heap) : M0 n0 A (hap A L) := fun id r _ h k => ⟨r, d2B h, k, rfl⟩
theorem M1.app (L : Heap) : M1 n0 A (hap A L) := fun id r _ h k => ⟨r, d2B h, k.mono (.app L), rfl⟩
theorem M2.app (L : Heap) : M2 n0 A (hap A L) := fun id r _ h k => ⟨r, d2B h, k.mono (.app L), rfl⟩
theorem M0.set {β : Nat} {x : Option Blk} (h : ∀ r, A[β]? = some (some r) → ¬ K0 r) : M0 n0 A (A.set β x) := fun id r _ h1 k => by
 refine ⟨r, ?_, k, rfl⟩
 rw [List.getElem?_set, if_neg (fun e => by subst e; exact h r h1 k)]; exact h1
end
structure Sp (n0 : Nat) (A B : Heap) : Prop where
 m0 : M0 n0 A B
 m1 : M1 n0 A B
 m2 : M2 n0 A B
 len : B.length = A.length
 refs : a0z B
 low : ∀ id, id < n0 → B[id]? = A[id]?
theorem Sp.refl {n0 : Nat} {A : Heap} (h : a0z A) : Sp n0 A A := ⟨.refl, .refl, .refl, rfl, h, fun _ _ => rfl⟩
theorem Sp.trans {n0 : Nat} {A B C : Heap} (h : Sp n0 A B) (k : Sp n0 B C) : Sp n0 A C := ⟨h.m0.trans k.m0, h.m1.trans k.m1, h.m2.trans k.m2, by rw [k.len, h.len], k.refs, fun id hi => by rw [k.low id hi, h.low id hi]⟩
def Own (n0 : Nat) (L : Heap) : Prop := ∀ b, some b ∈ L → ∀ a ∈ b.flat, Ref (fun j => n0 ≤ j ∧ j < n0 + L.length) a
theorem Own.app {n0 : Nat} {L M : Heap} (h : Own n0 L) (k : ∀ b, some b ∈ M → ∀ a ∈ b.flat, Ref (fun j => n0 ≤ j ∧ j < n0 + (L ++ M).length) a) : Own n0 (L ++ M) := fun b hb a ha => by
 rcases List.mem_append.1 hb with hb | hb
 ·exact (h b hb a ha).mono fun j hj => by simp only [List.length_append]; omega
 ·exact k b hb a ha
theorem Own.refs {H L : Heap} (hH : a0z H) (h : Own H.length L) : a0z (hap H L) := by
 intro id b hb a ha
 have hl : (hap H L).length = H.length + L.length := by simp [hap]
 rcases Nat.lt_or_ge id H.length with hi | hi
 ·unfold hap at hb
  rw [List.getElem?_append_left hi] at hb
  exact (hH id b hb a ha).mono fun j hj => by rw [hl]; have : j < H.length := hj; show j < _; omega
 ·unfold hap at hb
  rw [List.getElem?_append_right hi] at hb
  exact (h b (List.mem_of_getElem? hb) a ha).mono fun j hj => by rw [hl]; show j < _; omega
theorem Own.set {H L : Heap} (h : Own H.length L) {i : Nat} {b' : Blk} (hb' : ∀ a ∈ b'.flat, Ref (fun j => H.length ≤ j ∧ j < H.length + L.length) a) : Own H.length (L.set i (some b')) := fun b hb a ha => by
 rw [List.length_set]
 rcases List.mem_or_eq_of_mem_set hb with hb | hb
 ·exact h b hb a ha
 ·cases hb; exact hb' a ha
section
variable {n0 : Nat} {A : Heap}
theorem NatT.ref {a : AV} (h : NatT n0 A a) : Ref (fun j => n0 ≤ j ∧ j < A.length) a := by
 rcases h with rfl | ⟨id, r, rfl, h0, h1, _⟩
 ·exact .nil
 ·exact .mu _ _ _ _ ⟨h0, a0k h1⟩
theorem IntT.ref {a : AV} (h : IntT n0 A a) : Ref (fun j => n0 ≤ j ∧ j < A.length) a := by
 obtain ⟨b, m, rfl, hm⟩ := h
 refine .agg _ fun c hc => ?_
 simp only [List.mem_cons, List.not_mem_nil, or_false] at hc
 rcases hc with rfl | rfl
 ·exact .bool b
 ·exact hm.ref
theorem IntT.cells {a : AV} (h : IntT n0 A a) : ∀ c ∈ a.cells, Ref (fun j => n0 ≤ j ∧ j < A.length) c := by
 obtain ⟨b, m, rfl, hm⟩ := h
 intro c hc
 simp only [AV.cells, List.mem_cons, List.not_mem_nil, or_false] at hc
 rcases hc with rfl | rfl
 ·exact .bool b
 ·exact hm.ref
theorem IntT.fit {a : AV} (h : IntT n0 A a) : a.fit = true ∧ a.cells.length = 2 := by
 obtain ⟨b, m, rfl, hm⟩ := h; exact ⟨rfl, rfl⟩
theorem VecT.ref {a : AV} (h : VecT n0 A a) : Ref (fun j => n0 ≤ j ∧ j < A.length) a := by
 rcases h with rfl | ⟨id, off, l, oc, r, rfl, h0, h1, _⟩
 ·exact .nil
 ·exact .mu _ _ _ _ ⟨h0, a0k h1⟩
theorem VecT.cells {a : AV} (h : VecT n0 A a) : ∀ c ∈ a.cells, Ref (fun j => n0 ≤ j ∧ j < A.length) c := by
 intro c hc
 have : a.cells = [a] := by rcases h with rfl | ⟨id, off, l, oc, r, rfl, _⟩ <;> rfl
 rw [this] at hc
 simp only [List.mem_cons, List.not_mem_nil, or_false] at hc
 subst hc
 exact h.ref
theorem VecT.fit {a : AV} (h : VecT n0 A a) : a.fit = true ∧ a.cells.length = 1 := by
 rcases h with rfl | ⟨id, off, l, oc, r, rfl, _⟩ <;> exact ⟨rfl, rfl⟩
end
theorem a0h.open {P : Program} {mu : Nat → Nat → Bool} {f : FuncId} {fn : Func} (hf : P.funcs[f]? = some fn) {ac : ACode} {rs : List ResV} {nt : Nat} (hc : fchk P mu fn = some (ac, rs, nt))
  {args : List AV} {H : Heap} {R : AV → Heap → Prop} (ha : args.length ≤ nt) (h : a0z H → Safe ⟨P, mu, f, nt, rs, H.length⟩ [.code ac] (b2o 0 args) (hap H []) R) : a0h P f args H R :=
 a0h.intro hf hc ha fun hH => by
  have := h hH
  rw [a1Y] at this
  exact this
def OpC (P : Program) (f : FuncId) (args : List AV) (T : Nat → Heap → AV → Prop) : Prop := ∀ H, a0z H → ∃ r L, (a0h P f args H fun r' H' => r' = r ∧ H' = hap H L) ∧ T H.length (hap H L) r ∧ Own H.length L
def GrC (P : Program) (f : FuncId) (args : List AV) (T : Nat → Heap → AV → Prop) : Prop := ∀ H, a0z H → a0h P f args H fun r' H' => ∃ L, H' = hap H L ∧ T H.length H' r' ∧ Own H.length L
theorem OpC.dgcall {P : Program} {f : FuncId} {args : List AV} {T : Nat → Heap → AV → Prop} (h : OpC P f args T) {H : Heap} (hH : a0z H) {K : AV → Heap → Prop} (k : ∀ r L, T H.length (hap H L) r → Own H.length L → K r (hap H L)) : dgcall P f args H K := by
 obtain ⟨r, L, h1, h2, h3⟩ := h H hH
 exact ⟨r, L, h1, k r L h2 h3⟩
theorem GrC.acall {P : Program} {f : FuncId} {args : List AV} {T : Nat → Heap → AV → Prop} (h : GrC P f args T) {H : Heap} (hH : a0z H) {R : AV → Heap → Prop} (k : ∀ r L, T H.length (hap H L) r → Own H.length L → R r (hap H L)) : a0h P f args H R :=
 (h H hH).mono fun r' H' ⟨L, e, h1, h2⟩ => by subst e; exact k r' L h1 h2
structure Gw (H G : Heap) : Prop where
 len : H.length ≤ G.length
 low : ∀ id, id < H.length → G[id]? = H[id]?
 own : ∀ (id : Nat) b, H.length ≤ id → G[id]? = some (some b) → ∀ a ∈ b.flat, Ref (fun j => H.length ≤ j ∧ j < G.length) a
theorem Gw.refl (H : Heap) : Gw H H := ⟨Nat.le_refl _, fun _ _ => rfl, fun id b h hb => absurd (a0k hb) (by omega)⟩
theorem Gw.refs {H G : Heap} (hH : a0z H) (h : Gw H G) : a0z G := fun id b hb a ha => by
 rcases Nat.lt_or_ge id H.length with hi | hi
 ·rw [h.low id hi] at hb
  exact (hH id b hb a ha).mono fun j hj => by have := h.len; show j < _; have : j < H.length := hj; omega
 ·exact (h.own id b hi hb a ha).mono fun j hj => hj.2
theorem Gw.out {H G : Heap} (h : Gw H G) : ∃ L, G = hap H L ∧ Own H.length L := by
 have he : G = hap H (G.drop H.length) := by
  apply List.ext_getElem?
  intro j
  unfold hap
  rcases Nat.lt_or_ge j H.length with hj | hj
  ·rw [List.getElem?_append_left hj, h.low j hj]
  ·rw [List.getElem?_append_right hj, List.getElem?_drop]; congr 1; omega
 refine ⟨_, he, fun b hb a ha => ?_⟩
 obtain ⟨j, hj⟩ := List.mem_iff_getElem?.1 hb
 rw [List.getElem?_drop] at hj
 exact (h.own _ b (by omega) hj a ha).mono fun k hk => by simp only [List.length_drop]; have := h.len; omega
theorem Gw.app {H G L : Heap} (h : Gw H G) (k : ∀ b, some b ∈ L → ∀ a ∈ b.flat, Ref (fun j => H.length ≤ j ∧ j < G.length + L.length) a) : Gw H (hap G L) := by
 have hl : (hap G L).length = G.length + L.length := by simp [hap]
 refine ⟨by rw [hl]; have := h.len; omega, fun id hi => ?_, fun id b hi hb a ha => ?_⟩
 ·unfold hap; rw [List.getElem?_append_left (by have := h.len; omega), h.low id hi]
 ·rw [hl]
  unfold hap at hb
  rcases Nat.lt_or_ge id G.length with hj | hj
  ·rw [List.getElem?_append_left hj] at hb
   exact (h.own id b hi hb a ha).mono fun j hj => by omega
  ·rw [List.getElem?_append_right hj] at hb
   exact k b (List.mem_of_getElem? hb) a ha
theorem Gw.cl {H G L : Heap} (h : Gw H G) (k : ∀ b, some b ∈ L → ∀ a ∈ b.flat, Cl a) : Gw H (hap G L) := h.app fun b hb a ha => (k b hb a ha).ref
theorem Gw.set {H G : Heap} (h : Gw H G) {β : Nat} (hβ : H.length ≤ β) {b' : Blk} (hb' : ∀ a ∈ b'.flat, Ref (fun j => H.length ≤ j ∧ j < G.length) a) : Gw H (G.set β (some b')) := by
 refine ⟨by rw [List.length_set]; exact h.len, fun id hi => ?_, fun id b hi hb a ha => ?_⟩
 ·rw [List.getElem?_set, if_neg (by omega)]; exact h.low id hi
 ·rw [List.length_set]
  rw [List.getElem?_set] at hb
  split at hb
  ·split at hb
   ·cases hb; exact hb' a ha
   ·cases hb
  ·exact h.own id b hi hb a ha
theorem NatT.low {n0 n1 : Nat} {A : Heap} {a : AV} (h : n0 ≤ n1) (t : NatT n1 A a) : NatT n0 A a := by
 rcases t with rfl | ⟨id, r, rfl, h0, h1, h2⟩
 ·exact .inl rfl
 ·exact .inr ⟨id, r, rfl, by omega, h1, h2⟩
theorem IntT.low {n0 n1 : Nat} {A : Heap} {a : AV} (h : n0 ≤ n1) (t : IntT n1 A a) : IntT n0 A a := by
 obtain ⟨b, m, rfl, hm⟩ := t
 exact ⟨b, m, rfl, hm.low h⟩
theorem K1.low {n0 n1 : Nat} {A : Heap} {r : Blk} (h : n0 ≤ n1) (t : K1 n1 A r) : K1 n0 A r := ⟨t.wd, fun x hx => (t.el x hx).low h⟩
theorem VecT.low {n0 n1 : Nat} {A : Heap} {a : AV} (h : n0 ≤ n1) (t : VecT n1 A a) : VecT n0 A a := by
 rcases t with rfl | ⟨id, off, l, oc, r, rfl, h0, h1, h2, h3⟩
 ·exact .inl rfl
 ·exact .inr ⟨id, off, l, oc, r, rfl, by omega, h1, h2.low h, h3⟩
structure ElT (T : Nat → Heap → AV → Prop) (wd : Nat) : Prop where
 app : ∀ {n0 A a} L, T n0 A a → T n0 (hap A L) a
 low : ∀ {n0 n1 A a}, n0 ≤ n1 → T n1 A a → T n0 A a
 set : ∀ {n0 A a β xs x}, A[β]? = some (some ⟨wd, xs⟩) → (∀ y ∈ xs, T n0 A y) → T n0 A a → T n0 (A.set β (some ⟨wd, xs ++ [x]⟩)) a
 cells : ∀ {n0 A a}, T n0 A a → ∀ c ∈ a.cells, Ref (fun j => n0 ≤ j ∧ j < A.length) c
 fit : ∀ {n0 A a}, T n0 A a → a.fit = true ∧ a.cells.length = wd
theorem Free.app {G L : Heap} {β : Nat} (h : Free G β) (hL : ∀ b, some b ∈ L → ∀ a ∈ b.flat, Ref (· ≠ β) a) : Free (hap G L) β := fun j b hj hb a ha => by
 unfold hap at hb
 rcases Nat.lt_or_ge j G.length with hi | hi
 ·rw [List.getElem?_append_left hi] at hb
  exact h j b hj hb a ha
 ·rw [List.getElem?_append_right hi] at hb
  exact hL b (List.mem_of_getElem? hb) a ha
theorem Free.own {G L : Heap} {β : Nat} (h : Free G β) (hβ : β < G.length) (hL : Own G.length L) : Free (hap G L) β := h.app fun b hb a ha => (hL b hb a ha).mono fun j hj => by show j ≠ β; omega
theorem Free.set {G : Heap} {β γ : Nat} (h : Free G β) {b' : Blk} (hb' : ∀ a ∈ b'.flat, Ref (· ≠ β) a) : Free (G.set γ (some b')) β := fun j b hj hb a ha => by
 rw [List.getElem?_set] at hb
 split at hb
 ·split at hb
  ·cases hb; exact hb' a ha
  ·cases hb
 ·exact h j b hj hb a ha
theorem Free.last {G : Heap} (h : a0z G) (x : Option Blk) : Free (hap G [x]) G.length := fun j b hj hb a ha => by
 unfold hap at hb
 rcases Nat.lt_or_ge j G.length with hi | hi
 ·rw [List.getElem?_append_left hi] at hb
  exact (h j b hb a ha).mono fun k hk => by show k ≠ G.length; have : k < G.length := hk; omega
 ·rw [List.getElem?_eq_none (by simp; omega)] at hb
  cases hb
end Go.Abs
namespace Go.Abs
theorem c7V {id : Nat} {x : AV} (h : ∀ c ∈ x.cells, Ref (· ≠ id) c) : nref id x = true := by
 cases x with
 | agg cs => exact a0l.2 (.agg _ h)
 | mo l => exact a0l.2 (.mo l)
 | io a b l => exact a0l.2 (.io a b l)
 | ms a b l n => exact a0l.2 (.ms a b l n)
 | _ => exact a0l.2 (h _ (by simp [AV.cells]))
theorem c9w {id : Nat} {b : Blk} (h : ∀ a ∈ b.flat, Ref (· ≠ id) a) : b0f id b = b := by
 unfold b0f
 have : b.xs.map (a3B id) = b.xs := by
  rw [List.map_congr_left (g := fun c => c) fun c hc => by unfold a3B; rw [if_pos (c7V fun a ha => h a (List.mem_flatMap.2 ⟨c, hc, ha⟩))]]
  simp
 rw [this]
theorem d5i {H : Heap} (hH : a0z H) {id : Nat} (hid : H.length ≤ id) : a2a id H = H := by
 unfold a2a
 apply List.ext_getElem?
 intro j
 rw [List.getElem?_map]
 cases hj : H[j]? with
 | none => rfl
 | some o =>
  cases o with
  | none => rfl
  | some b =>
   simp only [Option.map_some]
   rw [c9w fun a ha => (hH j b hj a ha).mono fun k hk => by show k ≠ id; have : k < H.length := hk; omega]
theorem d5j {H L : Heap} (hH : a0z H) {id : Nat} (hid : H.length ≤ id) : a2a id (hap H L) = hap H (a2a id L) := by
 unfold hap
 have : a2a id (H ++ L) = a2a id H ++ a2a id L := by unfold a2a; rw [List.map_append]
 rw [this, d5i hH hid]
theorem b8g (id : Nat) : a2a id [] = [] := rfl
theorem b5h (id : Nat) (b : Blk) (L : Heap) : a2a id (some b :: L) = some (b0f id b) :: a2a id L := rfl
theorem c2L (id wd : Nat) (xs : List AV) : b0f id ⟨wd, xs⟩ = ⟨wd, xs.map (a3B id)⟩ := rfl
theorem b0Z {id : Nat} {x : AV} (h : nref id x = true) : a3B id x = x := by unfold a3B; rw [if_pos h]
theorem d3e {H L : Heap} (hH : a0z H) {i n0 wd bytes len : Nat} {env : Env} {y : AV} {xs ys : List AV} (hl : L[i]? = some (some ⟨wd, xs⟩)) (hlen : len = xs.length) (hn : n0 ≤ lid H i) (hy : a0Z (hap H L) wd false y = some ys)
  (hys : ∀ a ∈ ys.flatMap AV.cells, nref (lid H i) a = true) (hxs : ∀ x ∈ xs, nref (lid H i) x = true) (h1 : (len + ys.length) * bytes ≤ 140737488355328) (h2 : len + ys.length ≤ 9223372036854775807) :
  appV n0 wd bytes false (.mu (lid H i) 0 len none) y env (hap H L) = some (.mu (lid H i) 0 (len + ys.length) none, scrub (lid H i) env, hap H ((a2a (lid H i) L).set i (some ⟨wd, xs ++ ys⟩))) := by
 subst hlen
 have hys' : (ys.flatMap AV.cells).all (nref (lid H i)) = true := List.all_eq_true.2 hys
 have hxc : (xs.flatMap AV.cells).all (nref (lid H i)) = true := List.all_eq_true.2 fun a ha => by
  obtain ⟨x, hx, ha⟩ := List.mem_flatMap.1 ha
  exact b8o (hxs x hx) a ha
 have hxs' : xs.all (nref (lid H i)) = true := List.all_eq_true.2 hxs
 simp only [appV, hy, Option.bind_some, a0Q, hl, Option.join_some, a2Q]
 rw [if_neg (by simp)]
 by_cases hf : free (hap H L) (lid H i) = true
 ·rw [if_pos ⟨trivial, trivial, Nat.le_refl _, hn, hf, hys', hxc, h1, h2⟩]
  have hs : L.set i (some ⟨wd, xs ++ ys⟩) = (a2a (lid H i) L).set i (some ⟨wd, xs ++ ys⟩) := by
   apply List.ext_getElem?
   intro j
   rw [List.getElem?_set, List.getElem?_set]
   by_cases e : i = j
   ·subst e; simp [a2a]
   ·rw [if_neg e, if_neg e]
    unfold a2a
    rw [List.getElem?_map]
    cases hj : L[j]? with
    | none => rfl
    | some o =>
     cases o with
     | none => rfl
     | some b =>
      simp only [Option.map_some]
      rw [c9w fun a ha => c1U.1 hf (lid H j) b (by simp only [lid]; omega) (by unfold hap lid; rw [List.getElem?_append_right (by omega), Nat.add_sub_cancel_left]; exact hj) a ha]
  simp [a1f, hs]
 ·rw [if_neg (fun h => hf h.2.2.2.2.1), if_neg (by simp), if_pos ⟨trivial, trivial, Nat.le_refl _, hn, hys', hxs', h1, h2⟩]
  rw [d5j hH (a5g H i), a2Q]
  simp [a1f]
end Go.Abs
namespace Go.Abs
namespace Pan
def Safe (x : Cx) (todo : List AItem) (env : Env) (H : Heap) (R : AV → Heap → Prop) : Prop :=
 ∀ (φ : Nat → Option Nat) (w : World) (tmps : Array Value) (b : Frame) (k : List Item) (cs : List Frame), x.Good → x.n0 ≤ H.length → b.fn = x.f → b.kind = .normal → a1C x todo k → tmps.size = x.nt →
  HOk ⟨φ, H, w⟩ → a0r ⟨φ, H, w⟩ env tmps →
  ∃ v w' fr r φ' H', R r H' ∧ HOk ⟨φ', H', w'⟩ ∧ Rep ⟨φ', H', w'⟩ v r ∧ x.n0 ≤ H'.length ∧ Ext (· < x.n0) ⟨φ, H, w⟩ ⟨φ', H', w'⟩ ∧
   Steps x.P (lone (b.at ⟨tmps, []⟩ k) cs w) (lone fr cs w') ∧ fr.fn = x.f ∧ fr.leaving x.P w' (.panicked [{ v := v, recovered := false }])
def a0h (P : Program) (f : FuncId) (args : List AV) (H : Heap) (R : AV → Heap → Prop) : Prop :=
 a8d P f ∧ ∀ (φ : Nat → Option Nat) (w : World) (vs : List Value), HOk ⟨φ, H, w⟩ → vs.length = args.length → (∀ (k : Nat) v a, vs[k]? = some v → args[k]? = some a → Rep ⟨φ, H, w⟩ v a) →
  Calls P f vs.toArray w fun e w' => ∃ v r φ' H', e = .panicked [{ v := v, recovered := false }] ∧ R r H' ∧ HOk ⟨φ', H', w'⟩ ∧ Rep ⟨φ', H', w'⟩ v r ∧ H.length ≤ H'.length ∧ Ext (· < H.length) ⟨φ, H, w⟩ ⟨φ', H', w'⟩
theorem a0h.mono {P : Program} {f : FuncId} {args : List AV} {H : Heap} {R R' : AV → Heap → Prop} (h : a0h P f args H R) (hr : ∀ r H', R r H' → R' r H') : a0h P f args H R' :=
 ⟨h.1, fun φ w vs h1 h2 h3 => (h.2 φ w vs h1 h2 h3).mono fun e w' ⟨v, r, φ', H', a, b, c⟩ => ⟨v, r, φ', H', a, hr _ _ b, c⟩⟩
section
variable {x : Cx} {todo : List AItem} {env : Env} {H : Heap} {R : AV → Heap → Prop}
theorem Safe.one {todo' : List AItem} (hs : ∀ k, a1C x todo k → ∃ k', a1C x todo' k' ∧ ∀ (b : Frame) (tmps : Array Value) (cs : List Frame) (w : World), step x.P (lone (b.at ⟨tmps, []⟩ k) cs w) = .next (lone (b.at ⟨tmps, []⟩ k') cs w))
  (h : Safe x todo' env H R) : Safe x todo env H R := by
 intro φ w tmps b k cs hg hn hb hk ht hsz hok he
 obtain ⟨k', ht', hst⟩ := hs k ht
 obtain ⟨v, w', fr, r, φ', H', q1, q2, q3, q4, q5, q6, q7⟩ := h φ w tmps b k' cs hg hn hb hk ht' hsz hok he
 exact ⟨v, w', fr, r, φ', H', q1, q2, q3, q4, q5, .head (hst b tmps cs w) q6, q7⟩
theorem Safe.skip (h : Safe x todo env H R) : Safe x (.code .skip :: todo) env H R := by
 refine Safe.one (fun k hk => ?_) h
 obtain ⟨b, k', rfl, h1, h2⟩ := a0j hk
 obtain ⟨c, rfl, h1⟩ := a0m h1
 obtain rfl := c8l h1
 exact ⟨k', h2, fun _ _ _ _ => step_skip⟩
theorem Safe.label {l : Nat} (h : Safe x todo env H R) : Safe x (.code (.label l) :: todo) env H R := by
 refine Safe.one (fun k hk => ?_) h
 obtain ⟨b, k', rfl, h1, h2⟩ := a0j hk
 obtain ⟨c, rfl, h1⟩ := a0m h1
 obtain rfl := c4C h1
 exact ⟨k', h2, fun _ _ _ _ => step_label⟩
theorem Safe.goto {l : Nat} {todo' : List AItem} (he : c1w l todo = some todo') (h : Safe x todo' env H R) : Safe x (.code (.goto l) :: todo) env H R := by
 refine Safe.one (fun k hk => ?_) h
 obtain ⟨i, k', rfl, h1, h2⟩ := a0j hk
 obtain ⟨c, rfl, h1⟩ := a0m h1
 obtain rfl := c8o h1
 obtain ⟨k2, g1, g2⟩ := a8H h2 he
 exact ⟨k2, g2, fun _ _ _ _ => c2G g1⟩
theorem Safe.scope {a : ACode} (h : Safe x (.code a :: .inScope a :: todo) env H R) : Safe x (.code (.scope a) :: todo) env H R := by
 refine Safe.one (fun k hk => ?_) h
 obtain ⟨i, k', rfl, h1, h2⟩ := a0j hk
 obtain ⟨c, rfl, h1⟩ := a0m h1
 obtain ⟨a', rfl, g1⟩ := c4A h1
 exact ⟨.code a' :: .inScope a' :: k', ⟨g1, g1, h2⟩, fun _ _ _ _ => b8b⟩
theorem Safe.inScope {a : ACode} (h : Safe x todo env H R) : Safe x (.inScope a :: todo) env H R := by
 refine Safe.one (fun k hk => ?_) h
 obtain ⟨i, k', rfl, h1, h2⟩ := a0j hk
 obtain ⟨a', rfl, h1⟩ := b0g h1
 exact ⟨k', h2, fun _ _ _ _ => b2H⟩
theorem Safe.seq {a b : ACode} (h : Safe x (.code a :: .code b :: todo) env H R) : Safe x (.code (.seq a b) :: todo) env H R := by
 refine Safe.one (fun k hk => ?_) h
 obtain ⟨i, k', rfl, h1, h2⟩ := a0j hk
 obtain ⟨c, rfl, h1⟩ := a0m h1
 obtain ⟨a', b', rfl, g1, g2⟩ := d2v h1
 exact ⟨.code a' :: .code b' :: k', ⟨g1, g2, h2⟩, fun _ _ _ _ => step_seq⟩
theorem Safe.block {id : Nat} {a : ACode} (h : Safe x (.code a :: .inBlock id :: todo) env H R) : Safe x (.code (.block id a) :: todo) env H R := by
 refine Safe.one (fun k hk => ?_) h
 obtain ⟨i, k', rfl, h1, h2⟩ := a0j hk
 obtain ⟨c, rfl, h1⟩ := a0m h1
 obtain ⟨a', rfl, g1⟩ := c4D h1
 exact ⟨.code a' :: .inBlock id :: k', ⟨g1, rfl, h2⟩, fun _ _ _ _ => step_block⟩
theorem Safe.inBlock {id : Nat} (h : Safe x todo env H R) : Safe x (.inBlock id :: todo) env H R := by
 refine Safe.one (fun k hk => ?_) h
 obtain ⟨i, k', rfl, h1, h2⟩ := a0j hk
 obtain rfl := b0J h1
 exact ⟨k', h2, fun _ _ _ _ => step_inBlock⟩
theorem Safe.loop {a : ACode} (h : Safe x (.inLoop a :: todo) env H R) : Safe x (.code (.loop a) :: todo) env H R := by
 intro φ w tmps b k cs hg hn hb hk ht hsz hok he
 obtain ⟨i, k', rfl, h1, h2⟩ := a0j ht
 obtain ⟨c, rfl, h1⟩ := a0m h1
 obtain ⟨a', rfl, g1⟩ := c8n h1
 obtain ⟨v, w', fr, r, φ', H', q1, q2, q3, q4, q5, q6, q7⟩ := h φ w tmps b (.inLoop a' :: k') cs hg hn hb hk ⟨g1, h2⟩ hsz hok he
 refine ⟨v, w', fr, r, φ', H', q1, q2, q3, q4, q5, ?_, q7⟩
 -- both begin with the same state behind one step
 obtain ⟨n, hn'⟩ := q6
 cases n with
 | zero =>
  simp only [runN] at hn'
  cases hn'
  exfalso
  obtain ⟨_, hl⟩ := q7
  simp [Frame.leaving, Frame.at] at hl
 | succ n =>
  simp only [runN, step_inLoop] at hn'
  exact .head step_loop ⟨n, hn'⟩
theorem Safe.inLoop {a : ACode} (h : Safe x (.code a :: .inLoop a :: todo) env H R) : Safe x (.inLoop a :: todo) env H R := by
 refine Safe.one (fun k hk => ?_) h
 obtain ⟨i, k', rfl, h1, h2⟩ := a0j hk
 obtain ⟨a', rfl, h1⟩ := b3C h1
 exact ⟨.code a' :: .inLoop a' :: k', ⟨h1, h1, h2⟩, fun _ _ _ _ => step_inLoop⟩
theorem Safe.cond {s : Src} {a b : ACode} (h : c1m (s.ev env) fun c => if c then Safe x (.code a :: todo) env H R else Safe x (.code b :: todo) env H R) : Safe x (.code (.cond s a b) :: todo) env H R := by
 intro φ w tmps bf k cs hg hn hb hk ht hsz hok he
 obtain ⟨i, k', rfl, h1, h2⟩ := a0j ht
 obtain ⟨c, rfl, h1⟩ := a0m h1
 obtain ⟨o, a', b', rfl, g0, g1, g2⟩ := c8q h1
 simp only [c1m] at h
 split at h
 ·rename_i c hc
  have hr := a0n he g0
  rw [hc] at hr
  have hv := a1Q hr
  cases c
  ·simp only [Bool.false_eq_true, if_false] at h
   obtain ⟨v, w', fr, r, φ', H', q1, q2, q3, q4, q5, q6, q7⟩ := h φ w tmps bf (.code b' :: k') cs hg hn hb hk ⟨g2, h2⟩ hsz hok he
   exact ⟨v, w', fr, r, φ', H', q1, q2, q3, q4, q5, .head (step_cond hv) (by simpa using q6), q7⟩
  ·simp only [if_true] at h
   obtain ⟨v, w', fr, r, φ', H', q1, q2, q3, q4, q5, q6, q7⟩ := h φ w tmps bf (.code a' :: k') cs hg hn hb hk ⟨g1, h2⟩ hsz hok he
   exact ⟨v, w', fr, r, φ', H', q1, q2, q3, q4, q5, .head (step_cond hv) (by simpa using q6), q7⟩
 ·exact h.elim
theorem Safe.exit {id : Nat} {todo' : List AItem} (he : c1x id todo = some todo') (h : Safe x todo' env H R) : Safe x (.code (.exit id) :: todo) env H R := by
 refine Safe.one (fun k hk => ?_) h
 obtain ⟨i, k', rfl, h1, h2⟩ := a0j hk
 obtain ⟨c, rfl, h1⟩ := a0m h1
 obtain rfl := c8p h1
 obtain ⟨k2, g1, g2⟩ := a8I h2 he
 exact ⟨k2, g2, fun _ _ _ _ => step_exit g1⟩
theorem Safe.region {l : List AIns} (h : aops x.P x.n0 l (fun env' H' => Safe x todo env' H' R) env H) : Safe x (.code (.region l false) :: todo) env H R := by
 intro φ w tmps b k cs hg hn hb hk ht hsz hok he
 obtain ⟨i, k', rfl, h1, h2⟩ := a0j ht
 obtain ⟨c, rfl, h1⟩ := a0m h1
 obtain ⟨id, ops, rfl, g1, _⟩ := a5R h1
 have hw := a8f (P := x.P) (nt := x.nt) (rid := id) (ops := ops) (n0 := x.n0) (K := fun env' H' => Safe x todo env' H' R) (E0 := ⟨φ, H, w⟩)
  (Q := fun e a w' => e = .normal ∧ Kc x.n0 x.nt ⟨φ, H, w⟩ (fun env' H' => Safe x todo env' H' R) a w') (fun a w h => ⟨rfl, h⟩) ops.toList 0 l g1 ⟨φ, H, w⟩ env tmps hsz hok he hn (Ext.refl _ _) h
 obtain ⟨e, a', w', ⟨rfl, φ1, env1, H1, s1, s2, s3, s4, s5, s6, s7⟩, harr⟩ := wp_region_list hw b k' cs
 have ha : a' = ⟨a'.tmps, []⟩ := by cases a'; simp at s4; simp [s4]
 rw [ha] at harr
 obtain ⟨v, w2, fr, r, φ', H', q1, q2, q3, q4, q5, q6, q7⟩ := s1 φ1 w' a'.tmps b k' cs hg s6 hb hk h2 s5 s2 s3
 exact ⟨v, w2, fr, r, φ', H', q1, q2, q3, q4, s7.trans q5, Steps.trans harr q6, q7⟩
end
theorem Safe.weaken {x : Cx} {todo : List AItem} {env env' : Env} {H : Heap} {R : AV → Heap → Prop} (he : ∀ t, look env' t = look env t ∨ look env' t = .top) (h : Safe x todo env' H R) : Safe x todo env H R := by
 intro φ w tmps b k cs hg hn hb hk ht hsz hok hr
 refine h φ w tmps b k cs hg hn hb hk ht hsz hok (fun t => ?_)
 rcases he t with e | e
 ·rw [e]; exact hr t
 ·rw [e]; exact .top _
theorem Safe.keep (ts : List Nat) {x : Cx} {todo : List AItem} {env : Env} {H : Heap} {R : AV → Heap → Prop} (h : Safe x todo (keep env ts) H R) : Safe x todo env H R := Safe.weaken (c4q env ts) h
theorem Safe.mono {x : Cx} {todo : List AItem} {env : Env} {H : Heap} {R R' : AV → Heap → Prop} (h : Safe x todo env H R) (hr : ∀ r H', R r H' → R' r H') : Safe x todo env H R' := by
 intro φ w tmps b k cs hg hn hb hk ht hsz hok he
 obtain ⟨v, w', fr, r, φ', H', q1, q⟩ := h φ w tmps b k cs hg hn hb hk ht hsz hok he
 exact ⟨v, w', fr, r, φ', H', hr _ _ q1, q⟩
theorem Safe.regionD {x : Cx} {todo : List AItem} {env : Env} {H : Heap} {R : AV → Heap → Prop} {l : List AIns} (h : dops x.P x.n0 l (fun env' H' => Safe x todo env' H' R) env H) : Safe x (.code (.region l true) :: todo) env H R := by
 intro φ w tmps b k cs hg hn hb hk ht hsz hok he
 obtain ⟨i, k', rfl, h1, h2⟩ := a0j ht
 obtain ⟨c, rfl, h1⟩ := a0m h1
 obtain ⟨id, ops, rfl, g1, g2⟩ := a5R h1
 have g2 := g2 rfl
 have hmix : x.P.follows .mixedOrders = true := by simp only [dchk, Bool.and_eq_true] at g2; exact g2.1
 obtain ⟨ef, Hf, s1, s2⟩ := a7V h
 have hx0 := a6e (· < x.n0) φ H w (w.drawn + 1)
 have hxA := a6e All φ H w (w.drawn + 1)
 have hlst : (List.range ops.size).filterMap (l[·]?) = l := by
  have := (a6L _ _ _ g1).1
  have hl : ops.size = l.length := by simpa using this.symm
  rw [hl]
  apply List.ext_getElem?
  intro m
  have : ∀ (n : Nat), n ≤ l.length → (List.range n).filterMap (l[·]?) = l.take n := by
   intro n
   induction n with
   | zero => simp
   | succ n ih =>
    intro hn
    rw [List.range_succ, List.filterMap_append, ih (by omega), List.take_add_one]
    simp [List.getElem?_eq_getElem (show n < l.length by omega)]
  rw [this l.length (Nat.le_refl _), List.take_length]
 have g3 := g2
 simp only [dchk, Bool.and_eq_true] at g3
 have hall' := b1I (pre := []) g3.2.2
 have hw := c1y (P := x.P) (nt := x.nt) g1 g3.2.1 (n0 := x.n0) (G := fun _ => True) (fun _ _ => fun _ _ => trivial) (E0 := ⟨φ, H, { w with drawn := w.drawn + 1 }⟩) (ef := ef) (Hf := Hf)
  (Q := fun e a w' => e = .normal ∧ Kc x.n0 x.nt ⟨φ, H, { w with drawn := w.drawn + 1 }⟩ (fun e' H' => a2y ef e' ∧ H' = Hf) a w') (fun a w h => ⟨rfl, h⟩)
  ops.size (List.range ops.size) (Array.replicate ops.size false) (by simp) (List.pairwise_lt_range) (by
   intro i
   rw [List.mem_range]
   constructor
   ·intro hi; simp [hi]
   ·intro hi
    rcases Nat.lt_or_ge i ops.size with h' | h'
    ·exact h'
    ·simp [Array.getElem?_eq_none (show (Array.replicate ops.size false).size ≤ i by simpa using h')] at hi) (by simp) (by
   intro j o hj
   exfalso
   rcases Nat.lt_or_ge j ops.size with h' | h'
   ·simp [h'] at hj
   ·simp [Array.getElem?_eq_none (show (Array.replicate ops.size false).size ≤ j by simpa using h')] at hj)
  (fun i a x y _ _ hai hx hy => by
   rcases hall' i a x y (by simp) hai (by simpa using hx) (by simpa using hy) with h | h
   ·exact .inl h
   ·exact .inr fun _ s t => St.swap h.1 h.2 s t)
  ⟨φ, H, { w with drawn := w.drawn + 1 }⟩ env tmps ef hsz (b7m hok) (he.mono (hxA.sub fun _ _ => trivial)) hn (Ext.refl _ _) (.refl _) trivial (by rw [hlst]; exact s1)
 obtain ⟨e, a', w', ⟨rfl, φ1, env1, H1, ⟨sq, rfl⟩, s3, s4, s5, s6, s7, s8⟩, harr⟩ := wp_region_any hmix hw b k' cs
 have ha : a' = ⟨a'.tmps, []⟩ := by cases a'; simp at s5; simp [s5]
 rw [ha] at harr
 obtain ⟨v, w2, fr, r, φ', H', q1, q2, q3, q4, q5, q6, q7⟩ := s2 φ1 w' a'.tmps b k' cs hg s7 hb hk h2 s6 s3 (b8i s4 sq.symm)
 exact ⟨v, w2, fr, r, φ', H', q1, q2, q3, q4, hx0.trans (s8.trans q5), Steps.trans harr q6, q7⟩
section
variable {x : Cx} {todo : List AItem} {R : AV → Heap → Prop} {l : ACode}
theorem Safe.stl {env : Env} {H : Heap} : ∀ (n : Nat) (k : List AItem), Safe x (stl n k) env H R → Safe x k env H R := by
 intro n
 induction n with
 | zero => intro k h; cases k <;> exact h
 | succ n ih =>
  intro k h
  unfold Abs.stl at h
  split at h
  ·rename_i h0; cases h0
  ·rename_i h0; cases h0; exact Safe.seq (ih _ h)
  ·rename_i h0; cases h0; exact Safe.skip (ih _ h)
  ·rename_i h0; cases h0; exact Safe.block (ih _ h)
  ·rename_i h0; cases h0; exact Safe.inBlock (ih _ h)
  ·rename_i h0; cases h0; exact Safe.scope (ih _ h)
  ·rename_i h0; cases h0; exact Safe.inScope (ih _ h)
  ·rename_i h0; cases h0
   split at h
   ·rename_i he; exact Safe.exit he (ih _ h)
   ·exact h
  ·rename_i h0; cases h0; exact Safe.label (ih _ h)
  ·rename_i h0; cases h0
   split at h
   ·rename_i he; exact Safe.goto he (ih _ h)
   ·exact h
  ·exact h
theorem Safe.rg {env : Env} {H : Heap} {k k' : List AItem} {b : Bool} {l : List AIns} (e : Abs.stl 40 k = .code (.region l b) :: k')
  (h : if b = true then dops x.P x.n0 l (fun env' H' => Safe x k' env' H' R) env H else aops x.P x.n0 l (fun env' H' => Safe x k' env' H' R) env H) : Safe x k env H R := by
 refine Safe.stl 40 k ?_
 rw [e]
 cases b
 ·exact Safe.region h
 ·exact Safe.regionD h
theorem Safe.cd {env : Env} {H : Heap} {k k' : List AItem} {s : Src} {a b : ACode} (e : Abs.stl 40 k = .code (.cond s a b) :: k')
  (h : c1m (s.ev env) fun c => if c then Safe x (.code a :: k') env H R else Safe x (.code b :: k') env H R) : Safe x k env H R := by
 refine Safe.stl 40 k ?_
 rw [e]
 exact Safe.cond h
theorem Safe.lp {env : Env} {H : Heap} {k k' : List AItem} {a : ACode} (e : Abs.stl 40 k = .code (.loop a) :: k') (h : Safe x (.inLoop a :: k') env H R) : Safe x k env H R := by
 refine Safe.stl 40 k ?_
 rw [e]
 exact Safe.loop h
theorem Safe.loopP (n : Nat) (E : Nat → Env) (G : Nat → Heap) (P : Nat → Prop) {env : Env} {H : Heap} (he : env = E 0) (hG : H = G 0) (h0 : P 0)
  (step : ∀ i, i < n → P i → (P (i + 1) → Safe x (.inLoop l :: todo) (E (i + 1)) (G (i + 1)) R) → Safe x (.inLoop l :: todo) (E i) (G i) R)
  (last : P n → Safe x (.inLoop l :: todo) (E n) (G n) R) : Safe x (.inLoop l :: todo) env H R := by
 subst he; subst hG
 have key : ∀ k i, i + k = n → P i → Safe x (.inLoop l :: todo) (E i) (G i) R := by
  intro k
  induction k with
  | zero => intro i hi hp; rw [show i = n by omega] at hp ⊢; exact last hp
  | succ k ih => intro i hi hp; exact step i (by omega) hp fun hp' => ih (i + 1) (by omega) hp'
 exact key n 0 (by omega) h0
theorem Safe.loopN (n : Nat) (E : Nat → Env) (G : Nat → Heap) {env : Env} {H : Heap} (he : env = E 0) (hG : H = G 0)
  (step : ∀ i, i < n → Safe x (.inLoop l :: todo) (E (i + 1)) (G (i + 1)) R → Safe x (.inLoop l :: todo) (E i) (G i) R)
  (last : Safe x (.inLoop l :: todo) (E n) (G n) R) : Safe x (.inLoop l :: todo) env H R :=
 Safe.loopP n E G (fun _ => True) he hG trivial (fun i hi _ ih => step i hi (ih trivial)) fun _ => last
theorem Safe.loopW {α : Type} (μ : α → Nat) (E : α → Env) (G : α → Heap) (P : α → Prop) (a0 : α) {env : Env} {H : Heap} (he : env = E a0) (hG : H = G a0) (h0 : P a0)
  (step : ∀ a, P a → (∀ b, P b → μ b < μ a → Safe x (.inLoop l :: todo) (E b) (G b) R) → Safe x (.inLoop l :: todo) (E a) (G a) R) : Safe x (.inLoop l :: todo) env H R := by
 subst he; subst hG
 have key : ∀ k a, μ a ≤ k → P a → Safe x (.inLoop l :: todo) (E a) (G a) R := by
  intro k
  induction k with
  | zero => intro a ha hp; exact step a hp fun b hb hlt => absurd hlt (by omega)
  | succ k ih => intro a ha hp; exact step a hp fun b hb hlt => ih b (by omega) hb
 exact key (μ a0) a0 (Nat.le_refl _) h0
end
theorem Safe.drop {x : Cx} {todo : List AItem} {env : Env} {H L : Heap} {R : AV → Heap → Prop} {o : Option Blk} (hH : a0z H) (hx : x.n0 = H.length) (he : env.all (fun p => nref (lid H L.length) p.2) = true)
  (hL : ∀ b, some b ∈ L → ∀ a ∈ b.flat, nref (lid H L.length) a = true) (h : Safe x todo env (hap H L) R) : Safe x todo env (hap H (L ++ [o])) R := by
 intro φ w tmps b k cs hg hn hb hk htd hsz hok hrep
 have hlen : (hap H (L ++ [o])).length = lid H L.length + 1 := by simp [hap, lid, Nat.add_assoc]
 have lt : ∀ {a}, Ref (· < (hap H (L ++ [o])).length) a → Ref (· ≠ lid H L.length) a → Ref (· < lid H L.length) a := fun h1 h2 => (h1.both h2).mono fun i ⟨q1, q2⟩ => by rw [hlen] at q1; show i < _; omega
 have htake : (hap H (L ++ [o])).take (lid H L.length) = hap H L := by
  simp only [hap, lid, ← List.append_assoc]
  rw [show H.length + L.length = (H ++ L).length by simp, List.take_left']
  rfl
 have hcut := HOk.cut (E := ⟨φ, hap H (L ++ [o]), w⟩) hok (lid H L.length) (by
  intro j bj hj hbj a ha
  refine lt (hok.refs hbj a ha) ?_
  simp only [hap] at hbj
  rcases Nat.lt_or_ge j H.length with hlt | hge
  ·rw [List.getElem?_append_left hlt] at hbj
   exact (hH j bj hbj a ha).mono fun i hi => by show i ≠ H.length + L.length; have : i < H.length := hi; omega
  ·rw [List.getElem?_append_right hge] at hbj
   have hj2 : j - H.length < L.length := by simp only [lid] at hj; omega
   rw [List.getElem?_append_left hj2] at hbj
   exact a0l.1 (hL bj (List.mem_of_getElem? hbj) a ha))
 simp only [htake] at hcut
 obtain ⟨v, w', fr, r, φ', H', q1, q2, q3, q4, q5, q6⟩ := h φ w tmps b k cs hg (by rw [hx]; simp [hap]) hb hk htd hsz hcut.1 (fun t => (hrep t).mono hcut.2 (lt (hrep t).ref (b7l he t)))
 exact ⟨v, w', fr, r, φ', H', q1, q2, q3, q4, (hcut.2.sub fun i hi => by rw [hx] at hi; show i < H.length + L.length; have : i < H.length := hi; omega).trans q5, q6⟩
theorem Safe.dropC {x : Cx} {todo : List AItem} {env : Env} {H L : Heap} {R : AV → Heap → Prop} {o : Option Blk} (hH : a0z H) (hx : x.n0 = H.length) (he : env.all (fun p => nref (lid H L.length) p.2) = true)
  (hL : ∀ b, some b ∈ L → ∀ a ∈ b.flat, Cl a) (h : Safe x todo env (hap H L) R) : Safe x todo env (hap H (L ++ [o])) R :=
 Safe.drop hH hx he (fun b hb a ha => a0J (hL b hb a ha)) h
theorem a0h.intro {P : Program} {mu : Nat → Nat → Bool} {f : FuncId} {fn : Func} (hf : P.funcs[f]? = some fn) {ac : ACode} {rs : List ResV} {nt : Nat} (hc : fchk P mu fn = some (ac, rs, nt))
  {args : List AV} {H : Heap} {R : AV → Heap → Prop} (ha : args.length ≤ nt) (h : a0z H → Safe ⟨P, mu, f, nt, rs, H.length⟩ [.code ac] (b2o 0 args) H R) : a0h P f args H R := by
 unfold fchk at hc
 split at hc
 ·simp at hc
 ·rename_i hname
  split at hc
  ·rename_i c hb
   split at hc
   ·rename_i ac' rs' h1 h2
    cases hc
    refine ⟨⟨fn, hf, by simpa using hname, by simp [hb]⟩, fun φ w vs hok hl hr => ?_⟩
    intro cs
    let b : Frame := { (default : Frame) with fn := f, kind := .normal }
    have henter : Frame.enter P f vs.toArray .normal = b.at ⟨vs.toArray ++ Array.replicate (fn.ntmps - vs.toArray.size) undef, []⟩ [.code c] := by
     simp [Frame.enter, Frame.at, hf, hb, b]
    obtain ⟨v, w', fr, r, φ', H', q1, q2, q3, q4, q5, q6, q7, q8⟩ := h (fun id blk hl => hok.refs hl) φ w (vs.toArray ++ Array.replicate (fn.ntmps - vs.toArray.size) undef) b [.code c] cs
     ⟨fn, hf, h2⟩ (Nat.le_refl _) rfl rfl ⟨h1, trivial⟩ (by simp; omega) hok (by
      intro t
      rw [b4e]
      simp only [Nat.zero_le, if_true, Nat.sub_zero]
      rcases Nat.lt_or_ge t args.length with ht | ht
      ·rw [List.getElem?_eq_getElem ht, Option.getD_some]
       have : (vs.toArray ++ Array.replicate (fn.ntmps - vs.toArray.size) undef).getD t undef = vs[t]'(by omega) := by
        rw [Array.getD_eq_getD_getElem?, Array.getElem?_append_left (by simp; omega)]
        simp [List.getElem?_eq_getElem (show t < vs.length by omega)]
       rw [this]
       exact hr t _ _ (List.getElem?_eq_getElem (by omega)) (List.getElem?_eq_getElem ht)
      ·rw [List.getElem?_eq_none ht]; exact .top _)
    rw [← henter] at q6
    exact ⟨.panicked [{ v := v, recovered := false }], w', fr, ⟨v, r, φ', H', rfl, q1, q2, q3, q4, q5⟩, q6, q7, q8⟩
   ·simp at hc
  ·simp at hc
theorem a0h.cut {P : Program} {f : FuncId} {args : List AV} {H : Heap} {r : AV} (hr : Ref (· < H.length) r) (h : a0h P f args H fun r' H' => r' = r ∧ ∃ L, H' = hap H L) : a0h P f args H fun r' H' => r' = r ∧ H' = H := by
 refine ⟨h.1, fun φ w vs hok hl hrep => (h.2 φ w vs hok hl hrep).mono ?_⟩
 rintro e w' ⟨v, r', φ', H', rfl, ⟨rfl, L, rfl⟩, q1, q2, q3, q4⟩
 have hfree : ∀ (j : Nat) bj, j < H.length → (hap H L)[j]? = some (some bj) → ∀ a ∈ bj.flat, Ref (· < H.length) a := by
  intro j bj hj hb
  simp only [hap] at hb
  rw [List.getElem?_append_left hj] at hb
  exact hok.refs hb
 have hcut := HOk.cut q1 H.length hfree
 have ht : (hap H L).take H.length = H := by simp [hap]
 simp only [ht] at hcut
 refine ⟨v, r', φ', H, rfl, ⟨rfl, rfl⟩, hcut.1, q2.mono hcut.2 hr, Nat.le_refl _, q4.trans hcut.2⟩
section
variable {x : Cx} {todo : List AItem} {env : Env} {H : Heap} {R : AV → Heap → Prop}
theorem Safe.nilrow (t wd : Nat) {L : Heap} (hwd : 0 < wd) (ht : look env t = .nil) (h : Safe x todo ((t, .mu (lid H L.length) 0 0 none) :: env) (hap H (L ++ [some ⟨wd, []⟩])) R) : Safe x todo env (hap H L) R := by
 intro φ w tmps bf k cs hg hn hb hk htd hsz hok he
 obtain ⟨hok', hx⟩ := hok.alloc (w := w) rfl rfl rfl (Nat.le_refl _) none (by simp) (fun _ _ => rfl) ⟨wd, []⟩ hwd (by simp) (.inl ⟨rfl, rfl⟩)
 simp only [hap, List.append_assoc] at hok' hx
 obtain ⟨v, w', fr, r, φ', H', q1, q2, q3, q4, q5, q6⟩ := h _ w tmps bf k cs hg (by simp only [hap, List.length_append] at hn ⊢; omega) hb hk htd hsz (by simpa [hap] using hok') (fun j => by
  simp only [look]
  split
  ·rename_i hj
   subst hj
   have h0 := he t
   rw [ht] at h0
   have hv : tmps.getD t undef = .slice none 0 0 := by
    generalize tmps.getD t undef = u at h0
    cases h0 with
    | nil => rfl
    | dead v a i hr hd h1 => simp [AV.ref] at hr
   rw [hv]
   refine .mu0 ⟨wd, []⟩ _ 0 none ?_ ?_ (by simp)
   ·simp only [hap, lid]
    rw [← List.append_assoc, List.getElem?_append_right (by simp)]; simp
   ·simp [lid, hap]
  ·have := (he j).mono' hx
   simpa [hap] using this)
 refine ⟨v, w', fr, r, φ', H', q1, q2, q3, q4, ?_, q6⟩
 have hx' := hx.sub (T := (· < x.n0)) (fun i hi => Nat.lt_of_lt_of_le hi hn)
 exact hx'.trans (by simpa [hap] using q5)
end
theorem a0h.open {P : Program} {mu : Nat → Nat → Bool} {f : FuncId} {fn : Func} (hf : P.funcs[f]? = some fn) {ac : ACode} {rs : List ResV} {nt : Nat} (hc : fchk P mu fn = some (ac, rs, nt))
  {args : List AV} {H : Heap} {R : AV → Heap → Prop} (ha : args.length ≤ nt) (h : a0z H → Safe ⟨P, mu, f, nt, rs, H.length⟩ [.code ac] (b2o 0 args) (hap H []) R) : a0h P f args H R :=
 a0h.intro hf hc ha fun hH => by
  have := h hH
  rw [a1Y] at this
  exact this
section
variable {x : Cx} {todo : List AItem} {env : Env} {H : Heap} {R : AV → Heap → Prop}
theorem Safe.raw {id : Nat} {ops : Array Oper} {d : Bool} {k : List AItem} (e : Abs.stl 40 k = .code (.raw id ops d) :: todo) (v : Value) (r : AV) (hr : ∀ E, Rep E v r) (hR : R r H)
  (h : ∀ φ w tmps, HOk ⟨φ, H, w⟩ → a0r ⟨φ, H, w⟩ env tmps → tmps.size = x.nt → (Code.region id ops d).wp x.P (fun e a w' => e = .panic [{ v := v, recovered := false }] ∧ w' = w ∧ a.defers = []) ⟨tmps, []⟩ w) : Safe x k env H R := by
 refine Safe.stl 40 k ?_
 rw [e]
 intro φ w tmps b k cs hg hn hb hk ht hsz hok he
 obtain ⟨i, k', rfl, h1, h2⟩ := a0j ht
 obtain ⟨c, rfl, h1⟩ := a0m h1
 obtain rfl := c8m h1
 obtain ⟨e, a', w', ⟨rfl, rfl, hd⟩, harr⟩ := h φ w tmps hok he hsz b k' cs
 obtain ⟨todo', hs⟩ := harr
 obtain ⟨fn, hf, hc⟩ := hg
 exact ⟨v, w', _, r, φ, H, hR, hok, hr _, hn, Ext.refl _ _, hs, hb, rfl, hd, fn, hb ▸ hf⟩
end
end Pan
end Go.Abs
namespace Go.Abs
def b0a (P : Program) (f : FuncId) (n : Nat) (args : List AV) (H : Heap) (R : AV → Heap → Prop) : Prop :=
 a8d P f ∧ n ≤ H.length ∧ ∀ (φ : Nat → Option Nat) (w : World) (vs : List Value), HOk ⟨φ, H, w⟩ → vs.length = args.length → (∀ (k : Nat) v a, vs[k]? = some v → args[k]? = some a → Rep ⟨φ, H, w⟩ v a) →
  Calls P f vs.toArray w fun e w' => ∃ v r φ' H', e = .returned v ∧ R r H' ∧ HOk ⟨φ', H', w'⟩ ∧ Rep ⟨φ', H', w'⟩ v r ∧ n ≤ H'.length ∧ Ext (· < n) ⟨φ, H, w⟩ ⟨φ', H', w'⟩
theorem b0a.mono {P : Program} {f : FuncId} {n : Nat} {args : List AV} {H : Heap} {R R' : AV → Heap → Prop} (h : b0a P f n args H R) (hr : ∀ r H', R r H' → R' r H') : b0a P f n args H R' :=
 ⟨h.1, h.2.1, fun φ w vs h1 h2 h3 => (h.2.2 φ w vs h1 h2 h3).mono fun e w' ⟨v, r, φ', H', a, b, c⟩ => ⟨v, r, φ', H', a, hr _ _ b, c⟩⟩
theorem a0h.toN {P : Program} {f : FuncId} {n : Nat} {args : List AV} {H : Heap} {R : AV → Heap → Prop} (hn : n ≤ H.length) (h : a0h P f args H R) : b0a P f n args H R :=
 ⟨h.1, hn, fun φ w vs h1 h2 h3 => (h.2 φ w vs h1 h2 h3).mono fun e w' ⟨v, r, φ', H', a, b, c1, c2, c3, c4⟩ => ⟨v, r, φ', H', a, b, c1, c2, Nat.le_trans hn c3, c4.sub fun i hi => Nat.lt_of_lt_of_le hi hn⟩⟩
theorem b0a.open {P : Program} {mu : Nat → Nat → Bool} {f : FuncId} {fn : Func} (hf : P.funcs[f]? = some fn) {ac : ACode} {rs : List ResV} {nt : Nat} (hc : fchk P mu fn = some (ac, rs, nt))
  {n : Nat} {args : List AV} {H : Heap} {R : AV → Heap → Prop} (ha : args.length ≤ nt) (hn : n ≤ H.length) (h : a0z H → Safe ⟨P, mu, f, nt, rs, n⟩ [.code ac] (b2o 0 args) (hap H []) R) : b0a P f n args H R := by
 unfold fchk at hc
 split at hc
 ·simp at hc
 ·rename_i hname
  split at hc
  ·rename_i c hb
   split at hc
   ·rename_i ac' rs' h1 h2
    cases hc
    refine ⟨⟨fn, hf, by simpa using hname, by simp [hb]⟩, hn, fun φ w vs hok hl hr => ?_⟩
    intro cs
    let b : Frame := { (default : Frame) with fn := f, kind := .normal }
    have henter : Frame.enter P f vs.toArray .normal = b.at ⟨vs.toArray ++ Array.replicate (fn.ntmps - vs.toArray.size) undef, []⟩ [.code c] := by
     simp [Frame.enter, Frame.at, hf, hb, b]
    have h' := h (fun id blk hl => hok.refs hl)
    rw [a1Y] at h'
    obtain ⟨v, w', fr, r, φ', H', q1, q2, q3, q4, q5, q6, q7, q8⟩ := h' φ w (vs.toArray ++ Array.replicate (fn.ntmps - vs.toArray.size) undef) b [.code c] cs
     ⟨fn, hf, h2⟩ hn rfl rfl ⟨h1, trivial⟩ (by simp; omega) hok (by
      intro t
      rw [b4e]
      simp only [Nat.zero_le, if_true, Nat.sub_zero]
      rcases Nat.lt_or_ge t args.length with ht | ht
      ·rw [List.getElem?_eq_getElem ht, Option.getD_some]
       have : (vs.toArray ++ Array.replicate (fn.ntmps - vs.toArray.size) undef).getD t undef = vs[t]'(by omega) := by
        rw [Array.getD_eq_getD_getElem?, Array.getElem?_append_left (by simp; omega)]
        simp [List.getElem?_eq_getElem (show t < vs.length by omega)]
       rw [this]
       exact hr t _ _ (List.getElem?_eq_getElem (by omega)) (List.getElem?_eq_getElem ht)
      ·rw [List.getElem?_eq_none ht]; exact .top _)
    rw [← henter] at q6
    exact ⟨.returned v, w', fr, ⟨v, r, φ', H', rfl, q1, q2, q3, q4, q5⟩, q6, q7, q8⟩
   ·simp at hc
  ·simp at hc
def a2q (env : Env) : AOp → Option (FuncId × List AV)
 | .call f args => some (f, args.map (·.ev env))
 | .callv g args => match g.ev env with
  | .fn f caps => some (f, args.map (·.ev env) ++ caps)
  | .bfn f bs => some (f, bs ++ args.map (·.ev env))
  | _ => none
 | _ => none
def b4o (n : Nat) (env : Env) : Prop := ∀ p ∈ env, Ref (· < n) p.2
theorem b4o.look {n : Nat} {env : Env} (h : b4o n env) (t : Nat) : Ref (· < n) (look env t) := by
 induction env with
 | nil => exact .top
 | cons p env ih =>
  simp only [Abs.look]
  split
  ·exact h p (by simp)
  ·exact ih fun q hq => h q (by simp [hq])
theorem c0Q (n : Nat) : b4o n [] := fun p hp => by simp at hp
theorem b7y {n t : Nat} {a : AV} {env : Env} (h : Ref (· < n) a) (k : b4o n env) : b4o n ((t, a) :: env) := fun p hp => by
 rcases List.mem_cons.1 hp with rfl | hp
 ·exact h
 ·exact k p hp
def d9V (P : Program) (n0 : Nat) (c : AOp) (d : Option Nat) (K : Env → Heap → Prop) (env : Env) (H : Heap) : Prop :=
 ∃ n f aXs, n0 ≤ n ∧ a2q env c = some (f, aXs) ∧ b4o n env ∧ b0a P f n aXs H fun r H' => K (put d r env) H'
section
variable {P : Program} {nt : Nat}
theorem d2X {n0 : Nat} {E : Emb} {env : Env} {tmps : Array Value} {o : Oper} {mutable : Bool} {ao : AOp} (hc : caop P mutable o.op = some ao) (hd : d2K nt o.dst = true) (hsz : tmps.size = nt)
  (hok : HOk E) (he : a0r E env tmps) (hn : n0 ≤ E.H.length) {K : Env → Heap → Prop} (h : d9V P n0 ao o.dst K env E.H) {Q : Exit → Act → World → Prop} {next : Act → World → Prop} (hnext : ∀ a w, Kc n0 nt E K a w → next a w) :
  o.wp P ⟨tmps, []⟩ E.w next Q := by
 subst hsz
 obtain ⟨n, f, aXs, hnn, hcal, henv, hcall⟩ := h
 have fin : ∀ (φ' : Nat → Option Nat) (H' : Heap) (w' : World) (v : Value) (a : AV), K (put o.dst a env) H' → HOk ⟨φ', H', w'⟩ → Rep ⟨φ', H', w'⟩ v a → n ≤ H'.length → Ext (· < n) E ⟨φ', H', w'⟩ →
   next ((Act.mk tmps []).put o.dst v) w' := by
  intro φ' H' w' v a h1 h2 h3 h5 h6
  refine hnext _ _ ⟨φ', _, H', h1, h2, a2i (fun t => (he t).mono h6 (henv.look t)) hd h3, ?_, a4c _ _ _, Nat.le_trans hnn h5, h6.sub fun i hi => Nat.lt_of_lt_of_le hi hnn⟩
  cases o.dst <;> rfl
 have callb : ∀ (c : Call) (g : Operand) (f : FuncId) (bs caps : List Value) (aXs : List AV) (vs : List Value), o.op = .call c → c.callee = .value g → Act.eval ⟨tmps, []⟩ g = .func (.func f) bs.toArray caps.toArray →
   vs = bs ++ c.args.toList.map (Act.eval ⟨tmps, []⟩) ++ caps → vs.length = aXs.length → (∀ (k : Nat) v a, vs[k]? = some v → aXs[k]? = some a → Rep E v a) →
   b0a P f n aXs E.H (fun r H' => K (put o.dst r env) H') → o.wp P ⟨tmps, []⟩ E.w next Q := by
  intro c g f bs caps aXs vs ho hcal hg hvs hl hr ha
  have hx := c4N (w := E.w) ho hcal hg ha.1
  simp only [Oper.wp, hx, Oper.upon]
  have harr : bs.toArray ++ c.args.map (Act.eval ⟨tmps, []⟩) ++ caps.toArray = vs.toArray := by
   rw [hvs]
   apply Array.ext'
   simp
  rw [harr]
  refine (ha.2.2 E.φ E.w vs hok hl hr).mono ?_
  rintro e w' ⟨v, r, φ', H', rfl, q1, q2, q3, q4, q5⟩
  exact fin φ' H' w' v r q1 q2 q3 q4 q5
 unfold caop at hc
 split at hc
 ·cases hc; simp [a2q] at hcal
 ·split at hc
  ·cases hc; simp [a2q] at hcal
  ·split at hc
   ·rename_i c ho
    split at hc
    ·rename_i f' hcal'
     simp only [Option.map_eq_some_iff] at hc
     obtain ⟨ss, hs, hao⟩ := hc
     obtain ⟨hl, hr⟩ := a6a he hs
     have : (f', ss.map (·.ev env)) = (f, aXs) := by
      split at hao
      ·subst hao; simp [a2q] at hcal
      ·subst hao; simpa [a2q] using hcal
     cases this
     exact callb c (.func f) f [] [] _ _ ho hcal' rfl rfl (by simp [hl]) (by simpa using hr) hcall
    ·rename_i t hcal'
     simp only [Option.map_eq_some_iff] at hc
     obtain ⟨ss, hs, hao⟩ := hc
     obtain ⟨hl, hr⟩ := a6a he hs
     have hg := he t
     have hcv : a2q env (.callv (.t t) ss) = some (f, aXs) := by
      split at hao
      ·subst hao; simp [a2q] at hcal
      ·subst hao; exact hcal
     simp only [a2q, Src.ev] at hcv
     split at hcv
     ·rename_i f2 caps hcap
      cases hcv
      rw [hcap] at hg
      generalize hgv : tmps.getD t undef = gv at hg
      cases hg with
      | fn _ vs cs hlen hrep =>
       exact callb c (.tmp t) f [] vs _ (c.args.toList.map (Act.eval ⟨tmps, []⟩) ++ vs) ho hcal' hgv (by simp) (by simp [hl, hlen]) (a3H (Q := fun u b => Rep E u b) (by simp [hl]) hr hrep) hcall
      | dead v a id hr hd h1 => simp [AV.ref] at hr
     ·rename_i f2 bs hcap
      cases hcv
      rw [hcap] at hg
      generalize hgv : tmps.getD t undef = gv at hg
      cases hg with
      | bfn _ vs cs hlen hrep =>
       exact callb c (.tmp t) f vs [] _ (vs ++ c.args.toList.map (Act.eval ⟨tmps, []⟩)) ho hcal' hgv (by simp) (by simp [hl, hlen]) (a3H (Q := fun u b => Rep E u b) hlen hrep hr) hcall
      | dead v a id hr hd h1 => simp [AV.ref] at hr
     ·cases hcv
    ·simp at hc
   ·rename_i x str ho
    split at hc
    ·cases hc
    ·simp only [Option.map_eq_some_iff] at hc
     obtain ⟨s, hs, rfl⟩ := hc
     simp [a2q] at hcal
   ·simp at hc
theorem c5h {mu : Nat → Nat → Bool} {rid : Nat} {ops : Array Oper} {n0 : Nat} {c : AOp} {d : Option Nat} {l2 : List AIns} {K : Env → Heap → Prop} {Q : Exit → Act → World → Prop} {E0 : Emb} (hQ : ∀ a w, Kc n0 nt E0 K a w → Q .normal a w) :
  ∀ (l0 : List Oper) (k : Nat) (l : List AIns), a5S P mu nt rid ops k l0 = some (l ++ ⟨d, none, c⟩ :: l2) → ∀ (E : Emb) (env : Env) (tmps : Array Value), tmps.size = nt → HOk E → a0r E env tmps → n0 ≤ E.H.length → Ext (· < n0) E0 E →
   aops P n0 l (fun env' H' => d9V P n0 c d (aops P n0 l2 K) env' H') env E.H → wpList P ops Q l0 ⟨tmps, []⟩ E.w
 | [], k, l, hl, E, env, tmps, hsz, hok, he, hn, hx, h => by
  cases l <;> simp [a5S] at hl
 | o :: l0, k, [], hl, E, env, tmps, hsz, hok, he, hn, hx, h => by
  simp only [a5S] at hl
  split at hl
  ·rename_i i' l' hi hl'
   rw [List.nil_append] at hl
   obtain ⟨rfl, rfl⟩ := List.cons.inj (Option.some.inj hl)
   unfold cins at hi
   split at hi
   ·rename_i hd
    split at hi
    ·rename_i g a hg ha
     simp only [Option.some.injEq, AIns.mk.injEq] at hi
     obtain ⟨rfl, rfl, rfl⟩ := hi
     simp only [aops] at h
     have hw := a8i (o := o) he hg
     simp only at hw
     unfold wpList
     rw [if_pos hw]
     refine .inl ?_
     refine d2X ha hd hsz hok he hn h ?_
     intro a w ⟨φ, env', H', q1, q2, q3, q4, q5, q6, q7⟩
     have : a = ⟨a.tmps, []⟩ := by cases a; simp at q4; simp [q4]
     rw [this]
     exact a8f hQ l0 (k + 1) l' hl' ⟨φ, H', w⟩ env' a.tmps q5 q2 q3 q6 (hx.trans q7) q1
    ·simp at hi
   ·simp at hi
  ·simp at hl
 | o :: l0, k, i :: l, hl, E, env, tmps, hsz, hok, he, hn, hx, h => by
  simp only [a5S] at hl
  split at hl
  ·rename_i i' l' hi hl'
   rw [List.cons_append] at hl
   obtain ⟨rfl, rfl⟩ := List.cons.inj (Option.some.inj hl)
   unfold cins at hi
   split at hi
   ·rename_i hd
    split at hi
    ·rename_i g a hg ha
     cases hi
     have next : ∀ a w, Kc n0 nt E (aops P n0 l (fun env' H' => d9V P n0 c d (aops P n0 l2 K) env' H')) a w → wpList P ops Q l0 a w := by
      intro a w ⟨φ, env', H', q1, q2, q3, q4, q5, q6, q7⟩
      have : a = ⟨a.tmps, []⟩ := by cases a; simp at q4; simp [q4]
      rw [this]
      exact c5h hQ l0 (k + 1) l hl' ⟨φ, H', w⟩ env' a.tmps q5 q2 q3 q6 (hx.trans q7) q1
     have hw := a8i (o := o) he hg
     simp only [aops] at h
     unfold wpList
     split at h
     ·simp only at hw
      rw [if_pos hw]
      exact .inl (a2t ha hd hsz hok he hn h next)
     ·rename_i t want _
      simp only at hw
      simp only [a9y] at h
      have pass : Region.wanted o (yielded ops tmps) = false → aops P n0 l (fun env' H' => d9V P n0 c d (aops P n0 l2 K) env' H') (put o.dst (.tup []) env) E.H → wpList P ops Q (o :: l0) ⟨tmps, []⟩ E.w := by
       intro hf h
       unfold wpList
       rw [if_neg (by rw [hf]; simp)]
       refine next _ _ ⟨E.φ, _, E.H, h, hok, ?_, ?_, ?_, hn, Ext.refl _ _⟩
       ·subst hsz; exact a2i he hd b2M
       ·cases o.dst <;> rfl
       ·rw [a4c]; exact hsz
      split at h
      ·rename_i c' hc
       have hw' := hw.1 c' hc
       split at h
       ·rename_i hcw
        rw [if_pos (by rw [hw', hcw]; simp)]
        exact .inl (a2t ha hd hsz hok he hn h next)
       ·rename_i hcw
        have := pass (by rw [hw']; simpa using hcw) h
        unfold wpList at this
        exact this
      ·rename_i hc
       have hw' := hw.2 hc
       rw [if_neg (by cases want <;> simp)] at h
       have := pass hw' h
       unfold wpList at this
       exact this
      ·exact h.elim
    ·simp at hi
   ·simp at hi
  ·simp at hl
theorem e8o {n0 : Nat} {ops : Array Oper} {Q : Exit → Act → World → Prop} {i : Nat} {o : Oper} {mutable : Bool} {x : AIns} (ho : ops[i]? = some o) (hi : cins P mutable nt ops o = some x) {E : Emb} {env : Env} {tmps : Array Value} (hsz : tmps.size = nt)
  (hok : HOk E) (he : a0r E env tmps) (hn : n0 ≤ E.H.length) {K : Env → Heap → Prop} (h : aops P n0 [x] K env E.H) {next : Act → World → Prop} (hnext : ∀ a w, Kc n0 nt E K a w → next a w) : Go.wpOp P ops Q i next ⟨tmps, []⟩ E.w := by
 unfold Go.wpOp
 rw [ho]
 simp only
 unfold cins at hi
 split at hi
 ·rename_i hd
  split at hi
  ·rename_i g a hg ha
   cases hi
   have hw := a8i (o := o) he hg
   simp only [aops] at h
   split at h
   ·simp only at hw
    rw [if_pos hw]
    exact .inl (a2t ha hd hsz hok he hn h hnext)
   ·rename_i t want _
    simp only at hw
    simp only [a9y] at h
    have pass : K (put o.dst (.tup []) env) E.H → next ((Act.mk tmps []).put o.dst undef) E.w := by
     intro h
     refine hnext _ _ ⟨E.φ, _, E.H, h, hok, ?_, ?_, ?_, hn, Ext.refl _ _⟩
     ·subst hsz; exact a2i he hd b2M
     ·cases o.dst <;> rfl
     ·rw [a4c]; exact hsz
    split at h
    ·rename_i c hc
     have hw' := hw.1 c hc
     split at h
     ·rename_i hcw
      rw [if_pos (by rw [hw', hcw]; simp)]
      exact .inl (a2t ha hd hsz hok he hn h hnext)
     ·rename_i hcw
      rw [if_neg (by rw [hw']; simpa using hcw)]
      exact pass h
    ·rename_i hc
     have hw' := hw.2 hc
     rw [if_neg (by rw [hw']; simp)]
     rw [if_neg (by cases want <;> simp)] at h
     exact pass h
    ·exact h.elim
  ·simp at hi
 ·simp at hi
theorem c4H {l : Array Bool} {i j : Nat} (b d : Bool) (h : i ≠ j) : (l.setIfInBounds i b).getD j d = l.getD j d := by
 rw [Array.getD_eq_getD_getElem?, Array.getElem?_setIfInBounds_ne h, ← Array.getD_eq_getD_getElem?]
theorem e7X {n0 : Nat} {ops : Array Oper} {Q : Exit → Act → World → Prop} {mu : Nat → Nat → Bool} {rid : Nat} {l : List AIns} (hl : a5S P mu nt rid ops 0 ops.toList = some l) (hback : b3T 0 ops.toList = true) {E0 : Emb} (J : (Nat → Bool) → Env → Heap → Prop)
  (hstep : ∀ (lst : Nat → Bool) (i : Nat) (o : Oper) (x : AIns), ops[i]? = some o → l[i]? = some x → lst i = false → (∀ e ∈ o.after, Region.binds .any e = true → lst e.on = true) → ∀ env H, J lst env H → aops P n0 [x] (J fun j => lst j || j == i) env H)
  (hQ : ∀ lst : Nat → Bool, (∀ j, j < ops.size → lst j = true) → ∀ a w, Kc n0 nt E0 (J lst) a w → Q .normal a w) :
  ∀ (fuel : Nat) (rem : List Nat) (listed : Array Bool), listed.size = ops.size → rem.Nodup → (∀ i, i ∈ rem ↔ listed.getD i true = false) → rem.length ≤ fuel → ∀ a w, Kc n0 nt E0 (J fun j => listed.getD j false) a w → wpAny P .any ops Q fuel listed a w := by
 obtain ⟨hlen, hget⟩ := a6L _ _ _ hl
 have done : ∀ listed : Array Bool, listed.size = ops.size → (∀ i, listed.getD i true ≠ false) → ∀ a w, Kc n0 nt E0 (J fun j => listed.getD j false) a w → Q .normal a w := by
  intro listed hsz hm a w hk
  refine hQ _ (fun j hj => ?_) a w hk
  have := hm j
  have hj' : j < listed.size := by omega
  simp [hj'] at this ⊢
  exact this
 have minr : ∀ (k : Nat) (listed : Array Bool), listed.size = ops.size → (∀ j, j < k → listed.getD j true ≠ false) → listed.getD k true = false → k ∈ Region.ready .any ops listed := by
  intro k listed hsz hb hk
  have hlt : k < ops.size := by
   rw [← hsz]
   rcases Nat.lt_or_ge k listed.size with h' | h'
   ·exact h'
   ·simp [Array.getElem?_eq_none h'] at hk
  rw [mem_ready]
  refine ⟨hk, ops[k], by simp [hlt], fun e he hbd => ?_⟩
  have hlt2 := a9P hback k ops[k] (by simp [hlt]) e he hbd
  have hno := hb e.on (by omega)
  have hlt3 : e.on < listed.size := by omega
  simp [hlt3] at hno ⊢
  exact hno
 have noready : ∀ listed : Array Bool, listed.size = ops.size → Region.ready .any ops listed = [] → ∀ i, listed.getD i true ≠ false := by
  intro listed hsz hr i
  induction i using Nat.strongRecOn with
  | _ i ih =>
   intro hi
   have := minr i listed hsz ih hi
   rw [hr] at this
   cases this
 intro fuel
 induction fuel with
 | zero =>
  intro rem listed hsz hnd hm hf a w hk
  have : rem = [] := List.length_eq_zero_iff.1 (Nat.le_zero.1 hf)
  subst this
  have hall : ∀ i, listed.getD i true ≠ false := fun i h => by have := (hm i).2 h; simp at this
  refine ⟨?_, done listed hsz hall a w hk⟩
  cases hr : Region.ready .any ops listed with
  | nil => rfl
  | cons i r => exact absurd (mem_ready.1 (show i ∈ Region.ready .any ops listed by rw [hr]; simp)).1 (hall i)
 | succ fuel ih =>
  intro rem listed hsz hnd hm hf a w hk
  refine ⟨fun hr => done listed hsz (noready listed hsz hr) a w hk, fun i hi => ?_⟩
  obtain ⟨hun, o, ho, hedges⟩ := mem_ready.1 hi
  have himem := (hm i).2 hun
  obtain ⟨x, hx, hcx⟩ := hget i o (by simpa using ho)
  have hilt : i < listed.size := by
   rcases Nat.lt_or_ge i listed.size with h' | h'
   ·exact h'
   ·simp [Array.getElem?_eq_none h'] at hun
  obtain ⟨φ, env, H, q1, q2, q3, hds, q4, q5, q6⟩ := hk
  have ha : a = ⟨a.tmps, []⟩ := by cases a; simp at hds; simp [hds]
  rw [ha]
  have hlf : listed.getD i false = false := by
   simp [hilt] at hun ⊢
   exact hun
  refine e8o ho hcx (E := ⟨φ, H, w⟩) q4 q2 q3 q5 (hstep (fun j => listed.getD j false) i o x ho (by simpa using hx) hlf hedges env H q1) ?_
  rintro a' w' ⟨φ', env', H', r1, r2, r3, hds', r4, r5, r6⟩
  refine ih (rem.erase i) (listed.setIfInBounds i true) (by simp [hsz]) (hnd.erase i) (fun j => ?_) (by rw [List.length_erase_of_mem himem]; have := List.length_pos_of_mem himem; omega) a' w' ⟨φ', env', H', ?_, r2, r3, hds', r4, r5, q6.trans r6⟩
  ·rw [hnd.mem_erase_iff]
   by_cases hj : j = i
   ·subst hj; simp [hilt]
   ·rw [c4H true true (Ne.symm hj), ← hm j]; simp [hj]
  ·have : (fun j => (listed.setIfInBounds i true).getD j false) = fun j => listed.getD j false || j == i := by
    funext j
    by_cases hj : j = i
    ·subst hj; simp [hilt]
    ·rw [c4H true false (Ne.symm hj)]; simp [hj]
   rw [this]; exact r1
end
section
variable {x : Cx} {todo : List AItem} {R : AV → Heap → Prop}
theorem Safe.rgN {env : Env} {H : Heap} {k k' : List AItem} {l : List AIns} (l1 l2 : List AIns) {d : Option Nat} {c : AOp} (e : Abs.stl 40 k = .code (.region l false) :: k') (e2 : l = l1 ++ ⟨d, none, c⟩ :: l2)
  (h : aops x.P x.n0 l1 (fun env' H' => d9V x.P x.n0 c d (aops x.P x.n0 l2 fun env2 H2 => Safe x k' env2 H2 R) env' H') env H) : Safe x k env H R := by
 refine Safe.stl 40 k ?_
 rw [e]
 intro φ w tmps b k cs hg hn hb hk ht hsz hok he
 obtain ⟨i, k', rfl, h1, h2⟩ := a0j ht
 obtain ⟨c, rfl, h1⟩ := a0m h1
 obtain ⟨id, ops, rfl, g1, _⟩ := a5R h1
 rw [e2] at g1
 have hw := c5h (P := x.P) (nt := x.nt) (rid := id) (ops := ops) (n0 := x.n0) (E0 := ⟨φ, H, w⟩) (l2 := l2)
  (Q := fun e a w' => e = .normal ∧ Kc x.n0 x.nt ⟨φ, H, w⟩ (fun env' H' => Safe x _ env' H' R) a w') (fun a w h => ⟨rfl, h⟩) ops.toList 0 l1 g1 ⟨φ, H, w⟩ env tmps hsz hok he hn (Ext.refl _ _) h
 obtain ⟨e, a', w', ⟨rfl, φ1, env1, H1, s1, s2, s3, s4, s5, s6, s7⟩, harr⟩ := wp_region_list hw b k' cs
 have ha : a' = ⟨a'.tmps, []⟩ := by cases a'; simp at s4; simp [s4]
 rw [ha] at harr
 obtain ⟨v, w2, fr, r, φ', H', q1, q2, q3, q4, q5, q6, q7⟩ := s1 φ1 w' a'.tmps b k' cs hg s6 hb hk h2 s5 s2 s3
 exact ⟨v, w2, fr, r, φ', H', q1, q2, q3, q4, s7.trans q5, Steps.trans harr q6, q7⟩
end
end Go.Abs

/- Regions whose order is drawn, with two boxes side by side, or with a row looked at before another is written. -/
import Derived.Test.YtmbjamifiadncaaDoorA12
set_option linter.unusedVariables false
set_option linter.unusedSimpArgs false
namespace Go.Abs

def locNe (a b : AV) : Prop := match a, b with
  | .loc i _ _, .loc j _ _ => i ≠ j
  | _, _ => False
theorem locNe_loc (i j k l o p : Nat) : locNe (.loc i k o) (.loc j l p) = (i ≠ j) := rfl
/-- What is asked of a pair: of two, that they point into two rows; of one alone, that it names no row. -/
def sdP (e : Env) (p : Nat × Nat) : Prop := if p.1 = p.2 then Cl (look e p.1) else locNe (look e p.1) (look e p.2)
def sdOk : List (Nat × Nat) → Env → Prop
  | [], _ => True
  | p :: r, e => sdP e p ∧ sdOk r e
theorem sdOk_nil (e : Env) : sdOk [] e = True := rfl
theorem sdOk_cons (a b : Nat) (r : List (Nat × Nat)) (e : Env) : sdOk ((a, b) :: r) e = ((if a = b then Cl (look e a) else locNe (look e a) (look e b)) ∧ sdOk r e) := rfl
theorem sdOk_mem : ∀ {sd : List (Nat × Nat)} {e : Env}, sdOk sd e → ∀ p ∈ sd, sdP e p
  | [], _, _, p, h => by cases h
  | q :: r, e, h, p, hp => by
    rcases List.mem_cons.1 hp with rfl | hp
    · exact h.1
    · exact sdOk_mem h.2 p hp
theorem sdOk_cl {sd : List (Nat × Nat)} {e : Env} (h : sdOk sd e) {t : Nat} (ht : sd.contains (t, t) = true) : Cl (look e t) := by
  have := sdOk_mem h (t, t) (by simpa using ht)
  unfold sdP at this
  rwa [if_pos rfl] at this
theorem locNe_some {a b : AV} (h : locNe a b) : ∃ i j k l o p, a = .loc i k o ∧ b = .loc j l p ∧ i ≠ j := by
  cases a <;> cases b <;> first | exact h.elim | exact ⟨_, _, _, _, _, _, rfl, rfl, h⟩

section
variable {P : Program} {n0 : Nat}
theorem St.look {x : AIns} {e : Env} {H : Heap} {e1 : Env} {H1 : Heap} (s : St P n0 x e H e1 H1) (ha : x.op.isApp = false) {t : Nat} (ht : x.dst ≠ some t) : look e1 t = look e t := by
  cases s with
  | skip hl => rw [look_put, if_neg ht]
  | pure hg hp => rw [look_put, if_neg ht]
  | bsl hg hp => rw [look_put, if_neg ht]
  | call hg hp => rw [look_put, if_neg ht]
  | callv hg hf hp => rw [look_put, if_neg ht]
  | eff hg hp hn =>
    rename_i o v e'
    rw [look_put, if_neg ht]
    suffices e' = e by rw [this]
    cases o with
    | app => simp [AOp.isApp] at ha
    | store n a b =>
      simp only [ev] at hp
      split at hp
      · simp only [Option.bind_eq_some_iff] at hp
        obtain ⟨b, hb, hp⟩ := hp
        split at hp
        · cases hp; rfl
        · cases hp
      · cases hp
    | cpy =>
      simp only [ev, Option.bind_eq_some_iff] at hp
      obtain ⟨ys, hy, hp⟩ := hp
      split at hp
      · simp only [Option.bind_eq_some_iff] at hp
        obtain ⟨b, hb, hp⟩ := hp
        split at hp
        · cases hp; rfl
        · cases hp
      · cases hp
    | mksl =>
      simp only [ev] at hp
      split at hp
      · split at hp
        · cases hp; rfl
        · cases hp
      · cases hp
    | _ =>
      simp only [ev] at hp
      split at hp
      · cases hp; rfl
      · cases hp

theorem hrow_set_ne {H : Heap} {i j : Nat} {b : Option Blk} (h : i ≠ j) : hrow (H.set j b) i = hrow H i := by
  unfold hrow
  rw [List.getElem?_set, if_neg (fun e => h e.symm)]

/-- Looking at a row, then writing another. -/
theorem swap_ldst {x y : AIns} (hT : apartT x y = true) {a b : Nat} (hl : ldst x y = some (a, b)) {e : Env} {H : Heap} {e1 : Env} {H1 : Heap} {e2 : Env} {H2 : Heap} (hne : locNe (Go.Abs.look e a) (Go.Abs.look e b)) (s : St P n0 x e H e1 H1) (t : St P n0 y e1 H1 e2 H2) :
    ∃ e1' H' e2', St P n0 y e H e1' H' ∧ St P n0 x e1' H' e2' H2 ∧ EqEnv e2 e2' := by
  obtain ⟨xd, xg, xo⟩ := x
  obtain ⟨yd, yg, yo⟩ := y
  simp only [ldst] at hl
  split at hl
  · rename_i n a' m b' sv
    cases hl
    simp only [apartT, Bool.and_eq_true] at hT
    obtain ⟨hT1, hT2⟩ := hT
    have hx : ∀ v, ∀ t ∈ (AIns.mk yd yg (.e (.store m (.t b) sv))).reads, Go.Abs.look (put xd v e) t = Go.Abs.look e t := by
      intro v t ht
      refine (look_put_off (rs := (AIns.mk yd yg (.e (.store m (.t b) sv))).reads) (d := xd) ?_ t ht).symm
      cases hd : xd <;> simp only [hd] at hT1 ⊢
      simp only [Bool.and_eq_true] at hT1
      exact hT1.1
    have hy : ∀ v, ∀ t ∈ (AIns.mk xd xg (.p (.load n (.t a)))).reads, Go.Abs.look e t = Go.Abs.look (put yd v e) t := fun v => look_put_off hT2
    have hd : ∀ d, yd = some d → xd ≠ some d := by
      intro d h1 h2
      simp only [h2, Bool.and_eq_true] at hT1
      rw [h1] at hT1
      simp at hT1
    obtain ⟨i, j, k, l, o, p, ea, eb, hij⟩ := locNe_some hne
    have hra : a ∈ (AIns.mk xd xg (.p (.load n (.t a)))).reads := by simp [AIns.reads, AOp.reads, POp.reads, Src.tmps]
    have fx : H1 = H ∧ ∃ v, e1 = put xd v e ∧ ∀ e' H', (∀ t ∈ (AIns.mk xd xg (.p (.load n (.t a)))).reads, Go.Abs.look e t = Go.Abs.look e' t) → hrow H' i = hrow H i → St P n0 ⟨xd, xg, .p (.load n (.t a))⟩ e' H' (put xd v e') H' := by
      cases s with
      | skip hl => exact ⟨rfl, .tup [], rfl, fun e' H' h _ => .skip (by rw [← h _ (by simp [AIns.reads])]; exact hl)⟩
      | pure hg hp =>
        refine ⟨rfl, _, rfl, fun e' H' h hrw => .pure (guard_agree hg fun t ht => h t (by simp only [AIns.reads, List.mem_append]; exact .inl ht)) ?_⟩
        have ea' : Go.Abs.look e' a = .loc i k o := by rw [← h a hra, ea]
        simp only [pv, Src.ev, ea, ea', loadV, atV] at hp ⊢
        rw [hrw]; exact hp
    obtain ⟨rfl, v, rfl, f⟩ := fx
    -- what the store leaves in row i
    have hrow : hrow H2 i = hrow H1 i := by
      have hxb := hx v b (by simp [AIns.reads, AOp.reads, EOp.reads, Src.tmps])
      cases t with
      | skip => rfl
      | eff hg hp hn =>
        simp only [ev] at hp
        have hb2 : (Src.t b).ev (put xd v e) = .loc j l p := by
          show Go.Abs.look _ b = _
          rw [hxb, eb]
        rw [hb2] at hp
        simp only [Option.bind_eq_some_iff] at hp
        obtain ⟨blk, hb, hp⟩ := hp
        split at hp
        · cases hp; exact hrow_set_ne hij
        · cases hp
    obtain ⟨u, rfl, g⟩ := store_spec t rfl
    exact ⟨_, H2, _, g e (hx v), f (put yd u e) H2 (hy u) hrow, put_put hd⟩
  · cases hl

/-! What reads only values that name no row. -/
theorem src_cl {s : Src} {e : Env} (hk : s.okc = true) (h : ∀ t ∈ s.tmps, Cl (Go.Abs.look e t)) : Cl (s.ev e) := by
  cases s with
  | t n => exact h n (by simp [Src.tmps])
  | c a => cases a <;> first | (simp [Src.okc] at hk; done) | exact .int _ _ | exact .bool _ | exact .nil
theorem binV_cl {op : BinOp} {a b v : AV} (h : binV op a b = some v) : Cl v := by
  unfold binV at h
  split at h
  · split at h
    · simp only [shBin] at h
      split at h
      · cases h
      · cases h; exact .int _ _
    · simp only [shBin] at h
      split at h
      · cases h
      · cases h; exact .int _ _
    · split at h
      · unfold intBin at h
        split at h
        all_goals first | (cases h; done) | (cases h; first | exact .int _ _ | exact .bool _) | (split at h <;> first | (cases h; done) | (cases h; exact .int _ _))
      · cases h
  · split at h
    · split at h
      · cases h
      · cases h; exact .str _
    · cases h; exact .bool _
    · cases h; exact .bool _
    · cases h
  · cases h
theorem cl_getD {wd : Nat} {xs : List AV} (h : Cl (.sl wd xs)) (i : Nat) : ∀ c ∈ (xs.getD i .top).cells, Cl c := by
  cases h with
  | sl _ _ h =>
    intro c hc
    rcases Nat.lt_or_ge i xs.length with hi | hi
    · rw [List.getD_eq_getElem?_getD, List.getElem?_eq_getElem hi] at hc
      exact h c (List.mem_flatMap.2 ⟨_, List.getElem_mem hi, hc⟩)
    · rw [List.getD_eq_getElem?_getD, List.getElem?_eq_none hi] at hc
      simp [AV.cells] at hc
      subst hc; exact .top
theorem cl_ro {x : AV} {off : Nat} (h : Cl (.ro x off)) : ∀ c ∈ x.cells, Cl c := by
  cases h with
  | ro _ _ h => exact h
theorem pv_cl {o : POp} (hq : o.clq = true) {e : Env} {H : Heap} {v : AV} (hr : ∀ t ∈ o.reads, Cl (Go.Abs.look e t)) (h : pv o e H = some v) : Cl v ∧ ∀ H', pv o e H' = some v := by
  cases o <;> first | (simp [POp.clq] at hq; done) | skip
  case mv a =>
    simp only [pv, Option.some.injEq] at h
    subst h
    exact ⟨src_cl hq hr, fun _ => rfl⟩
  case len a =>
    have ha := src_cl hq hr
    simp only [pv] at h ⊢
    generalize a.ev e = x at *
    cases ha <;> simp only [lenV] at h ⊢ <;> first | (cases h; done) | (cases h; exact ⟨.int _ _, fun _ => rfl⟩)
  case bin op a b => exact ⟨binV_cl h, fun _ => h⟩
  case idxp wd a i =>
    simp only [POp.clq, Bool.and_eq_true] at hq
    simp only [POp.reads, List.mem_append] at hr
    have ha := src_cl hq.1 fun t ht => hr t (.inl ht)
    have hi := src_cl hq.2 fun t ht => hr t (.inr ht)
    simp only [pv] at h ⊢
    generalize a.ev e = x at *
    generalize i.ev e = y at *
    cases y <;> simp only [idxV] at h ⊢ <;> first | (cases h; done) | skip
    cases x <;> simp only at h ⊢ <;> first | (cases h; done) | skip
    case sl =>
      refine ⟨?_, fun _ => h⟩
      split at h
      · cases h; exact .ro _ _ (cl_getD ha _)
      · cases h
    case mu => cases ha
  case load n a =>
    have ha := src_cl hq hr
    simp only [pv, loadV] at h ⊢
    generalize a.ev e = x at *
    cases x <;> simp only [atV] at h ⊢ <;> first | (cases h; done) | skip
    case loc => cases ha
    case ro y off =>
      refine ⟨?_, fun _ => h⟩
      have hc := cl_ro ha
      simp only [Option.bind_some] at h
      cases n with
      | none =>
        have := List.mem_of_getElem? h
        exact hc v (List.mem_of_mem_drop this)
      | some n =>
        simp only at h
        split at h
        · cases h; exact .agg _ fun c hcm => hc c (List.mem_of_mem_drop (List.mem_of_mem_take hcm))
        · cases h
  case slc wd x lo hi mx =>
    simp only [POp.clq, Bool.and_eq_true] at hq
    simp only [POp.reads, List.mem_append] at hr
    have hx := src_cl hq.1 fun t ht => hr t (.inl ht)
    simp only [pv] at h ⊢
    generalize x.ev e = x at *
    generalize lo.map (·.ev e) = lo at *
    generalize hi.map (·.ev e) = hi at *
    generalize mx.map (·.ev e) = mx at *
    cases x <;> simp only [slcV] at h ⊢ <;> first | (cases h; done) | skip
    case mu => cases hx
    case sl wd' xs =>
      refine ⟨?_, fun _ => h⟩
      have hsub : ∀ m n, Cl (.sl wd ((xs.drop m).take n)) := fun m n => by
        cases hx with
        | sl _ _ hx =>
          refine .sl _ _ fun c hc => ?_
          obtain ⟨a, ha, hca⟩ := List.mem_flatMap.1 hc
          exact hx c (List.mem_flatMap.2 ⟨a, List.mem_of_mem_drop (List.mem_of_mem_take ha), hca⟩)
      simp only [Option.bind_eq_some_iff] at h
      obtain ⟨l, _, r, _, h⟩ := h
      split at h
      · split at h
        · cases h; exact hsub _ _
        · cases h
      · split at h
        · cases h; exact hsub _ _
        · cases h
      · cases h
theorem clI_spec {x : AIns} {sd : List (Nat × Nat)} (hq : clI sd x = true) {e : Env} {H : Heap} {e1 : Env} {H1 : Heap} (hG : ∀ t ∈ x.reads, Cl (Go.Abs.look e t)) (s : St P n0 x e H e1 H1) :
    H1 = H ∧ ∃ u, Cl u ∧ e1 = put x.dst u e ∧ ∀ e' H', (∀ t ∈ x.reads, Go.Abs.look e t = Go.Abs.look e' t) → St P n0 x e' H' (put x.dst u e') H' := by
  simp only [clI, Bool.and_eq_true] at hq
  obtain ⟨hq, hq2⟩ := hq
  clear hq2
  cases s with
  | skip hl => exact ⟨rfl, .tup [], .tup _ fun c hc => absurd hc (by simp), rfl, fun e' L h => .skip (by rw [← h _ (by simp [AIns.reads])]; exact hl)⟩
  | pure hg hp =>
    rename_i d g o v
    obtain ⟨h1, h2⟩ := pv_cl hq (fun t ht => hG t (by simp only [AIns.reads, List.mem_append]; exact .inr ht)) hp
    refine ⟨rfl, v, h1, rfl, fun e' H' h => .pure (guard_agree hg fun t ht => h t (by simp only [AIns.reads, List.mem_append]; exact .inl ht)) ?_⟩
    rw [← pv_agree (fun t ht => h t (by simp only [AIns.reads, List.mem_append]; exact .inr ht))]
    exact h2 H'
  | bsl hg hp => simp at hq
  | call hg hp => simp at hq
  | callv hg hf hp => simp at hq
  | eff hg hp hn => simp at hq
theorem clI_reads {x : AIns} {sd : List (Nat × Nat)} (hq : clI sd x = true) {e : Env} (hG : sdOk sd e) : ∀ t ∈ x.reads, Cl (Go.Abs.look e t) := fun t ht => by
  simp only [clI, Bool.and_eq_true, List.all_eq_true] at hq
  exact sdOk_cl hG (hq.2 t ht)
theorem look_scrub_cl {id : Nat} {e : Env} {t : Nat} (h : Cl (Go.Abs.look e t)) : Go.Abs.look (scrub id e) t = Go.Abs.look e t := by
  rw [look_scrub, if_pos (nref_iff.2 h.ref)]
theorem apartT_facts {x y : AIns} (hT : apartT x y = true) : (∀ v e, ∀ t ∈ y.reads, Go.Abs.look (put x.dst v e) t = Go.Abs.look e t) ∧ (∀ v e, ∀ t ∈ x.reads, Go.Abs.look e t = Go.Abs.look (put y.dst v e) t) ∧ (∀ d, y.dst = some d → x.dst ≠ some d) := by
  simp only [apartT, Bool.and_eq_true] at hT
  obtain ⟨hT1, hT2⟩ := hT
  refine ⟨fun v e t ht => ?_, fun v e => look_put_off hT2, fun d h1 h2 => ?_⟩
  · refine (look_put_off (rs := y.reads) (d := x.dst) ?_ t ht).symm
    cases hd : x.dst <;> simp only [hd] at hT1 ⊢
    simp only [Bool.and_eq_true] at hT1
    exact hT1.1
  · simp only [h2, Bool.and_eq_true] at hT1
    rw [h1] at hT1
    simp at hT1
/-- An append, then a value looked at. -/
theorem swap_appcl {x y : AIns} {sd : List (Nat × Nat)} (hT : apartT x y = true) (q1 : x.op.isApp = true) (q2 : clI sd y = true) : SwG P n0 (sdOk sd) x y := by
  intro e H e1 H1 e2 H2 hG s t
  obtain ⟨hx, hy, hd⟩ := apartT_facts hT
  have hcl := clI_reads q2 hG
  obtain ⟨v, ⟨rfl, f⟩ | ⟨id, rfl, f⟩⟩ := app_spec s q1
  · obtain ⟨rfl, u, hu, rfl, g⟩ := clI_spec q2 (fun t ht => by rw [hx v e t ht]; exact hcl t ht) t
    exact ⟨_, H, _, g e H (hx v e), f (put y.dst u e) (hy u e), put_put hd⟩
  · obtain ⟨rfl, u, hu, rfl, g⟩ := clI_spec q2 (fun t ht => by rw [hx v _ t ht, look_scrub_cl (hcl t ht)]; exact hcl t ht) t
    refine ⟨_, H, _, g e H (fun t ht => by rw [hx v _ t ht, look_scrub_cl (hcl t ht)]), f (put y.dst u e) (hy u e), fun t => ?_⟩
    simp only [look_put, look_scrub]
    by_cases h1 : y.dst = some t
    · rw [if_pos h1, if_neg (hd t h1), if_pos h1, if_pos (nref_iff.2 hu.ref)]
    · rw [if_neg h1, if_neg h1]
/-- A value looked at, then an append. -/
theorem swap_clapp {x y : AIns} {sd : List (Nat × Nat)} (hT : apartT x y = true) (q1 : clI sd x = true) (q2 : y.op.isApp = true) : SwG P n0 (sdOk sd) x y := by
  intro e H e1 H1 e2 H2 hG s t
  obtain ⟨hx, hy, hd⟩ := apartT_facts hT
  have hcl := clI_reads q1 hG
  obtain ⟨rfl, u, hu, rfl, f⟩ := clI_spec q1 hcl s
  obtain ⟨v, ⟨rfl, g⟩ | ⟨id, rfl, g⟩⟩ := app_spec t q2
  · exact ⟨_, H2, _, g e (hx u e), f (put y.dst v e) H2 (hy v e), put_put hd⟩
  · refine ⟨_, H2, _, g e (hx u e), f (put y.dst v (scrub id e)) H2 (fun t ht => by rw [← hy v (scrub id e) t ht, look_scrub_cl (hcl t ht)]), fun t => ?_⟩
    simp only [look_put, look_scrub]
    by_cases h1 : y.dst = some t
    · rw [if_pos h1, if_neg (hd t h1), if_pos h1]
    · rw [if_neg h1, if_neg h1]
      by_cases h2 : x.dst = some t
      · rw [if_pos h2, if_pos h2, if_pos (nref_iff.2 hu.ref)]
      · rw [if_neg h2, if_neg h2]

theorem Sts.append {A B : List AIns} {e : Env} {H : Heap} {e1 : Env} {H1 : Heap} {e2 : Env} {H2 : Heap} (h : Sts P n0 A e H e1 H1) (k : Sts P n0 B e1 H1 e2 H2) : Sts P n0 (A ++ B) e H e2 H2 := by
  induction h with
  | nil => exact k
  | cons h t ih => exact .cons h (ih k)

theorem xchkOne_sound {m k i : Nat} {sd : List (Nat × Nat)} {y : AIns} : ∀ {b : Nat} {pre : List AIns}, xchkOne m k i sd y b pre = true → ∀ a x, pre[a]? = some x → okX m sd (b + a) x y = true ∨ (b + a = k ∧ i = k + 1)
  | _, [], _, a, x, hx => by simp at hx
  | b, p :: pre, h, a, x, hx => by
    simp only [xchkOne, Bool.and_eq_true, Bool.or_eq_true, beq_iff_eq] at h
    cases a with
    | zero => simp at hx; subst hx; exact h.1
    | succ a =>
      rw [show b + (a + 1) = (b + 1) + a by omega]
      exact xchkOne_sound h.2 a x (by simpa using hx)
theorem xchkAll_sound {T : List Nat} {k : Nat} {sd : List (Nat × Nat)} : ∀ {l pre : List AIns}, xchkAll T k sd pre.length pre l = true → ∀ i a x y, pre.length ≤ i → a < i → (pre ++ l)[a]? = some x → (pre ++ l)[i]? = some y → okX (T.getD i 0) sd a x y = true ∨ (a = k ∧ i = k + 1)
  | [], pre, h, i, a, x, y, h0, h1, h2, h3 => by
    have := lt_of_live' h3
    simp at this; omega
  | z :: l, pre, h, i, a, x, y, h0, h1, h2, h3 => by
    simp only [xchkAll, Bool.and_eq_true] at h
    rcases Nat.lt_or_eq_of_le h0 with hlt | heq
    · have h' : xchkAll T k sd (pre ++ [z]).length (pre ++ [z]) l = true := by simpa using h.2
      exact xchkAll_sound h' i a x y (by simp; omega) h1 (by simpa using h2) (by simpa using h3)
    · subst heq
      simp at h3
      subst h3
      rw [List.getElem?_append_left h1] at h2
      have := xchkOne_sound h.1 a x h2
      simpa using this

theorem okX_swap {m : Nat} {sd : List (Nat × Nat)} {a : Nat} {x y : AIns} (h : okX m sd a x y = true) : m.testBit a = true ∨ SwG P n0 (sdOk sd) x y := by
  simp only [okX, Bool.or_eq_true, Bool.and_eq_true] at h
  rcases h with h | ⟨h1, h2 | h2 | ⟨h2, h3⟩ | ⟨h2, h3⟩⟩
  · exact .inl h
  · exact .inr fun _ s t => St.swap h1 h2 s t
  · split at h2
    · rename_i p hp
      obtain ⟨a, b⟩ := p
      simp only [Bool.and_eq_true, bne_iff_ne, ne_eq] at h2
      refine .inr fun hg s t => swap_ldst h1 hp ?_ s t
      have := sdOk_mem hg (a, b) (by simpa using h2.2)
      unfold sdP at this
      rwa [if_neg h2.1] at this
    · cases h2
  · exact .inr (swap_appcl h1 h2 h3)
  · exact .inr (swap_clapp h1 h2 h3)

theorem sdOk_of : ∀ {sd : List (Nat × Nat)} {e : Env}, (∀ p ∈ sd, sdP e p) → sdOk sd e
  | [], _, _ => trivial
  | q :: r, e, h => ⟨h q (by simp), sdOk_of fun p hp => h p (by simp [hp])⟩
theorem St.look_cl {x : AIns} {e : Env} {H : Heap} {e1 : Env} {H1 : Heap} (s : St P n0 x e H e1 H1) {t : Nat} (ht : x.dst ≠ some t) (hc : Cl (Go.Abs.look e t)) : Cl (Go.Abs.look e1 t) := by
  cases ha : x.op.isApp with
  | false => rw [s.look ha ht]; exact hc
  | true =>
    obtain ⟨v, ⟨rfl, _⟩ | ⟨id, rfl, _⟩⟩ := app_spec s ha
    · rw [look_put, if_neg ht]; exact hc
    · rw [look_put, if_neg ht, look_scrub_cl hc]; exact hc
theorem xkeeps {sd : List (Nat × Nat)} {l : List AIns} (h2 : (sd.all fun p => if p.1 = p.2 then l.all fun x => x.dst != some p.1 || clI sd x else (l.all fun x => !x.op.isApp) && l.all fun x => x.dst != some p.1 && x.dst != some p.2) = true) : ∀ x ∈ l, Keeps P n0 (sdOk sd) x := by
  intro x hx e H e1 H1 hg s
  rw [List.all_eq_true] at h2
  refine sdOk_of fun p hp => ?_
  have h3 := h2 p hp
  have hgp := sdOk_mem hg p hp
  unfold sdP at hgp ⊢
  by_cases hpp : p.1 = p.2
  · rw [if_pos hpp] at h3 hgp ⊢
    rw [List.all_eq_true] at h3
    have h4 := h3 x hx
    simp only [Bool.or_eq_true, bne_iff_ne, ne_eq] at h4
    by_cases hd : x.dst = some p.1
    · rcases h4 with h4 | h4
      · exact absurd hd h4
      · obtain ⟨_, u, hu, rfl, _⟩ := clI_spec h4 (clI_reads h4 hg) s
        rw [look_put, if_pos hd]; exact hu
    · exact s.look_cl hd hgp
  · rw [if_neg hpp] at h3 hgp ⊢
    simp only [Bool.and_eq_true, List.all_eq_true] at h3
    have ha : x.op.isApp = false := by simpa using h3.1 x hx
    have h4 := h3.2 x hx
    simp only [Bool.and_eq_true, bne_iff_ne, ne_eq] at h4
    rw [s.look ha h4.1, s.look ha h4.2]
    exact hgp
end

section
variable {P : Program} {nt : Nat}
theorem filterMap_range {l : List AIns} (k n : Nat) (h : k + n = l.length) : ((List.range' k n).filterMap (l[·]?)) = l.drop k := by
  induction n generalizing k with
  | zero => simp [List.drop_eq_nil_of_le (show l.length ≤ k by omega)]
  | succ n ih =>
    rw [List.range'_succ, List.filterMap_cons, List.getElem?_eq_getElem (show k < l.length by omega)]
    simp only
    rw [ih (k + 1) (by omega), List.drop_eq_getElem_cons (show k < l.length by omega)]

theorem fm_congr {α β : Type} {f g : α → Option β} : ∀ {l : List α}, (∀ a ∈ l, f a = g a) → l.filterMap f = l.filterMap g
  | [], _ => rfl
  | x :: l, h => by rw [List.filterMap_cons, List.filterMap_cons, h x (by simp), fm_congr fun a ha => h a (by simp [ha])]
theorem wpAny_twin {mu : Nat → Nat → Bool} {rid : Nat} {ops : Array Oper} {l : List AIns} (hl : clist P mu nt rid ops 0 ops.toList = some l) (hback : backOk 0 ops.toList = true) {n0 : Nat} {G : Env → Prop} (hGk : ∀ x ∈ l, Keeps P n0 G x)
    {Q : Exit → Act → World → Prop} {E0 : Emb} {ef1 ef2 : Env} {Hf1 Hf2 : Heap} (hQ1 : ∀ a w, Kc n0 nt E0 (fun e' H' => EqEnv ef1 e' ∧ H' = Hf1) a w → Q .normal a w) (hQ2 : ∀ a w, Kc n0 nt E0 (fun e' H' => EqEnv ef2 e' ∧ H' = Hf2) a w → Q .normal a w)
    {k : Nat} (hk : k + 1 < l.length) (hpair : ∀ i a x y, a < i → l[a]? = some x → l[i]? = some y → (((tcTab ops.toList []).getD i 0).testBit a = true ∨ SwG P n0 G x y) ∨ (a = k ∧ i = k + 1))
    (htw : ∀ j, k + 2 ≤ j → j < l.length → ((tcTab ops.toList []).getD j 0).testBit k = true ∨ ((tcTab ops.toList []).getD j 0).testBit (k + 1) = true) :
    ∀ (fuel : Nat) (rem : List Nat) (listed : Array Bool), listed.size = ops.size → rem.Pairwise (· < ·) → (∀ i, i ∈ rem ↔ i < k ∧ listed.getD i true = false) → (∀ j, k ≤ j → j < l.length → listed.getD j true = false) → rem.length + (l.length - k) ≤ fuel →
      Closed ops.toList (fun j => listed.getD j false = true) →
      ∀ (E : Emb) (env : Env) (tmps : Array Value) (es : Env) (Hs : Heap) (ef1' ef2' : Env), tmps.size = nt → HOk E → RepEnv E env tmps → n0 ≤ E.H.length → Ext (· < n0) E0 E → EqEnv ef1 ef1' → EqEnv ef2 ef2' → G env →
        Sts P n0 (rem.filterMap (l[·]?)) env E.H es Hs → Sts P n0 (l.drop k) es Hs ef1' Hf1 → Sts P n0 (twist (l.drop k)) es Hs ef2' Hf2 → wpAny P .any ops Q fuel listed ⟨tmps, []⟩ E.w := by
  obtain ⟨hlen, hget⟩ := clist_get _ _ _ hl
  have hlen' : l.length = ops.size := by simpa using hlen
  intro fuel
  induction fuel with
  | zero => intro rem listed hsz hp hm hm2 hf; omega
  | succ fuel ih =>
    intro rem listed hsz hp hm hm2 hf hcl E env tmps es Hs ef1' ef2' h1 h2 h3 h4 h5 h6 h6' hg hA hB hC
    have hkl : listed.getD k true = false := hm2 k (Nat.le_refl _) (by omega)
    have hkl1 : listed.getD (k + 1) true = false := hm2 (k + 1) (by omega) hk
    have unl : ∀ j, j < l.length → listed.getD j true = false → ¬ listed.getD j false = true := by
      intro j hj hu
      have : j < listed.size := by omega
      simp [this] at hu ⊢
      exact hu
    refine ⟨fun hr => ?_, fun i hi => ?_⟩
    · -- something is ready
      exfalso
      have hall : ∀ m, m ≤ k → (∀ j, j < m → listed.getD j false = true) → (∃ i, i ∈ Region.ready .any ops listed) ∨ ∀ j, j < m → listed.getD j false = true := fun m _ h => .inr h
      have least : ∃ i, i < l.length ∧ listed.getD i true = false ∧ ∀ j, j < i → ¬ listed.getD j true = false := by
        have ex : ∃ i, i < l.length ∧ listed.getD i true = false := ⟨k, by omega, hkl⟩
        obtain ⟨n, hn1, hn2⟩ := ex
        induction n using Nat.strongRecOn with
        | _ n ihn =>
          by_cases hc : ∃ j, j < n ∧ listed.getD j true = false
          · obtain ⟨j, hj1, hj2⟩ := hc
            exact ihn j hj1 (by omega) hj2
          · exact ⟨n, hn1, hn2, fun j hj hh => hc ⟨j, hj, hh⟩⟩
      obtain ⟨i, hi1, hi2, hi3⟩ := least
      have : i ∈ Region.ready .any ops listed := by
        rw [mem_ready]
        refine ⟨hi2, ops[i]'(by omega), by simp [show i < ops.size by omega], fun e he hb => ?_⟩
        have hlt2 := backOk_sound hback i (ops[i]'(by omega)) (by simp [show i < ops.size by omega]) e he hb
        have hno := hi3 e.on (by omega)
        have hlt3 : e.on < listed.size := by omega
        simp [hlt3] at hno ⊢
        exact hno
      rw [hr] at this
      cases this
    · obtain ⟨hun, o, ho, hedges⟩ := mem_ready.1 hi
      obtain ⟨x, hx, hcx⟩ := hget i o (by simpa using ho)
      have hil : i < l.length := lt_of_live' hx
      have hilt : i < listed.size := by omega
      -- the new state's facts
      have hcl' : Closed ops.toList (fun j => (listed.setIfInBounds i true).getD j false = true) := by
        intro j oj hj hoj e he hb
        by_cases hji : j = i
        · subst hji
          have : oj = o := by
            have h' : ops.toList[j]? = some o := by simpa using ho
            rw [h'] at hoj; cases hoj; rfl
          subst this
          exact getD_set_true (hedges e he hb)
        · rw [getD_set_ne false (Ne.symm hji)] at hj
          exact getD_set_true (hcl j oj hj hoj e he hb)
      have bitNo : ∀ a, a < l.length → listed.getD a true = false → ((tcTab ops.toList []).getD i 0).testBit a = true → False := by
        intro a ha hau hb
        have hT : ∃ m, (tcTab ops.toList [])[i]? = some m ∧ m.testBit a = true := by
          cases hq : (tcTab ops.toList [])[i]? with
          | none => simp [List.getD_eq_getElem?_getD, hq] at hb
          | some m => exact ⟨m, rfl, by simpa [List.getD_eq_getElem?_getD, hq] using hb⟩
        obtain ⟨m, hm1, hm2⟩ := hT
        have := tcTab_sound (S := fun j => listed.getD j false = true) hcl ops.toList [] [] rfl rfl (by simp) i m o hm1 (by simpa using ho) hedges a hm2
        exact unl a ha hau this
      have swp : ∀ a z, a < i → a < l.length → listed.getD a true = false → ¬ (a = k ∧ i = k + 1) → l[a]? = some z → SwG P n0 G z x ∧ Keeps P n0 G z := by
        intro a z hai hal hau hne hz
        refine ⟨?_, hGk z (List.mem_of_getElem? hz)⟩
        rcases hpair i a z x hai hz hx with (hb | hb) | hb
        · exact (bitNo a hal hau hb).elim
        · exact hb
        · exact (hne hb).elim
      have remlt : ∀ a ∈ rem, a < k ∧ listed.getD a true = false := fun a ha => (hm a).1 ha
      rcases Nat.lt_or_ge i k with hik | hik
      · -- ahead of the two
        have himem := (hm i).2 ⟨hik, hun⟩
        obtain ⟨A, B, rfl⟩ := List.append_of_mem himem
        have hAlt : ∀ a ∈ A, a < i := fun a ha => (List.pairwise_append.1 hp).2.2 a ha i (by simp)
        simp only [List.filterMap_append, List.filterMap_cons, hx] at hA
        obtain ⟨e1, H1, es', q1, q2, q3⟩ := Sts.bubble _ hg (fun z hz => by
          obtain ⟨a, ha, hza⟩ := List.mem_filterMap.1 hz
          exact swp a z (hAlt a ha) (by have := hAlt a ha; omega) (remlt a (by simp [ha])).2 (by omega) hza) hA
        refine St.wpOp ho hcx h1 h2 h3 h4 q1 ?_
        rintro a w' ⟨φ, env', H', ⟨rfl, rfl⟩, r1, r2, r3, r4, r5, r6⟩
        have ha : a = ⟨a.tmps, []⟩ := by cases a; simp at r3; simp [r3]
        rw [ha]
        have hpAB : (A ++ B).Pairwise (· < ·) := by
          rw [List.pairwise_append] at hp ⊢
          exact ⟨hp.1, (List.pairwise_cons.1 hp.2.1).2, fun a ha b hb => hp.2.2 a ha b (by simp [hb])⟩
        have hiB : ∀ b ∈ B, i < b := (List.pairwise_cons.1 (List.pairwise_append.1 hp).2.1).1
        obtain ⟨f1, u1, u2⟩ := hB.eqv q3
        obtain ⟨f2, v1, v2⟩ := hC.eqv q3
        refine ih (A ++ B) (listed.setIfInBounds i true) (by simp [hsz]) hpAB ?_ ?_ (by simp at hf ⊢; omega) hcl' ⟨φ, H', w'⟩ env' a.tmps es' Hs f1 f2 r4 r1 r2 r5 (h5.trans r6) (h6.trans u2) (h6'.trans v2) (hGk x (List.mem_of_getElem? hx) hg q1) (by simpa [List.filterMap_append] using q2) u1 v1
        · intro j
          by_cases hj : j = i
          · subst hj
            constructor
            · intro hmem
              exfalso
              rcases List.mem_append.1 hmem with h | h
              · exact Nat.lt_irrefl _ (hAlt _ h)
              · exact Nat.lt_irrefl _ (hiB _ h)
            · intro h; simp [hilt] at h
          · rw [getD_set_ne true (Ne.symm hj), ← hm j]
            simp [hj]
        · intro j hj1 hj2
          rw [getD_set_ne true (by omega)]
          exact hm2 j hj1 hj2
      · -- one of the two
        have hi2 : i = k ∨ i = k + 1 := by
          rcases Nat.lt_or_ge i (k + 2) with h | h
          · omega
          · exfalso
            rcases htw i h hil with hb | hb
            · exact bitNo k (by omega) hkl hb
            · exact bitNo (k + 1) hk hkl1 hb
        have hd0 : l.drop k = l[k] :: l[k + 1] :: l.drop (k + 2) := by
          rw [List.drop_eq_getElem_cons (show k < l.length by omega), List.drop_eq_getElem_cons hk]
        have hpr : ∀ (A B : List Nat), (∀ a ∈ A, a < k) → A.Pairwise (· < ·) → (∀ b ∈ B, k ≤ b) → B.Pairwise (· < ·) → (A ++ B).Pairwise (· < ·) := fun A B h1 h2 h3 h4 =>
          List.pairwise_append.2 ⟨h2, h4, fun a ha b hb => by have := h1 a ha; have := h3 b hb; omega⟩
        have fin : ∀ (rest : List Nat) (ef : Env) (Hf : Heap) (ef' : Env) (hQ : ∀ a w, Kc n0 nt E0 (fun e' H' => EqEnv ef e' ∧ H' = Hf) a w → Q .normal a w) (hre : EqEnv ef ef'), rest.Pairwise (· < ·) → (∀ j, j ∈ rest ↔ k ≤ j ∧ j < l.length ∧ j ≠ i) → rest.length + 1 = l.length - k → (¬ (k ∈ rest ∧ k + 1 ∈ rest)) →
            Sts P n0 (x :: rest.filterMap (l[·]?)) es Hs ef' Hf → Go.wpOp P ops Q i (fun a' w' => wpAny P .any ops Q fuel (listed.setIfInBounds i true) a' w') ⟨tmps, []⟩ E.w := by
          intro rest ef Hf ef' hQ hre hrp hrm hrl hrt hrs
          have hS := Sts.append hA hrs
          obtain ⟨e1, H1, ef2, q1, q2, q3⟩ := Sts.bubble _ hg (fun z hz => by
            obtain ⟨a, ha, hza⟩ := List.mem_filterMap.1 hz
            have := remlt a ha
            exact swp a z (by omega) (by omega) this.2 (by omega) hza) hS
          refine St.wpOp ho hcx h1 h2 h3 h4 q1 ?_
          rintro a w' ⟨φ, env', H', ⟨rfl, rfl⟩, r1, r2, r3, r4, r5, r6⟩
          have ha : a = ⟨a.tmps, []⟩ := by cases a; simp at r3; simp [r3]
          rw [ha]
          refine wpAny_of hl hback hGk hQ fuel (rem ++ rest) (listed.setIfInBounds i true) (by simp [hsz]) (hpr _ _ (fun a ha => (remlt a ha).1) hp (fun b hb => ((hrm b).1 hb).1) hrp) ?_ (by simp; omega) hcl' ?_ ⟨φ, H', w'⟩ env' a.tmps ef2 r4 r1 r2 r5 (h5.trans r6) (hre.trans q3) (hGk x (List.mem_of_getElem? hx) hg q1) (by simpa [List.filterMap_append] using q2)
          · intro j
            rw [List.mem_append, hm, hrm]
            by_cases hj : j = i
            · subst hj
              simp [hilt]; omega
            · rw [getD_set_ne true (Ne.symm hj)]
              constructor
              · rintro (h | h)
                · exact h.2
                · exact hm2 j h.1 h.2.1
              · intro h
                rcases Nat.lt_or_ge j k with hjk | hjk
                · exact .inl ⟨hjk, h⟩
                · refine .inr ⟨hjk, ?_, hj⟩
                  rcases Nat.lt_or_ge j listed.size with h' | h'
                  · omega
                  · simp [Array.getElem?_eq_none h'] at h
          · intro i' a' x' y' ha' hi' hai hx' hy'
            rcases hpair i' a' x' y' hai hx' hy' with h | ⟨h1, h2⟩
            · exact h
            · exfalso
              refine hrt ⟨?_, ?_⟩
              · rcases List.mem_append.1 ha' with h | h
                · have := (remlt _ h).1; omega
                · rw [h1] at h; exact h
              · rcases List.mem_append.1 hi' with h | h
                · have := (remlt _ h).1; omega
                · rw [h2] at h; exact h
        have hfd : (List.range' (k + 2) (l.length - (k + 2))).filterMap (l[·]?) = l.drop (k + 2) := filterMap_range _ _ (by omega)
        rcases hi2 with rfl | rfl
        · refine fin (List.range' (i + 1) (l.length - (i + 1))) ef1 Hf1 ef1' hQ1 h6 (List.pairwise_lt_range') (fun j => by rw [List.mem_range'_1]; omega) (by simp; omega) (by rw [List.mem_range'_1]; omega) ?_
          rw [filterMap_range _ _ (by omega)]
          have e1 : l[i] = x := by rw [List.getElem?_eq_getElem hil] at hx; exact Option.some.inj hx
          rw [← e1, ← List.drop_eq_getElem_cons hil]
          exact hB
        · refine fin (k :: List.range' (k + 2) (l.length - (k + 2))) ef2 Hf2 ef2' hQ2 h6' ?_ (fun j => by rw [List.mem_cons, List.mem_range'_1]; omega) (by simp; omega) (by rw [List.mem_cons, List.mem_cons, List.mem_range'_1, List.mem_range'_1]; omega) ?_
          · refine List.pairwise_cons.2 ⟨fun b hb => ?_, List.pairwise_lt_range'⟩
            rw [List.mem_range'_1] at hb; omega
          · rw [List.filterMap_cons, List.getElem?_eq_getElem (show k < l.length by omega)]
            simp only
            rw [hfd]
            have e1 : l[k + 1] = x := by rw [List.getElem?_eq_getElem hil] at hx; exact Option.some.inj hx
            rw [hd0] at hC
            simp only [twist] at hC
            rw [← e1]
            exact hC
end

theorem Safe.regionX {x : Cx} {todo : List AItem} {env : Env} {H : Heap} {R : AV → Heap → Prop} {p s1 s2 : List AIns} {sd : List (Nat × Nat)} (hs : sdOk sd env)
    (h : dops x.P x.n0 p (fun env' H' => dops x.P x.n0 s1 (fun env' H' => Safe x todo env' H' R) env' H' ∧ dops x.P x.n0 s2 (fun env' H' => Safe x todo env' H' R) env' H') env H) : Safe x (.code (.regionX p s1 s2 sd) :: todo) env H R := by
  intro φ w tmps b k cs hg hn hb hk ht hsz hok he
  obtain ⟨i, k', rfl, h1, h2⟩ := todo_cons ht
  obtain ⟨c, rfl, h1⟩ := code_item h1
  obtain ⟨id, ops, l, kk, rfl, g1, g2, rfl, rfl, rfl⟩ := inv_regionX h1
  simp only [xchk, Bool.and_eq_true, Bool.or_eq_true] at g2
  obtain ⟨hmix, hback, hall, htw, hds⟩ := g2
  obtain ⟨es, Hs, s0, s1, s2⟩ := dops_sts h
  obtain ⟨ef1, Hf1, t1, k1⟩ := dops_sts s1
  obtain ⟨ef2, Hf2, t2, k2⟩ := dops_sts s2
  have hx0 := ext_drew (· < x.n0) φ H w (w.drawn + 1)
  have hxA := ext_drew All φ H w (w.drawn + 1)
  have hlen : l.length = ops.size := by simpa using (clist_get _ _ _ g1).1
  have hGk : ∀ y ∈ l, Keeps x.P x.n0 (sdOk sd) y := xkeeps hds
  have hall' := xchkAll_sound (pre := []) hall
  have hpair : ∀ i a y z, a < i → l[a]? = some y → l[i]? = some z → (((tcTab ops.toList []).getD i 0).testBit a = true ∨ SwG x.P x.n0 (sdOk sd) y z) ∨ (a = kk ∧ i = kk + 1) := by
    intro i a y z hai hy hz
    rcases hall' i a y z (by simp) hai (by simpa using hy) (by simpa using hz) with h | h
    · exact .inl (okX_swap h)
    · exact .inr h
  have empC : Closed ops.toList (fun j => (Array.replicate ops.size false).getD j false = true) := by
    intro j o hj
    exfalso
    rcases Nat.lt_or_ge j ops.size with h' | h'
    · simp [h'] at hj
    · simp [Array.getElem?_eq_none (show (Array.replicate ops.size false).size ≤ j by simpa using h')] at hj
  have hw : wpAny x.P .any ops (fun e a w' => e = .normal ∧ (Kc x.n0 x.nt ⟨φ, H, { w with drawn := w.drawn + 1 }⟩ (fun env' H' => Safe x todo env' H' R) a w')) ops.size (Array.replicate ops.size false) ⟨tmps, []⟩ { w with drawn := w.drawn + 1 } := by
    have toQ : ∀ (ef : Env) (Hf : Heap), Safe x todo ef Hf R → ∀ a w', Kc x.n0 x.nt ⟨φ, H, { w with drawn := w.drawn + 1 }⟩ (fun e' H' => EqEnv ef e' ∧ H' = Hf) a w' → Exit.normal = Exit.normal ∧ (Kc x.n0 x.nt ⟨φ, H, { w with drawn := w.drawn + 1 }⟩ (fun env' H' => Safe x todo env' H' R) a w') := by
      rintro ef Hf hsafe a w' ⟨φ1, env1, H1, ⟨sq, rfl⟩, q⟩
      refine ⟨rfl, φ1, env1, H1, ?_, q⟩
      intro φ2 w2 tmps2 b2 k2 cs2 hg2 hn2 hb2 hk2 ht2 hsz2 hok2 he2
      exact hsafe φ2 w2 tmps2 b2 k2 cs2 hg2 hn2 hb2 hk2 ht2 hsz2 hok2 (repenv_eqv he2 sq.symm)
    rcases Nat.lt_or_ge (kk + 1) l.length with hkl | hkl
    · refine wpAny_twin (P := x.P) (nt := x.nt) g1 hback hGk (toQ ef1 Hf1 k1) (toQ ef2 Hf2 k2) hkl hpair ?_ ops.size (List.range kk) (Array.replicate ops.size false) (by simp) List.pairwise_lt_range ?_ ?_ (by simp; omega) empC
        ⟨φ, H, { w with drawn := w.drawn + 1 }⟩ env tmps es Hs ef1 ef2 hsz (hok_drew hok) (he.mono (hxA.sub fun _ _ => trivial)) hn (Ext.refl _ _) (.refl _) (.refl _) hs ?_ t1 t2
      · intro j h1 h2
        simp only [twice, List.all_eq_true, List.mem_range, Bool.or_eq_true, decide_eq_true_eq] at htw
        rcases htw j (by simpa [hlen] using h2) with (h | h) | h
        · omega
        · exact .inl h
        · exact .inr h
      · intro i
        rw [List.mem_range]
        constructor
        · intro hi; exact ⟨hi, by simp [show i < ops.size by omega]⟩
        · exact fun h => h.1
      · intro j _ hj; simp [show j < ops.size by omega]
      · have : (List.range kk).filterMap (l[·]?) = l.take kk := by
          rw [List.range_eq_range']
          have e : l.take kk = (l.take kk).drop 0 := rfl
          rw [e, ← filterMap_range (l := l.take kk) 0 kk (by simp; omega)]
          refine fm_congr fun a ha => ?_
          rw [List.mem_range'_1] at ha
          rw [List.getElem?_take, if_pos (by omega)]
        rw [this]; exact s0
    · refine wpAny_of (P := x.P) (nt := x.nt) g1 hback hGk (toQ ef1 Hf1 k1) ops.size (List.range ops.size) (Array.replicate ops.size false) (by simp) List.pairwise_lt_range ?_ (by simp) empC ?_
        ⟨φ, H, { w with drawn := w.drawn + 1 }⟩ env tmps ef1 hsz (hok_drew hok) (he.mono (hxA.sub fun _ _ => trivial)) hn (Ext.refl _ _) (.refl _) hs ?_
      · intro i
        rw [List.mem_range]
        constructor
        · intro hi; simp [hi]
        · intro hi
          rcases Nat.lt_or_ge i ops.size with h' | h'
          · exact h'
          · simp [Array.getElem?_eq_none (show (Array.replicate ops.size false).size ≤ i by simpa using h')] at hi
      · intro i a y z _ _ hai hy hz
        rcases hpair i a y z hai hy hz with h | h
        · exact h
        · have := lt_of_live' hz
          omega
      · have := filterMap_range (l := l) 0 ops.size (by omega)
        rw [← List.range_eq_range'] at this
        rw [this, List.drop_zero]
        have := Sts.append s0 t1
        rwa [List.take_append_drop] at this
  obtain ⟨e, a', w', ⟨rfl, φ1, env1, H1, s2, s3, s4, s5, s6, s7, s8⟩, harr⟩ := wp_region_any hmix hw b k' cs
  have ha : a' = ⟨a'.tmps, []⟩ := by cases a'; simp at s5; simp [s5]
  rw [ha] at harr
  obtain ⟨v, w2, fr, r, φ', H', q1, q2, q3, q4, q5, q6, q7⟩ := s2 φ1 w' a'.tmps b k' cs hg s7 hb hk h2 s6 s3 s4
  exact ⟨v, w2, fr, r, φ', H', q1, q2, q3, q4, hx0.trans (s8.trans q5), Steps.trans harr q6, q7⟩
end Go.Abs

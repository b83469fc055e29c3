/- append, copy; all effects. -/
import Derived.Test.YtmbjamifiadncaaDoorA6
set_option linter.unusedVariables false
set_option linter.unusedSimpArgs false
namespace Go.Abs

section
variable {P : Program} {E : Emb} {env : Env} {tmps : Array Value}

theorem run_append_nothing'' (w : World) (t tx ty e : TypeId) (i : TypeInfo) (ht : P.underlying t = some (.slice e)) (hi : P.info? e = some i)
    (x : Value) (hs : Go.Src P i.size tx x 0 [] w) (base : Option Addr) (sLen sCap : Nat) (hle : sLen ≤ sCap) :
    (Builtin.append_ #[t, tx] ty #[.slice base sLen sCap, x]).run P w = .ok (.slice base sLen sCap) w := by
  rcases hs.kind with ⟨e', hk⟩ | hk <;> cases base <;> simp [Builtin.append_, run_underlying ht, run_underlying hk, sizeOf, typeInfo, hi, hs.len, hs.cells, hle, storeCells]

theorem exec_append (dst : Option Tmp) (x y : Operand) (t u type : TypeId) (pos : String) (after : Array Edge) (guard : Option (Nat × Bool)) :
    execOp (Act.eval ⟨tmps, []⟩) ⟨dst, .call ⟨.builtin .append, #[x, y], #[t, u]⟩, type, pos, after, guard⟩ =
      (do pure (Next.value (← Builtin.append_ #[t, u] type #[Act.eval ⟨tmps, []⟩ x, Act.eval ⟨tmps, []⟩ y]))) := by
  simp [execOp, resolve, invoke, builtin]

theorem drew_new (w : World) (o : Obj) : (w.drew.alloc o).heap[w.heap.size]? = some o := heap_alloc_new w.drew o

/-- Two rows' cells, one behind the other. -/
theorem two_reps {c1 c2 : List Value} {a1 a2 : List AV} {Q : Value → AV → Prop} (hl : c1.length = a1.length) (h1 : ∀ (k : Nat) u b, c1[k]? = some u → a1[k]? = some b → Q u b)
    (h2 : ∀ (k : Nat) u b, c2[k]? = some u → a2[k]? = some b → Q u b) : ∀ (k : Nat) u b, (c1 ++ c2)[k]? = some u → (a1 ++ a2)[k]? = some b → Q u b := by
  intro k u b hu hb
  rcases Nat.lt_or_ge k c1.length with hk | hk
  · rw [List.getElem?_append_left hk] at hu
    rw [List.getElem?_append_left (by omega)] at hb
    exact h1 k u b hu hb
  · rw [List.getElem?_append_right hk] at hu
    rw [List.getElem?_append_right (by omega), ← hl] at hb
    exact h2 _ u b hu hb

theorem app_nil_left {n0 : Nat} (hn : n0 ≤ E.H.length) (hok : HOk E) (he : RepEnv E env tmps) {t tx ty e : TypeId} {i : TypeInfo} {z : Value} (ht : P.underlying t = some (.slice e)) (hi : P.info? e = some i) (hz : i.zero = some z)
    (hzs : z.cells.size = i.size) (hpos : 0 < i.size) {x : Value} {ys : List AV} {news : List Value} (hs : Go.Src P i.size tx x ys.length news E.w) (hw : ∀ y ∈ ys, y.cells.length = i.size)
    (hnl : news.length = (ys.flatMap AV.cells).length) (hnr : ∀ (k : Nat) u b, news[k]? = some u → (ys.flatMap AV.cells)[k]? = some b → Rep E u b)
    (hb : ys.length * i.bytes ≤ 140737488355328) (h63 : ys.length ≤ 9223372036854775807) :
    Left P n0 E tmps (do pure (Next.value (← Builtin.append_ #[t, tx] ty #[.slice none 0 0, x]))) (.mu E.H.length 0 ys.length none) env (E.H ++ [some ⟨i.size, ys⟩]) := by
  by_cases h0 : ys = []
  · subst h0
    have : news = [] := by simpa using hnl
    subst this
    obtain ⟨h1, h2⟩ := hok.alloc (w := E.w) rfl rfl rfl (Nat.le_refl _) none (fun b hb => by cases hb) (fun _ _ => rfl) ⟨i.size, []⟩ hpos (by simp) (.inl ⟨rfl, rfl⟩)
    refine ⟨_, E.w, _, _, run_val (run_append_nothing' E.w t tx ty e i ht hi x hs), .inl rfl, h1, ?_, he.mono h2, h2.sub (fun j hj => Nat.lt_of_lt_of_le hj hn)⟩
    exact Rep.mu0 (E := ⟨fun j => if j = E.H.length then none else E.φ j, E.H ++ [some ⟨i.size, []⟩], E.w⟩) ⟨i.size, []⟩ E.H.length 0 none (by simp) (by simp) (fun c hc => by cases hc)
  · have hlen : 0 < ys.length := by cases ys with | nil => exact absurd rfl h0 | cons y ys => simp
    have hg := run_append_grow_src (P := P) E.w t tx ty e i z ht hi hz none 0 0 [] (run_firstCells_none E.w.drew i.size 0 0 0) x ys.length news hs (by omega) (by omega)
      (by rw [nextslicecap_zero (by omega)]; simp; omega)
    simp only [Nat.zero_add, List.nil_append] at hg
    have hge := grownCap_ge E.w ys.length 0 e
    have hfl := flat_len hw
    have hcs : (news.toArray ++ Builtin.zeroCells z.cells (grownCap E.w ys.length 0 e - ys.length)).size = grownCap E.w ys.length 0 e * i.size := by
      rw [Array.size_append, size_zeroCells, hzs, List.size_toArray, hnl, hfl, ← Nat.add_mul]; congr 1; omega
    obtain ⟨φ', h1, h2, h3, h4, h5⟩ := new_row (env := env) (tmps := tmps) (n0 := n0) hn hok he (w := E.w.drew.alloc (.cells (news.toArray ++ Builtin.zeroCells z.cells (grownCap E.w ys.length 0 e - ys.length)) e)) rfl rfl rfl (by simp) (alloc_keep E.w.drew _) E.w.heap.size (Nat.le_refl _)
      ⟨i.size, ys⟩ hpos hw (drew_new E.w _) (by rw [Array.size_append, Blk.flat, ← hnl]; simp) (fun k v b hv hb => by
        have hk := lt_of_live' hb
        rw [Blk.flat, ← hnl] at hk
        have hv' : news[k]? = some v := by
          rw [Array.getElem?_append_left (by simpa using hk)] at hv
          simpa using hv
        exact ⟨hs.one v (List.mem_of_getElem? hv'), hnr k v b hv' hb⟩)
    refine ⟨φ', _, _, _, run_val hg, .inl rfl, h1, ?_, h2, h3⟩
    refine Rep.mu (E := ⟨φ', E.H ++ [some ⟨i.size, ys⟩], _⟩) ⟨i.size, ys⟩ E.H.length 0 ys.length none E.w.heap.size 0 _ h5 h4 (.inl (by simp)) hge ?_ (fun c hc => by cases hc)
    simp only
    rw [rowSize_of (drew_new E.w _), hcs]; simp

theorem app_mu_left {n0 : Nat} (hok : HOk E) (he : RepEnv E env tmps) {t tx ty e : TypeId} {i : TypeInfo} {z : Value} (ht : P.underlying t = some (.slice e)) (hi : P.info? e = some i) (hz : i.zero = some z)
    (hzs : z.cells.size = i.size) {v x : Value} {ys : List AV} {news : List Value} (hs : Go.Src P i.size tx x ys.length news E.w) (hw : ∀ y ∈ ys, y.cells.length = i.size)
    (hnl : news.length = (ys.flatMap AV.cells).length) (hnr : ∀ (k : Nat) u b, news[k]? = some u → (ys.flatMap AV.cells)[k]? = some b → Rep E u b)
    {id len : Nat} {oc : Option Nat} (hr : Rep E v (.mu id 0 len oc)) {r : Blk} (hrow : E.H[id]? = some (some r)) (hwd : r.wd = i.size) (hle : len ≤ r.xs.length) (hn : n0 ≤ id)
    (hfree : Free E.H id) (hys : ∀ a ∈ ys.flatMap AV.cells, Ref (· ≠ id) a) (hxs : ∀ a ∈ r.xs.flatMap AV.cells, Ref (· ≠ id) a)
    (hb : (len + ys.length) * i.bytes ≤ 140737488355328) (h63 : len + ys.length ≤ 9223372036854775807) :
    Left P n0 E tmps (do pure (Next.value (← Builtin.append_ #[t, tx] ty #[v, x]))) (.mu id 0 (len + ys.length) (capAfter oc (len + ys.length))) (scrub id env) (E.H.set id (some ⟨i.size, r.xs.take len ++ ys⟩)) := by
  have hid := lt_of_live hrow
  have hpos := hok.wpos id r hrow
  have hwr := hok.wids id r hrow
  rw [hwd] at hpos hwr
  have hwx : ∀ x ∈ r.xs.take len ++ ys, x.cells.length = r.wd := by
    intro x hx
    rw [hwd]
    rcases List.mem_append.1 hx with hx | hx
    · exact hwr x (List.mem_of_mem_take hx)
    · exact hw x hx
  have hft : (r.xs.take len).flatMap AV.cells = r.flat.take (len * i.size) := flat_take hwr len
  have hfx : (r.xs.take len ++ ys).flatMap AV.cells = r.flat.take (len * i.size) ++ ys.flatMap AV.cells := by rw [List.flatMap_append, hft]
  have hfl : r.flat.length = r.xs.length * i.size := flat_len hwr
  have hfy : (ys.flatMap AV.cells).length = ys.length * i.size := flat_len hw
  have hmul : len * i.size ≤ r.xs.length * i.size := Nat.mul_le_mul_right _ hle
  have hadd : (len + ys.length) * i.size = len * i.size + ys.length * i.size := Nat.add_mul ..
  have htl : (r.flat.take (len * i.size)).length = len * i.size := by rw [List.length_take]; omega
  have hrefs : ∀ a ∈ (r.xs.take len ++ ys).flatMap AV.cells, Ref (· ≠ id) a := by
    intro a ha
    rw [hfx] at ha
    rcases List.mem_append.1 ha with ha | ha
    · exact hxs a (List.mem_of_mem_take ha)
    · exact hys a ha
  -- the new row's cells
  have fin : ∀ (w : World) (b q cap : Nat) (c : Array Value) (e' : TypeId), w.os = E.w.os → w.tape = E.w.tape → w.output = E.w.output → E.w.heap.size ≤ w.heap.size → (E.φ id = some b ∨ E.w.heap.size ≤ b) →
      (∀ b, b < E.w.heap.size → E.φ id ≠ some b → w.heap[b]? = E.w.heap[b]?) → w.heap[b]? = some (.cells c e' (0, 0)) → (len + ys.length) * i.size ≤ c.size →
      (∀ (k : Nat) u b, c[k]? = some u → (r.flat.take (len * i.size) ++ ys.flatMap AV.cells)[k]? = some b → u.oneCell' = true ∧ Rep E u b) →
      (Builtin.append_ #[t, tx] ty #[v, x]).run P E.w = .ok (.slice (some ⟨b, q, none⟩) (len + ys.length) cap) w → (q = 0 ∨ (len + ys.length = 0 ∧ cap = 0)) → len + ys.length ≤ cap → cap * i.size ≤ c.size → (∀ d, capAfter oc (len + ys.length) = some d → cap = d) →
      Left P n0 E tmps (do pure (Next.value (← Builtin.append_ #[t, tx] ty #[v, x]))) (.mu id 0 (len + ys.length) (capAfter oc (len + ys.length))) (scrub id env) (E.H.set id (some ⟨i.size, r.xs.take len ++ ys⟩)) := by
    intro w b q cap c e' o1 o2 o3 o4 hb' keep hh hfit hnew hrun hq hlc hcs hcap
    obtain ⟨h1, h2⟩ := hok.rebind o1 o2 o3 o4 hrow b hb' keep (r.xs.take len ++ ys) hwx hh (by rw [hfx, List.length_append, htl, hfy, ← hadd]; exact hfit) hfree (fun k u a hu ha => by
      have hm := hrefs a (List.mem_of_getElem? ha)
      rw [hfx] at ha
      exact ⟨(hnew k u a hu ha).1, (hnew k u a hu ha).2, hm⟩)
    rw [hwd] at h1 h2
    refine ⟨_, w, _, _, run_val hrun, .inl rfl, h1, ?_, he.scrub h2, h2.sub (fun j hj => by show j ≠ id; have : j < n0 := hj; omega)⟩
    refine Rep.mu (E := ⟨fun j => if j = id then some b else E.φ j, E.H.set id (some ⟨i.size, r.xs.take len ++ ys⟩), w⟩) ⟨i.size, r.xs.take len ++ ys⟩ id 0 (len + ys.length) _ b q cap ?_ (by simp) ?_ hlc ?_ hcap
    · simp only [set_get _ _ _ hid, if_true]
    · rcases hq with hq | hq
      · exact .inl (by rw [hq]; simp)
      · exact .inr hq
    · simp only
      rw [rowSize_of hh]; simpa using hcs
  have grow : ∀ (base : Option Addr) (cap : Nat) (olds : List Value), v = .slice base len cap → (Builtin.firstCells i.size len (.slice base len cap)).run P E.w.drew = .ok olds.toArray E.w.drew → cap < len + ys.length → len ≤ cap →
      olds.length = len * i.size → (∀ (k : Nat) u b, olds[k]? = some u → (r.flat.take (len * i.size))[k]? = some b → u.oneCell' = true ∧ Rep E u b) → (∀ d, oc = some d → cap = d) →
      Left P n0 E tmps (do pure (Next.value (← Builtin.append_ #[t, tx] ty #[v, x]))) (.mu id 0 (len + ys.length) (capAfter oc (len + ys.length))) (scrub id env) (E.H.set id (some ⟨i.size, r.xs.take len ++ ys⟩)) := by
    intro base cap olds hv hfo hg hlc holl hor hoc
    subst hv
    have hgr := run_append_grow_src (P := P) E.w t tx ty e i z ht hi hz base len cap olds hfo x ys.length news hs hg (by omega) (growslice_fits hg hb)
    have hge := grownCap_ge E.w (len + ys.length) cap e
    have hcs : ((olds ++ news).toArray ++ Builtin.zeroCells z.cells (grownCap E.w (len + ys.length) cap e - (len + ys.length))).size = grownCap E.w (len + ys.length) cap e * i.size := by
      rw [Array.size_append, size_zeroCells, hzs, List.size_toArray, List.length_append, holl, hnl, hfy, ← hadd, ← Nat.add_mul]; congr 1; omega
    refine fin _ E.w.heap.size 0 _ _ e (by rfl) (by rfl) (by rfl) (by simp) (.inr (Nat.le_refl _)) (fun b hb _ => alloc_keep E.w.drew _ b hb) (drew_new E.w _) ?_ ?_ hgr (.inl rfl) hge (by rw [hcs]; exact Nat.le_refl _) ?_
    · rw [Array.size_append, List.size_toArray, List.length_append, holl, hnl, hfy, ← hadd]; omega
    · intro k u b hu hb'
      have hk : k < (olds ++ news).length := by
        have := lt_of_live' hb'
        rw [List.length_append, htl, hfy] at this
        rw [List.length_append, holl, hnl, hfy]; exact this
      have hu' : (olds ++ news)[k]? = some u := by
        rw [Array.getElem?_append_left (by simpa using hk)] at hu
        simpa using hu
      exact two_reps (Q := fun u b => u.oneCell' = true ∧ Rep E u b) (by rw [holl, htl]) hor (fun k u b hu hb => ⟨hs.one u (List.mem_of_getElem? hu), hnr k u b hu hb⟩) k u b hu' hb'
    · intro d hd
      unfold capAfter at hd
      simp only [Option.bind_eq_some_iff] at hd
      obtain ⟨d', h1, h2⟩ := hd
      split at h2
      · have := hoc d' h1; omega
      · simp at h2
  cases hr with
  | mu blk _ _ _ _ bn q cap hlive hbn hq hlen hsz hoc =>
    rw [hrow] at hlive; cases hlive
    obtain ⟨c, e0, ro⟩ := hok.row id r bn hrow hbn
    have hfits := ro.fits
    have hsz' : cap * i.size ≤ c.size := by
      rw [rowSize_of ro.heap, hwd] at hsz; simpa using hsz
    have hcapl : (len) * i.size ≤ cap * i.size := Nat.mul_le_mul_right _ hlen
    have hold : ∀ (k : Nat) u b, c[k]? = some u → (r.flat.take (len * i.size))[k]? = some b → u.oneCell' = true ∧ Rep E u b := by
      intro k u b hu hb'
      rw [List.getElem?_take] at hb'
      split at hb'
      · exact ⟨ro.one k u (lt_of_live' hb') hu, ro.rep k u b hu hb'⟩
      · simp at hb'
    by_cases hy0 : ys = []
    · subst hy0
      have : news = [] := by simpa using hnl
      subst this
      have hrun := run_append_nothing'' E.w t tx ty e i ht hi x hs (some ⟨bn, q, none⟩) len cap hlen
      refine fin E.w bn q cap c e0 rfl rfl rfl (Nat.le_refl _) (.inl hbn) (fun _ _ _ => rfl) ro.heap (by simp; omega) ?_ hrun (by simp at hq ⊢; omega) (by simpa using hlen) hsz' ?_
      · intro k u b hu hb'
        simp only [List.flatMap_nil, List.append_nil] at hb'
        exact hold k u b hu hb'
      · intro d hd
        unfold capAfter at hd
        simp only [Option.bind_eq_some_iff] at hd
        obtain ⟨d', h1, h2⟩ := hd
        split at h2
        · have := hoc d' h1; simp at h2; omega
        · simp at h2
    · have hyl : 0 < ys.length := by cases ys with | nil => exact absurd rfl hy0 | cons y ys => simp
      by_cases hroom : len + ys.length ≤ cap
      · have hq0 : q = 0 := by
          rcases hq with hq | hq
          · simpa using hq
          · omega
        subst hq0
        have hcy : (len + ys.length) * i.size ≤ cap * i.size := Nat.mul_le_mul_right _ hroom
        have hrun := run_append_room_row (P := P) E.w t tx ty e i ht hi bn len cap c e0 ro.heap x ys.length news hs hroom (by rw [hnl, hfy, ← hadd]; omega)
        refine fin (E.w.setRow bn (c.toList.take (len * i.size) ++ news ++ c.toList.drop (len * i.size + news.length)).toArray) bn 0 cap _ e0 rfl rfl rfl (by simp) (.inl hbn) (fun b hb hne => setRow_other _ _ _ _ (fun he => hne (by rw [he]; exact hbn))) (setRow_same _ _ _ _ _ _ ro.heap) ?_ ?_ hrun (.inl rfl) hroom ?_ ?_
        · simp only [List.size_toArray, List.length_append, List.length_take, List.length_drop, Array.length_toList]; rw [hnl, hfy]; omega
        · intro k u b hu hb'
          have hu' : (c.toList.take (len * i.size) ++ (news ++ c.toList.drop (len * i.size + news.length)))[k]? = some u := by simpa [List.append_assoc] using hu
          refine two_reps (Q := fun u b => u.oneCell' = true ∧ Rep E u b) (by rw [htl, List.length_take, Array.length_toList]; omega) ?_ ?_ k u b hu' hb'
          · intro k u b hu hb'
            refine hold k u b ?_ hb'
            rw [List.getElem?_take] at hu
            split at hu
            · simpa using hu
            · simp at hu
          · intro k u b hu hb'
            rw [List.getElem?_append_left (by rw [hnl]; exact lt_of_live' hb')] at hu
            exact ⟨hs.one u (List.mem_of_getElem? hu), hnr k u b hu hb'⟩
        · simp only [List.size_toArray, List.length_append, List.length_take, List.length_drop, Array.length_toList]; rw [hnl, hfy]; omega
        · intro d hd
          unfold capAfter at hd
          simp only [Option.bind_eq_some_iff] at hd
          obtain ⟨d', h1, h2⟩ := hd
          split at h2
          · have := hoc d' h1; simp at h2; omega
          · simp at h2
      · have hfo : (Builtin.firstCells i.size len (.slice (some ⟨bn, q, none⟩) len cap)).run P E.w.drew = .ok (c.toList.take (len * i.size)).toArray E.w.drew := by
          refine run_firstCells_some E.w.drew i.size len _ len cap _ (by rw [List.length_take, Array.length_toList]; omega) (fun j u hj => ?_)
          have hj' := lt_of_live' hj
          rw [List.length_take] at hj'
          have hne : len ≠ 0 := by rintro rfl; simp at hj'
          have hq0 : q = 0 := by
            rcases hq with hq | hq
            · simpa using hq
            · omega
          subst hq0
          rw [Addr.add_lit, World.cell?_drew, cell_of_row _ _ _ _ _ _ ro.heap]
          rw [List.getElem?_take] at hj
          split at hj
          · simpa using hj
          · simp at hj
        refine grow _ cap _ rfl hfo (by omega) hlen (by rw [List.length_take, Array.length_toList]; omega) (fun k u b hu hb' => ?_) hoc
        refine hold k u b ?_ hb'
        rw [List.getElem?_take] at hu
        split at hu
        · simpa using hu
        · simp at hu
  | mu0 blk _ _ _ hlive hbn hoc =>
    rw [hrow] at hlive; cases hlive
    have hx0 := hok.emp id r hrow hbn
    by_cases hy0 : ys = []
    · subst hy0
      have : news = [] := by simpa using hnl
      subst this
      have hrun := run_append_nothing'' E.w t tx ty e i ht hi x hs none 0 0 (Nat.le_refl _)
      have hsame : E.H.set id (some ⟨i.size, r.xs.take 0 ++ []⟩) = E.H := by
        apply List.ext_getElem?
        intro j
        rw [set_get _ _ _ hid]
        split
        · rename_i hj; subst hj
          rw [hrow, ← hwd]
          cases r; simp at hx0 ⊢; exact hx0
        · rfl
      rw [hsame]
      refine ⟨E.φ, E.w, _, _, run_val hrun, .inl rfl, hok, ?_, ?_, Ext.refl _ _⟩
      · refine Rep.mu0 (E := ⟨E.φ, E.H, E.w⟩) r id 0 _ hrow hbn ?_
        intro d hd
        unfold capAfter at hd
        simp only [Option.bind_eq_some_iff] at hd
        obtain ⟨d', h1, h2⟩ := hd
        split at h2
        · have := hoc d' h1; simp at h2; omega
        · simp at h2
      · intro t
        rw [look_scrub]
        split
        · exact he t
        · exact .top _
    · have hyl : 0 < ys.length := by cases ys with | nil => exact absurd rfl hy0 | cons y ys => simp
      refine grow none 0 [] rfl (run_firstCells_none E.w.drew i.size 0 0 0) (by omega) (by omega) (by simp) (fun k u b hu _ => by simp at hu) (fun d hd => hoc d hd)
  | dead _ _ id' hr' hd h1 =>
    simp [AV.ref] at hr'; subst hr'
    rw [hrow] at hd; cases hd

/-- Behind a row's elements, where there is room: what else names the row stays. -/
theorem app_room_left {n0 : Nat} (hok : HOk E) (he : RepEnv E env tmps) {t tx ty e : TypeId} {i : TypeInfo} (ht : P.underlying t = some (.slice e)) (hi : P.info? e = some i)
    {v x : Value} {ys : List AV} {news : List Value} (hs : Go.Src P i.size tx x ys.length news E.w) (hw : ∀ y ∈ ys, y.cells.length = i.size)
    (hnl : news.length = (ys.flatMap AV.cells).length) (hnr : ∀ (k : Nat) u b, news[k]? = some u → (ys.flatMap AV.cells)[k]? = some b → Rep E u b)
    {id len : Nat} {oc : Option Nat} (hr : Rep E v (.mu id 0 len oc)) {r : Blk} (hrow : E.H[id]? = some (some r)) (hwd : r.wd = i.size) (hle : len ≤ r.xs.length) (hn : n0 ≤ id)
    (hyl : 0 < ys.length) (hroom : (oc.any fun c => decide (len + ys.length ≤ c)) = true) :
    Left P n0 E tmps (do pure (Next.value (← Builtin.append_ #[t, tx] ty #[v, x]))) (.mu id 0 (len + ys.length) oc) env (E.H.set id (some ⟨i.size, r.xs.take len ++ ys⟩)) := by
  have hid := lt_of_live hrow
  have hwr := hok.wids id r hrow
  obtain ⟨c0, rfl, hc0⟩ : ∃ c, oc = some c ∧ len + ys.length ≤ c := by
    cases oc with
    | none => simp at hroom
    | some c => exact ⟨c, rfl, by simpa using hroom⟩
  have hft : (r.xs.take len).flatMap AV.cells = r.flat.take (len * i.size) := by rw [hwd] at hwr; exact flat_take hwr len
  have hfx : (r.xs.take len ++ ys).flatMap AV.cells = r.flat.take (len * i.size) ++ ys.flatMap AV.cells := by rw [List.flatMap_append, hft]
  have hfl : r.flat.length = r.xs.length * i.size := by rw [hwd] at hwr; exact flat_len hwr
  have hfy : (ys.flatMap AV.cells).length = ys.length * i.size := flat_len hw
  have hmul : len * i.size ≤ r.xs.length * i.size := Nat.mul_le_mul_right _ hle
  have hadd : (len + ys.length) * i.size = len * i.size + ys.length * i.size := Nat.add_mul ..
  have htl : (r.flat.take (len * i.size)).length = len * i.size := by rw [List.length_take]; omega
  cases hr with
  | mu blk _ _ _ _ bn q cap hlive hbn hq hlen hsz hoc =>
    rw [hrow] at hlive; cases hlive
    have hcc := hoc c0 rfl
    subst hcc
    obtain ⟨c, e0, ro⟩ := hok.row id r bn hrow hbn
    have hsz' : cap * i.size ≤ c.size := by
      rw [rowSize_of ro.heap, hwd] at hsz; simpa using hsz
    have hq0 : q = 0 := by
      rcases hq with hq | hq
      · simpa using hq
      · omega
    subst hq0
    have hcy : (len + ys.length) * i.size ≤ cap * i.size := Nat.mul_le_mul_right _ hc0
    have hrun := run_append_room_row (P := P) E.w t tx ty e i ht hi bn len cap c e0 ro.heap x ys.length news hs hc0 (by rw [hnl, hfy, ← hadd]; omega)
    have hold : ∀ (k : Nat) u b, c[k]? = some u → (r.flat.take (len * i.size))[k]? = some b → u.oneCell' = true ∧ Rep E u b := by
      intro k u b hu hb'
      rw [List.getElem?_take] at hb'
      split at hb'
      · exact ⟨ro.one k u (lt_of_live' hb') hu, ro.rep k u b hu hb'⟩
      · simp at hb'
    have hsize : (c.toList.take (len * i.size) ++ news ++ c.toList.drop (len * i.size + news.length)).toArray.size = c.size := by
      simp only [List.size_toArray, List.length_append, List.length_take, List.length_drop, Array.length_toList]; rw [hnl, hfy]; omega
    obtain ⟨h1, h2⟩ := hok.write hrow hbn ro (c.toList.take (len * i.size) ++ news ++ c.toList.drop (len * i.size + news.length)).toArray (r.xs.take len ++ ys) hsize (by
      intro y hy
      rcases List.mem_append.1 hy with hy | hy
      · exact hwr y (List.mem_of_mem_take hy)
      · rw [hwd]; exact hw y hy) (by rw [hsize, hfx, List.length_append, htl, hfy, ← hadd]; omega) (by
      intro k u b hu hb'
      rw [hfx] at hb'
      have hu' : (c.toList.take (len * i.size) ++ (news ++ c.toList.drop (len * i.size + news.length)))[k]? = some u := by simpa [List.append_assoc] using hu
      refine two_reps (Q := fun u b => u.oneCell' = true ∧ Rep E u b) (by rw [htl, List.length_take, Array.length_toList]; omega) ?_ ?_ k u b hu' hb'
      · intro k u b hu hb'
        refine hold k u b ?_ hb'
        rw [List.getElem?_take] at hu
        split at hu
        · simpa using hu
        · simp at hu
      · intro k u b hu hb'
        rw [List.getElem?_append_left (by rw [hnl]; exact lt_of_live' hb')] at hu
        exact ⟨hs.one u (List.mem_of_getElem? hu), hnr k u b hu hb'⟩)
    rw [hwd] at h1 h2
    refine ⟨_, _, _, _, run_val hrun, .inl rfl, h1, ?_, fun tt => (he tt).mono h2 (he tt).ref, h2.sub (fun j hj => by show j < E.H.length; have : j < n0 := hj; omega)⟩
    refine Rep.mu (E := ⟨E.φ, E.H.set id (some ⟨i.size, r.xs.take len ++ ys⟩), _⟩) ⟨i.size, r.xs.take len ++ ys⟩ id 0 (len + ys.length) _ bn 0 cap ?_ hbn (.inl (by simp)) hc0 ?_ hoc
    · simp only [set_get _ _ _ hid, if_true]
    · simp only
      rw [rowSize_of (setRow_same _ _ _ _ _ _ ro.heap), hsize]; simpa using hsz'
  | mu0 blk _ _ _ hlive hbn hoc => have := hoc c0 rfl; omega
  | dead _ _ id' hr' hd h1 =>
    simp [AV.ref] at hr'; subst hr'
    rw [hrow] at hd; cases hd

/-! ### copy -/
theorem src_raw (hok : HOk E) {wd : Nat} {v : Value} {a : AV} (hr : Rep E v a) {ys : List AV} (h : srcEls E.H wd false a = some ys) :
    ∃ base cap, v = .slice base ys.length cap ∧ (∀ y ∈ ys, y.cells.length = wd) ∧ ∃ news : List Value, news.length = (ys.flatMap AV.cells).length ∧ (∀ u ∈ news, u.oneCell' = true) ∧
      (∀ (k : Nat) u b, news[k]? = some u → (ys.flatMap AV.cells)[k]? = some b → Rep E u b) ∧ (news = [] ∨ ∃ ad, base = some ad ∧ ∀ (j : Nat) u, news[j]? = some u → E.w.cell? (ad.add j) = some u) := by
  cases hr with
  | nil =>
    simp only [srcEls] at h
    cases h
    exact ⟨none, 0, rfl, by simp, [], rfl, by simp, fun k u b h => by simp at h, .inl rfl⟩
  | sl base cap wd' xs vs b o hcap hpos hw hcl hbase hlen hcell hrep =>
    simp only [srcEls] at h
    split at h
    · rename_i hs
      cases h
      obtain ⟨_, rfl⟩ := hs
      refine ⟨base, cap, rfl, hw, vs, hlen, ?_, hrep, ?_⟩
      · intro u hu
        obtain ⟨k, hk, rfl⟩ := List.getElem_of_mem hu
        exact (hcell k _ (List.getElem?_eq_getElem hk)).2
      · rcases hbase with rfl | ⟨rfl, hm⟩
        · exact .inl (by simpa using hlen)
        · exact .inr ⟨_, rfl, fun j u hj => by rw [Addr.add_lit]; exact (hcell j u hj).1⟩
    · simp at h
  | mu blk id off len oc bn q cap hlive hbn hq hlen hsz hoc =>
    simp only [srcEls, Option.bind_eq_some_iff] at h
    obtain ⟨blk', hb', h⟩ := h
    have hb2 := hrow_some hb'
    rw [hlive] at hb2; cases hb2
    split at h
    · rename_i hs
      cases h
      obtain ⟨hs, hwd, hle⟩ := hs
      have hw := hok.wids id blk hlive
      have hfl : blk.flat.length = blk.xs.length * blk.wd := flat_len hw
      obtain ⟨c, e, r⟩ := hok.row id blk bn hlive hbn
      subst hwd
      have hl : ((blk.xs.drop off).take len).length = len := by simp; omega
      have hf : ((blk.xs.drop off).take len).flatMap AV.cells = (blk.flat.drop (off * blk.wd)).take (len * blk.wd) := by
        rw [flat_take (wd := blk.wd) (fun x hx => hw x (List.mem_of_mem_drop hx)), flat_drop hw]; rfl
      have hmul : (off + len) * blk.wd ≤ blk.xs.length * blk.wd := Nat.mul_le_mul_right _ hle
      have hmul' : (off + len) * blk.wd = off * blk.wd + len * blk.wd := Nat.add_mul ..
      have hfit := r.fits
      have hnl : ((c.toList.drop (off * blk.wd)).take (len * blk.wd)).length = len * blk.wd := by
        rw [List.length_take, List.length_drop, Array.length_toList]; omega
      refine ⟨some ⟨bn, q, none⟩, cap, by rw [hl], fun y hy => hw y (List.mem_of_mem_drop (List.mem_of_mem_take hy)), (c.toList.drop (off * blk.wd)).take (len * blk.wd), ?_, ?_, ?_, ?_⟩
      · rw [hf, hnl, List.length_take, List.length_drop]; omega
      · intro u hu
        obtain ⟨k, hk, rfl⟩ := List.getElem_of_mem hu
        rw [hnl] at hk
        refine r.one (off * blk.wd + k) _ (by omega) ?_
        rw [List.getElem_take, List.getElem_drop]
        simp
      · intro k u b hku hkb
        rw [hf] at hkb
        rw [List.getElem?_take] at hku hkb
        split at hku
        · rename_i hlt
          simp only [hlt, if_true] at hkb
          rw [List.getElem?_drop] at hku hkb
          exact r.rep _ u b (by simpa using hku) hkb
        · simp at hku
      · by_cases hz : len = 0
        · subst hz; exact .inl (by simp)
        · refine .inr ⟨_, rfl, fun j u hj => ?_⟩
          have hq' : q = off * blk.wd := hq.resolve_right (by omega)
          rw [Addr.add_lit, hq', cell_of_row _ _ _ _ _ _ r.heap]
          rw [List.getElem?_take] at hj
          split at hj
          · simpa using hj
          · simp at hj
    · simp at h
  | mu0 blk id off oc hlive hbn hoc =>
    simp only [srcEls, Option.bind_eq_some_iff] at h
    obtain ⟨blk', hb', h⟩ := h
    split at h
    · cases h
      simp only [List.take_zero]
      exact ⟨none, 0, rfl, by simp, [], rfl, by simp, fun k u b h => by simp at h, .inl rfl⟩
    · simp at h
  | dead v a id hr hd h1 =>
    cases a <;> simp [AV.ref] at hr
    · subst hr; simp [srcEls, hrow, hd] at h
    · simp [srcEls] at h
  | _ => simp [srcEls] at h

theorem run_copy_raw (w : World) (t u ty e : TypeId) (i : TypeInfo) (ht : P.underlying t = some (.slice e)) (hi : P.info? e = some i) (g o dLen dCap : Nat) (base : Option Addr) (sLen sCap : Nat) (cur : Array Value) (et : TypeId)
    (hg : w.heap[g]? = some (.cells cur et (0, 0))) (cs : List Value) (hn : cs.length = Nat.min sLen dLen * i.size) (hsrc : cs = [] ∧ (base = none → Nat.min sLen dLen = 0) ∨ ∃ ad, base = some ad ∧ ∀ (j : Nat) v, cs[j]? = some v → w.cell? (ad.add j) = some v)
    (hfit : o + cs.length ≤ cur.size) (h1 : ∀ v ∈ cs, v.oneCell' = true) :
    (Builtin.copy_ #[t, u] ty #[.slice (some ⟨g, o, none⟩) dLen dCap, .slice base sLen sCap]).run P w =
      .ok (goInt (Nat.min sLen dLen)) (w.setRow g (cur.toList.take o ++ cs ++ cur.toList.drop (o + cs.length)).toArray) := by
  have hst := run_storeCells_at P g o et cs 0 cur w hg (by simpa using hfit) h1
  simp only [Nat.add_zero] at hst
  have hf : (Builtin.firstCells i.size (Nat.min sLen dLen) (.slice base sLen sCap)).run P w = .ok cs.toArray w := by
    rcases hsrc with ⟨rfl, hb⟩ | ⟨ad, rfl, hc⟩
    · cases base with
      | none => exact run_firstCells_none w i.size _ sLen sCap
      | some ad => exact run_firstCells_some w i.size _ ad sLen sCap [] hn (fun j v hj => by simp at hj)
    · exact run_firstCells_some w i.size _ ad sLen sCap cs hn hc
  simp only [Builtin.copy_, Array.getElem?_toList]
  simp [run_underlying ht, Builtin.lenOf, sizeOf, typeInfo, hi, hf, hst]

theorem exec_copy (dst : Option Tmp) (x y : Operand) (t u type : TypeId) (pos : String) (after : Array Edge) (guard : Option (Nat × Bool)) :
    execOp (Act.eval ⟨tmps, []⟩) ⟨dst, .call ⟨.builtin .copy, #[x, y], #[t, u]⟩, type, pos, after, guard⟩ =
      (do pure (Next.value (← Builtin.copy_ #[t, u] type #[Act.eval ⟨tmps, []⟩ x, Act.eval ⟨tmps, []⟩ y]))) := by
  simp [execOp, resolve, invoke, builtin]

theorem cpy_left {n0 : Nat} (hn0 : n0 ≤ E.H.length) (hok : HOk E) (he : RepEnv E env tmps) {t u ty e : TypeId} (ht : P.underlying t = some (.slice e)) {i : TypeInfo} (hi : P.info? e = some i)
    {v x : Value} {b : AV} {ys : List AV} (hx : Rep E x b) (hys : srcEls E.H i.size false b = some ys) {id off len : Nat} {oc : Option Nat} (hr : Rep E v (.mu id off len oc)) {r : Blk} (hrow : E.H[id]? = some (some r)) (hwd : r.wd = i.size)
    (hle : off + len ≤ r.xs.length) :
    Left P n0 E tmps (do pure (Next.value (← Builtin.copy_ #[t, u] ty #[v, x]))) (.int .i64 (min ys.length len : Nat)) env (E.H.set id (some ⟨i.size, r.xs.take off ++ ys.take (min ys.length len) ++ r.xs.drop (off + min ys.length len)⟩)) := by
  obtain ⟨base, scap, rfl, hw, news, hnl, hn1, hnr, hsrc⟩ := src_raw hok hx hys
  have hid := lt_of_live hrow
  have hwr := hok.wids id r hrow
  rw [hwd] at hwr
  have hfy : (ys.flatMap AV.cells).length = ys.length * i.size := flat_len hw
  have hfl : r.flat.length = r.xs.length * i.size := flat_len hwr
  generalize hm : min ys.length len = m
  have hmin : Nat.min ys.length len = m := hm
  have hmy : m ≤ ys.length := by omega
  have hml : m ≤ len := by omega
  have hmul1 : m * i.size ≤ ys.length * i.size := Nat.mul_le_mul_right _ hmy
  have hmul2 : (off + m) * i.size ≤ r.xs.length * i.size := Nat.mul_le_mul_right _ (by omega)
  have hmul3 : (off + m) * i.size = off * i.size + m * i.size := Nat.add_mul ..
  have hcl : (news.take (m * i.size)).length = m * i.size := by rw [List.length_take]; omega
  have hwx : ∀ x ∈ r.xs.take off ++ ys.take m ++ r.xs.drop (off + m), x.cells.length = r.wd := by
    intro x hx
    rw [hwd]
    rcases List.mem_append.1 hx with hx | hx
    · rcases List.mem_append.1 hx with hx | hx
      · exact hwr x (List.mem_of_mem_take hx)
      · exact hw x (List.mem_of_mem_take hx)
    · exact hwr x (List.mem_of_mem_drop hx)
  have hfx : (r.xs.take off ++ ys.take m ++ r.xs.drop (off + m)).flatMap AV.cells = r.flat.take (off * i.size) ++ ((ys.flatMap AV.cells).take (m * i.size) ++ r.flat.drop (off * i.size + m * i.size)) := by
    rw [List.flatMap_append, List.flatMap_append, flat_take hwr, flat_take hw, flat_drop hwr, hmul3, List.append_assoc]; rfl
  cases hr with
  | mu blk _ _ _ _ bn q cap hlive hbn hq hlen hsz hoc =>
    rw [hrow] at hlive; cases hlive
    obtain ⟨c, e0, ro⟩ := hok.row id r bn hrow hbn
    have hfits := ro.fits
    by_cases hl0 : len = 0
    · obtain rfl : m = 0 := by omega
      subst hl0
      have hsame : E.H.set id (some ⟨i.size, r.xs.take off ++ ys.take 0 ++ r.xs.drop (off + 0)⟩) = E.H := by
        apply List.ext_getElem?
        intro j
        rw [set_get _ _ _ hid]
        split
        · rename_i hj; subst hj
          rw [hrow, ← hwd]
          simp
        · rfl
      rw [hsame]
      have hrun : (Builtin.copy_ #[t, u] ty #[.slice (some ⟨bn, q, none⟩) 0 cap, .slice base ys.length scap]).run P E.w = .ok (goInt 0) E.w := by
        have hf : (Builtin.firstCells i.size 0 (.slice base ys.length scap)).run P E.w = .ok #[] E.w := by
          cases base with
          | none => exact run_firstCells_none E.w i.size _ _ _
          | some ad => exact run_firstCells_some E.w i.size 0 ad _ _ [] (by simp) (fun j v hj => by simp at hj)
        have hz : Nat.min ys.length 0 = 0 := hmin
        simp [Builtin.copy_, run_underlying ht, Builtin.lenOf, sizeOf, typeInfo, hi, hz, hf, storeCells]
      exact ⟨E.φ, E.w, _, _, run_val hrun, .inl rfl, hok, .int _ _, he, Ext.refl _ _⟩
    · have hq' : q = off * i.size := by
        rcases hq with hq | hq
        · rw [hq, hwd]
        · omega
      subst hq'
      have hrun := run_copy_raw (P := P) E.w t u ty e i ht hi bn (off * i.size) len cap base ys.length scap c e0 ro.heap (news.take (m * i.size)) (by rw [hcl, hmin]) (by
        rcases hsrc with rfl | ⟨ad, rfl, hc⟩
        · left
          refine ⟨by simp, fun _ => ?_⟩
          have : ys.length * i.size = 0 := by rw [← hfy, ← hnl]; rfl
          have hp := hok.wpos id r hrow
          rw [hwd] at hp
          have : ys.length = 0 := by
            rcases Nat.mul_eq_zero.1 this with h | h
            · exact h
            · omega
          rw [hmin]; omega
        · right
          refine ⟨ad, rfl, fun j v hj => hc j v ?_⟩
          rw [List.getElem?_take] at hj
          split at hj
          · exact hj
          · simp at hj) (by rw [hcl]; omega) (fun v hv => hn1 v (List.mem_of_mem_take hv))
      rw [hmin] at hrun
      obtain ⟨h1, h2⟩ := hok.write hrow hbn ro (c.toList.take (off * i.size) ++ news.take (m * i.size) ++ c.toList.drop (off * i.size + (news.take (m * i.size)).length)).toArray
        (r.xs.take off ++ ys.take m ++ r.xs.drop (off + m)) (by
          simp only [List.size_toArray, List.length_append, List.length_drop, hcl, Array.length_toList]
          rw [List.length_take, Array.length_toList]; omega) hwx (by
          rw [hfx]
          simp only [List.size_toArray, List.length_append, List.length_drop, List.length_take, Array.length_toList]
          omega) (by
          intro k v b hv hb
          rw [hfx] at hb
          have hv' : (c.toList.take (off * i.size) ++ (news.take (m * i.size) ++ c.toList.drop (off * i.size + m * i.size)))[k]? = some v := by
            rw [hcl] at hv; simpa [List.append_assoc] using hv
          refine two_reps (Q := fun u b => u.oneCell' = true ∧ Rep E u b) (by rw [List.length_take, List.length_take, Array.length_toList]; omega) ?_ ?_ k v b hv' hb
          · intro k u b hu hb
            rw [List.getElem?_take] at hu hb
            split at hu
            · rename_i hlt
              simp only [hlt, if_true] at hb
              have hu' : c[k]? = some u := by simpa using hu
              exact ⟨ro.one k u (lt_of_live' hb) hu', ro.rep k u b hu' hb⟩
            · simp at hu
          · refine two_reps (Q := fun u b => u.oneCell' = true ∧ Rep E u b) (by rw [hcl, List.length_take]; omega) ?_ ?_
            · intro k u b hu hb
              rw [List.getElem?_take] at hu hb
              split at hu
              · rename_i hlt
                simp only [hlt, if_true] at hb
                exact ⟨hn1 u (List.mem_of_getElem? hu), hnr k u b hu hb⟩
              · simp at hu
            · intro k u b hu hb
              rw [List.getElem?_drop] at hu hb
              have hu' : c[off * i.size + m * i.size + k]? = some u := by simpa using hu
              exact ⟨ro.one _ u (lt_of_live' hb) hu', ro.rep _ u b hu' hb⟩)
      rw [hwd] at h1 h2
      exact ⟨E.φ, _, _, _, run_val hrun, .inl rfl, h1, .int _ _, he.mono h2, h2.sub (fun j hj => Nat.lt_of_lt_of_le hj hn0)⟩
  | mu0 blk _ _ _ hlive hbn hoc =>
    rw [hrow] at hlive; cases hlive
    obtain rfl : m = 0 := by omega
    have hsame : E.H.set id (some ⟨i.size, r.xs.take off ++ ys.take 0 ++ r.xs.drop (off + 0)⟩) = E.H := by
      apply List.ext_getElem?
      intro j
      rw [set_get _ _ _ hid]
      split
      · rename_i hj; subst hj
        rw [hrow, ← hwd]
        simp
      · rfl
    rw [hsame]
    have hrun : (Builtin.copy_ #[t, u] ty #[.slice none 0 0, .slice base ys.length scap]).run P E.w = .ok (goInt 0) E.w := by
      have hf : (Builtin.firstCells i.size 0 (.slice base ys.length scap)).run P E.w = .ok #[] E.w := by
        cases base with
        | none => exact run_firstCells_none E.w i.size _ _ _
        | some ad => exact run_firstCells_some E.w i.size 0 ad _ _ [] (by simp) (fun j v hj => by simp at hj)
      have hz : Nat.min ys.length 0 = 0 := hmin
      simp [Builtin.copy_, run_underlying ht, Builtin.lenOf, sizeOf, typeInfo, hi, hz, hf]
    exact ⟨E.φ, E.w, _, _, run_val hrun, .inl rfl, hok, .int _ _, he, Ext.refl _ _⟩
  | dead _ _ id' hr' hd h1 =>
    simp [AV.ref] at hr'; subst hr'
    rw [hrow] at hd; cases hd

end
section
variable {P : Program} {E : Emb} {env : Env} {tmps : Array Value}
/-- Behind a part that has no room left: a new row. -/
theorem app_full_left {n0 : Nat} (hn : n0 ≤ E.H.length) (hok : HOk E) (he : RepEnv E env tmps) {t tx ty e : TypeId} {i : TypeInfo} {z : Value} (ht : P.underlying t = some (.slice e)) (hi : P.info? e = some i) (hz : i.zero = some z)
    (hzs : z.cells.size = i.size) {v x : Value} {ys : List AV} {news : List Value} (hs : Go.Src P i.size tx x ys.length news E.w) (hw : ∀ y ∈ ys, y.cells.length = i.size)
    (hnl : news.length = (ys.flatMap AV.cells).length) (hnr : ∀ (k : Nat) u b, news[k]? = some u → (ys.flatMap AV.cells)[k]? = some b → Rep E u b)
    {id off len d : Nat} (hr : Rep E v (.mu id off len (some d))) {r : Blk} (hrow : E.H[id]? = some (some r)) (hwd : r.wd = i.size) (hle : off + len ≤ r.xs.length) (hyl : 0 < ys.length) (hful : d < len + ys.length)
    (hb : (len + ys.length) * i.bytes ≤ 140737488355328) (h63 : len + ys.length ≤ 9223372036854775807) :
    Left P n0 E tmps (do pure (Next.value (← Builtin.append_ #[t, tx] ty #[v, x]))) (.mu E.H.length 0 (len + ys.length) none) env (E.H ++ [some ⟨i.size, (r.xs.drop off).take len ++ ys⟩]) := by
  have hid := lt_of_live hrow
  have hpos := hok.wpos id r hrow
  have hwr := hok.wids id r hrow
  rw [hwd] at hpos hwr
  have hwx : ∀ x ∈ (r.xs.drop off).take len ++ ys, x.cells.length = i.size := by
    intro x hx
    rcases List.mem_append.1 hx with hx | hx
    · exact hwr x (List.mem_of_mem_drop (List.mem_of_mem_take hx))
    · exact hw x hx
  have hwd' : ∀ x ∈ r.xs.drop off, x.cells.length = i.size := fun x hx => hwr x (List.mem_of_mem_drop hx)
  have hft : ((r.xs.drop off).take len).flatMap AV.cells = (r.flat.drop (off * i.size)).take (len * i.size) := by
    rw [flat_take hwd', flat_drop hwr]; rfl
  have hfl : r.flat.length = r.xs.length * i.size := flat_len hwr
  have hfy : (ys.flatMap AV.cells).length = ys.length * i.size := flat_len hw
  have hmul : (off + len) * i.size ≤ r.xs.length * i.size := Nat.mul_le_mul_right _ hle
  have hadd0 : (off + len) * i.size = off * i.size + len * i.size := Nat.add_mul ..
  have hadd : (len + ys.length) * i.size = len * i.size + ys.length * i.size := Nat.add_mul ..
  have htl : ((r.flat.drop (off * i.size)).take (len * i.size)).length = len * i.size := by rw [List.length_take, List.length_drop]; omega
  have grow : ∀ (base : Option Addr) (cap : Nat) (olds : List Value), v = .slice base len cap → (Builtin.firstCells i.size len (.slice base len cap)).run P E.w.drew = .ok olds.toArray E.w.drew → cap < len + ys.length → len ≤ cap →
      olds.length = len * i.size → (∀ (k : Nat) u b, olds[k]? = some u → ((r.flat.drop (off * i.size)).take (len * i.size))[k]? = some b → u.oneCell' = true ∧ Rep E u b) →
      Left P n0 E tmps (do pure (Next.value (← Builtin.append_ #[t, tx] ty #[v, x]))) (.mu E.H.length 0 (len + ys.length) none) env (E.H ++ [some ⟨i.size, (r.xs.drop off).take len ++ ys⟩]) := by
    intro base cap olds hv hfo hg hlc holl hor
    subst hv
    have hgr := run_append_grow_src (P := P) E.w t tx ty e i z ht hi hz base len cap olds hfo x ys.length news hs hg (by omega) (growslice_fits hg hb)
    have hge := grownCap_ge E.w (len + ys.length) cap e
    have hcs : ((olds ++ news).toArray ++ Builtin.zeroCells z.cells (grownCap E.w (len + ys.length) cap e - (len + ys.length))).size = grownCap E.w (len + ys.length) cap e * i.size := by
      rw [Array.size_append, size_zeroCells, hzs, List.size_toArray, List.length_append, holl, hnl, hfy, ← hadd, ← Nat.add_mul]; congr 1; omega
    have hflat : (Blk.mk i.size ((r.xs.drop off).take len ++ ys)).flat = (r.flat.drop (off * i.size)).take (len * i.size) ++ ys.flatMap AV.cells := by
      show ((r.xs.drop off).take len ++ ys).flatMap AV.cells = _
      rw [List.flatMap_append, hft]
    obtain ⟨φ', h1, h2, h3, h4, h5⟩ := new_row (env := env) (tmps := tmps) (n0 := n0) hn hok he (w := E.w.drew.alloc (.cells ((olds ++ news).toArray ++ Builtin.zeroCells z.cells (grownCap E.w (len + ys.length) cap e - (len + ys.length))) e)) rfl rfl rfl (by simp) (alloc_keep E.w.drew _) E.w.heap.size (Nat.le_refl _)
      ⟨i.size, (r.xs.drop off).take len ++ ys⟩ hpos hwx (drew_new E.w _) (by rw [hflat, Array.size_append, List.size_toArray, List.length_append, List.length_append, holl, htl, hnl]; omega) (fun k u b hu hb' => by
        rw [hflat] at hb'
        have hk : k < (olds ++ news).length := by
          have := lt_of_live' hb'
          rw [List.length_append, htl, hfy] at this
          rw [List.length_append, holl, hnl, hfy]; exact this
        have hu' : (olds ++ news)[k]? = some u := by
          rw [Array.getElem?_append_left (by simpa using hk)] at hu
          simpa using hu
        exact two_reps (Q := fun u b => u.oneCell' = true ∧ Rep E u b) (by rw [holl, htl]) hor (fun k u b hu hb => ⟨hs.one u (List.mem_of_getElem? hu), hnr k u b hu hb⟩) k u b hu' hb')
    refine ⟨φ', _, _, _, run_val hgr, .inl rfl, h1, ?_, h2, h3⟩
    refine Rep.mu (E := ⟨φ', E.H ++ [some ⟨i.size, (r.xs.drop off).take len ++ ys⟩], _⟩) ⟨i.size, (r.xs.drop off).take len ++ ys⟩ E.H.length 0 (len + ys.length) none E.w.heap.size 0 _ h5 h4 (.inl (by simp)) hge ?_ (fun c hc => by cases hc)
    simp only
    rw [rowSize_of (drew_new E.w _), hcs]; simp
  cases hr with
  | mu blk _ _ _ _ bn q cap hlive hbn hq hlen hsz hoc =>
    rw [hrow] at hlive; cases hlive
    have hcd := hoc d rfl
    obtain ⟨c, e0, ro⟩ := hok.row id r bn hrow hbn
    have hfits := ro.fits
    have hol : ((c.toList.drop (off * i.size)).take (len * i.size)).length = len * i.size := by rw [List.length_take, List.length_drop, Array.length_toList]; omega
    have hfo : (Builtin.firstCells i.size len (.slice (some ⟨bn, q, none⟩) len cap)).run P E.w.drew = .ok ((c.toList.drop (off * i.size)).take (len * i.size)).toArray E.w.drew := by
      refine run_firstCells_some E.w.drew i.size len _ len cap _ hol (fun j u hj => ?_)
      have hj' := lt_of_live' hj
      rw [hol] at hj'
      have hne : len ≠ 0 := by rintro rfl; simp at hj'
      have hq0 : q = off * i.size := by
        rcases hq with hq | hq
        · rw [hq, hwd]
        · omega
      subst hq0
      rw [List.getElem?_take, if_pos hj', List.getElem?_drop] at hj
      rw [Addr.add_lit, World.cell?_drew, cell_of_row _ _ _ _ _ _ ro.heap]
      simpa using hj
    refine grow _ cap _ rfl hfo (by omega) hlen hol (fun k u b hu hb' => ?_)
    rw [List.getElem?_take] at hu hb'
    split at hu
    · rename_i hk
      rw [if_pos hk, List.getElem?_drop] at hb'
      rw [List.getElem?_drop] at hu
      exact ⟨ro.one _ u (lt_of_live' hb') (by simpa using hu), ro.rep _ u b (by simpa using hu) hb'⟩
    · simp at hu
  | mu0 blk _ _ _ hlive hbn hoc =>
    refine grow none 0 [] rfl (run_firstCells_none E.w.drew i.size 0 0 0) (by omega) (by omega) (by simp) (fun k u b hu _ => by simp at hu)
  | dead _ _ id' hr' hd h1 =>
    simp [AV.ref] at hr'; subst hr'
    rw [hrow] at hd; cases hd
end
end Go.Abs

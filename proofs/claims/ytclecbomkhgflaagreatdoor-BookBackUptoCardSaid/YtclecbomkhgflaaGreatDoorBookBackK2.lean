/- Part 2 of the proof of BookBack: A7, A8, A9, A10, A11. -/
import Derived.Test.YtclecbomkhgflaaGreatDoorBookBackK1
set_option linter.unusedVariables false
set_option linter.unusedSimpArgs false
namespace Go.Abs
section
variable {P : Program} {E : Emb} {env : Env} {tmps : Array Value}
theorem a7r (w : World) (t tx ty e : TypeId) (i : TypeInfo) (ht : P.underlying t = some (.slice e)) (hi : P.info? e = some i)
  (x : Value) (hs : Go.Src P i.size tx x 0 [] w) (base : Option Addr) (sLen sCap : Nat) (hle : sLen ≤ sCap) :
  (Builtin.append_ #[t, tx] ty #[.slice base sLen sCap, x]).run P w = .ok (.slice base sLen sCap) w := by
 rcases hs.kind with ⟨e', hk⟩ | hk <;> cases base <;> simp [Builtin.append_, run_underlying ht, run_underlying hk, sizeOf, typeInfo, hi, hs.len, hs.cells, hle, storeCells]
theorem d2I (dst : Option Tmp) (x y : Operand) (t u type : TypeId) (pos : String) (after : Array Edge) (guard : Option (Nat × Bool)) :
  execOp (Act.eval ⟨tmps, []⟩) ⟨dst, .call ⟨.builtin .append, #[x, y], #[t, u]⟩, type, pos, after, guard⟩ =
   (do pure (Next.value (← Builtin.append_ #[t, u] type #[Act.eval ⟨tmps, []⟩ x, Act.eval ⟨tmps, []⟩ y]))) := by
 simp [execOp, resolve, invoke, builtin]
theorem b7z (w : World) (o : Obj) : (w.drew.alloc o).heap[w.heap.size]? = some o := heap_alloc_new w.drew o
theorem a3H {c1 c2 : List Value} {a1 a2 : List AV} {Q : Value → AV → Prop} (hl : c1.length = a1.length) (h1 : ∀ (k : Nat) u b, c1[k]? = some u → a1[k]? = some b → Q u b)
  (h2 : ∀ (k : Nat) u b, c2[k]? = some u → a2[k]? = some b → Q u b) : ∀ (k : Nat) u b, (c1 ++ c2)[k]? = some u → (a1 ++ a2)[k]? = some b → Q u b := by
 intro k u b hu hb
 rcases Nat.lt_or_ge k c1.length with hk | hk
 ·rw [List.getElem?_append_left hk] at hu
  rw [List.getElem?_append_left (by omega)] at hb
  exact h1 k u b hu hb
 ·rw [List.getElem?_append_right hk] at hu
  rw [List.getElem?_append_right (by omega), ← hl] at hb
  exact h2 _ u b hu hb
theorem d1a {n0 : Nat} (hn : n0 ≤ E.H.length) (hok : HOk E) (he : a0r E env tmps) {t tx ty e : TypeId} {i : TypeInfo} {z : Value} (ht : P.underlying t = some (.slice e)) (hi : P.info? e = some i) (hz : i.zero = some z)
  (hzs : z.cells.size = i.size) (hpos : 0 < i.size) {x : Value} {ys : List AV} {news : List Value} (hs : Go.Src P i.size tx x ys.length news E.w) (hw : ∀ y ∈ ys, y.cells.length = i.size)
  (hnl : news.length = (ys.flatMap AV.cells).length) (hnr : ∀ (k : Nat) u b, news[k]? = some u → (ys.flatMap AV.cells)[k]? = some b → Rep E u b)
  (hb : ys.length * i.bytes ≤ 140737488355328) (h63 : ys.length ≤ 9223372036854775807) :
  Left P n0 E tmps (do pure (Next.value (← Builtin.append_ #[t, tx] ty #[.slice none 0 0, x]))) (.mu E.H.length 0 ys.length none) env (E.H ++ [some ⟨i.size, ys⟩]) := by
 by_cases h0 : ys = []
 ·subst h0
  have : news = [] := by simpa using hnl
  subst this
  obtain ⟨h1, h2⟩ := hok.alloc (w := E.w) rfl rfl rfl (Nat.le_refl _) none (fun b hb => by cases hb) (fun _ _ => rfl) ⟨i.size, []⟩ hpos (by simp) (.inl ⟨rfl, rfl⟩)
  refine ⟨_, E.w, _, _, a2o (b5j E.w t tx ty e i ht hi x hs), .inl rfl, h1, ?_, he.mono h2, h2.sub (fun j hj => Nat.lt_of_lt_of_le hj hn)⟩
  exact Rep.mu0 (E := ⟨fun j => if j = E.H.length then none else E.φ j, E.H ++ [some ⟨i.size, []⟩], E.w⟩) ⟨i.size, []⟩ E.H.length 0 none (by simp) (by simp) (fun c hc => by cases hc)
 ·have hlen : 0 < ys.length := by cases ys with | nil => exact absurd rfl h0 | cons y ys => simp
  have hg := run_append_grow_src (P := P) E.w t tx ty e i z ht hi hz none 0 0 [] (run_firstCells_none E.w.drew i.size 0 0 0) x ys.length news hs (by omega) (by omega)
   (by rw [nextslicecap_zero (by omega)]; simp; omega)
  simp only [Nat.zero_add, List.nil_append] at hg
  have hge := grownCap_ge E.w ys.length 0 e
  have hfl := a1s hw
  have hcs : (news.toArray ++ Builtin.zeroCells z.cells (grownCap E.w ys.length 0 e - ys.length)).size = grownCap E.w ys.length 0 e * i.size := by
   rw [Array.size_append, size_zeroCells, hzs, List.size_toArray, hnl, hfl, ← Nat.add_mul]; congr 1; omega
  obtain ⟨φ', h1, h2, h3, h4, h5⟩ := c2T (env := env) (tmps := tmps) (n0 := n0) hn hok he (w := E.w.drew.alloc (.cells (news.toArray ++ Builtin.zeroCells z.cells (grownCap E.w ys.length 0 e - ys.length)) e)) rfl rfl rfl (by simp) (a1t E.w.drew _) E.w.heap.size (Nat.le_refl _)
   ⟨i.size, ys⟩ hpos hw (b7z E.w _) (by rw [Array.size_append, Blk.flat, ← hnl]; simp) (fun k v b hv hb => by
    have hk := a0i hb
    rw [Blk.flat, ← hnl] at hk
    have hv' : news[k]? = some v := by
     rw [Array.getElem?_append_left (by simpa using hk)] at hv
     simpa using hv
    exact ⟨hs.one v (List.mem_of_getElem? hv'), hnr k v b hv' hb⟩)
  refine ⟨φ', _, _, _, a2o hg, .inl rfl, h1, ?_, h2, h3⟩
  refine Rep.mu (E := ⟨φ', E.H ++ [some ⟨i.size, ys⟩], _⟩) ⟨i.size, ys⟩ E.H.length 0 ys.length none E.w.heap.size 0 _ h5 h4 (.inl (by simp)) hge ?_ (fun c hc => by cases hc)
  simp only
  rw [a2A (b7z E.w _), hcs]; simp
theorem c5f {n0 : Nat} (hok : HOk E) (he : a0r E env tmps) {t tx ty e : TypeId} {i : TypeInfo} {z : Value} (ht : P.underlying t = some (.slice e)) (hi : P.info? e = some i) (hz : i.zero = some z)
  (hzs : z.cells.size = i.size) (hpz : 0 < i.size) {v x : Value} {ys : List AV} {news : List Value} (hs : Go.Src P i.size tx x ys.length news E.w) (hw : ∀ y ∈ ys, y.cells.length = i.size)
  (hnl : news.length = (ys.flatMap AV.cells).length) (hnr : ∀ (k : Nat) u b, news[k]? = some u → (ys.flatMap AV.cells)[k]? = some b → Rep E u b)
  {id len : Nat} {oc : Option Nat} (hr : Rep E v (.mu id 0 len oc)) {r : Blk} (hrow : E.H[id]? = some (some r)) (hwd : r.wd = i.size) (hle : len ≤ r.xs.length) (hn : n0 ≤ id)
  (hfree : Free E.H id) (hys : ∀ a ∈ ys.flatMap AV.cells, Ref (· ≠ id) a) (hxs : ∀ a ∈ r.xs.flatMap AV.cells, Ref (· ≠ id) a)
  (hb : (len + ys.length) * i.bytes ≤ 140737488355328) (h63 : len + ys.length ≤ 9223372036854775807) :
  Left P n0 E tmps (do pure (Next.value (← Builtin.append_ #[t, tx] ty #[v, x]))) (.mu id 0 (len + ys.length) (a1f oc (len + ys.length))) (scrub id env) (E.H.set id (some ⟨i.size, r.xs.take len ++ ys⟩)) := by
 have hid := a0k hrow
 have hpos : 0 < r.wd := by omega
 have hwr := hok.wids id r hrow
 rw [hwd] at hpos hwr
 have hwx : ∀ x ∈ r.xs.take len ++ ys, x.cells.length = r.wd := by
  intro x hx
  rw [hwd]
  rcases List.mem_append.1 hx with hx | hx
  ·exact hwr x (List.mem_of_mem_take hx)
  ·exact hw x hx
 have hft : (r.xs.take len).flatMap AV.cells = r.flat.take (len * i.size) := a6K hwr len
 have hfx : (r.xs.take len ++ ys).flatMap AV.cells = r.flat.take (len * i.size) ++ ys.flatMap AV.cells := by rw [List.flatMap_append, hft]
 have hfl : r.flat.length = r.xs.length * i.size := a1s hwr
 have hfy : (ys.flatMap AV.cells).length = ys.length * i.size := a1s hw
 have hmul : len * i.size ≤ r.xs.length * i.size := Nat.mul_le_mul_right _ hle
 have hadd : (len + ys.length) * i.size = len * i.size + ys.length * i.size := Nat.add_mul ..
 have htl : (r.flat.take (len * i.size)).length = len * i.size := by rw [List.length_take]; omega
 have hrefs : ∀ a ∈ (r.xs.take len ++ ys).flatMap AV.cells, Ref (· ≠ id) a := by
  intro a ha
  rw [hfx] at ha
  rcases List.mem_append.1 ha with ha | ha
  ·exact hxs a (List.mem_of_mem_take ha)
  ·exact hys a ha
 -- the new row's cells
 have fin : ∀ (w : World) (b q cap : Nat) (c : Array Value) (e' : TypeId), w.os = E.w.os → w.tape = E.w.tape → w.output = E.w.output → E.w.heap.size ≤ w.heap.size → (E.φ id = some b ∨ E.w.heap.size ≤ b) →
   (∀ b, b < E.w.heap.size → E.φ id ≠ some b → w.heap[b]? = E.w.heap[b]?) → w.heap[b]? = some (.cells c e' (0, 0)) → (len + ys.length) * i.size ≤ c.size →
   (∀ (k : Nat) u b, c[k]? = some u → (r.flat.take (len * i.size) ++ ys.flatMap AV.cells)[k]? = some b → u.oneCell' = true ∧ Rep E u b) →
   (∀ k, k < E.w.heap.size → tagW w k = tagW E.w k) → (Builtin.append_ #[t, tx] ty #[v, x]).run P E.w = .ok (.slice (some ⟨b, q, none⟩) (len + ys.length) cap) w → (q = 0 ∨ (len + ys.length = 0 ∧ cap = 0)) → len + ys.length ≤ cap → cap * i.size ≤ c.size → (∀ d, a1f oc (len + ys.length) = some d → cap = d) →
   Left P n0 E tmps (do pure (Next.value (← Builtin.append_ #[t, tx] ty #[v, x]))) (.mu id 0 (len + ys.length) (a1f oc (len + ys.length))) (scrub id env) (E.H.set id (some ⟨i.size, r.xs.take len ++ ys⟩)) := by
  intro w b q cap c e' o1 o2 o3 o4 hb' keep hh hfit hnew htag hrun hq hlc hcs hcap
  obtain ⟨h1, h2⟩ := hok.rebind o1 o2 o3 o4 hrow (by omega) b hb' keep (r.xs.take len ++ ys) hwx hh (by rw [hfx, List.length_append, htl, hfy, ← hadd]; exact hfit) hfree (fun k u a hu ha => by
   have hm := hrefs a (List.mem_of_getElem? ha)
   rw [hfx] at ha
   exact ⟨(hnew k u a hu ha).1, (hnew k u a hu ha).2, hm⟩) htag
  rw [hwd] at h1 h2
  refine ⟨_, w, _, _, a2o hrun, .inl rfl, h1, ?_, he.scrub h2, h2.sub (fun j hj => by show j ≠ id; have : j < n0 := hj; omega)⟩
  refine Rep.mu (E := ⟨fun j => if j = id then some b else E.φ j, E.H.set id (some ⟨i.size, r.xs.take len ++ ys⟩), w⟩) ⟨i.size, r.xs.take len ++ ys⟩ id 0 (len + ys.length) _ b q cap ?_ (by simp) ?_ hlc ?_ hcap
  ·simp only [a6O _ _ _ hid, if_true]
  ·rcases hq with hq | hq
   ·exact .inl (by rw [hq]; simp)
   ·exact .inr hq
  ·simp only
   rw [a2A hh]; simpa using hcs
 have grow : ∀ (base : Option Addr) (cap : Nat) (olds : List Value), v = .slice base len cap → (Builtin.firstCells i.size len (.slice base len cap)).run P E.w.drew = .ok olds.toArray E.w.drew → cap < len + ys.length → len ≤ cap →
   olds.length = len * i.size → (∀ (k : Nat) u b, olds[k]? = some u → (r.flat.take (len * i.size))[k]? = some b → u.oneCell' = true ∧ Rep E u b) → (∀ d, oc = some d → cap = d) →
   Left P n0 E tmps (do pure (Next.value (← Builtin.append_ #[t, tx] ty #[v, x]))) (.mu id 0 (len + ys.length) (a1f oc (len + ys.length))) (scrub id env) (E.H.set id (some ⟨i.size, r.xs.take len ++ ys⟩)) := by
  intro base cap olds hv hfo hg hlc holl hor hoc
  subst hv
  have hgr := run_append_grow_src (P := P) E.w t tx ty e i z ht hi hz base len cap olds hfo x ys.length news hs hg (by omega) (growslice_fits hg hb)
  have hge := grownCap_ge E.w (len + ys.length) cap e
  have hcs : ((olds ++ news).toArray ++ Builtin.zeroCells z.cells (grownCap E.w (len + ys.length) cap e - (len + ys.length))).size = grownCap E.w (len + ys.length) cap e * i.size := by
   rw [Array.size_append, size_zeroCells, hzs, List.size_toArray, List.length_append, holl, hnl, hfy, ← hadd, ← Nat.add_mul]; congr 1; omega
  refine fin _ E.w.heap.size 0 _ _ e (by rfl) (by rfl) (by rfl) (by simp) (.inr (Nat.le_refl _)) (fun b hb _ => a1t E.w.drew _ b hb) (b7z E.w _) ?_ ?_ (fun k hk => b9O (a1t E.w.drew _ k hk)) hgr (.inl rfl) hge (by rw [hcs]; exact Nat.le_refl _) ?_
  ·rw [Array.size_append, List.size_toArray, List.length_append, holl, hnl, hfy, ← hadd]; omega
  ·intro k u b hu hb'
   have hk : k < (olds ++ news).length := by
    have := a0i hb'
    rw [List.length_append, htl, hfy] at this
    rw [List.length_append, holl, hnl, hfy]; exact this
   have hu' : (olds ++ news)[k]? = some u := by
    rw [Array.getElem?_append_left (by simpa using hk)] at hu
    simpa using hu
   exact a3H (Q := fun u b => u.oneCell' = true ∧ Rep E u b) (by rw [holl, htl]) hor (fun k u b hu hb => ⟨hs.one u (List.mem_of_getElem? hu), hnr k u b hu hb⟩) k u b hu' hb'
  ·intro d hd
   unfold a1f at hd
   simp only [Option.bind_eq_some_iff] at hd
   obtain ⟨d', h1, h2⟩ := hd
   split at h2
   ·have := hoc d' h1; omega
   ·simp at h2
 cases hr with
 | mu blk _ _ _ _ bn q cap hlive hbn hq hlen hsz hoc =>
  rw [hrow] at hlive; cases hlive
  obtain ⟨c, e0, ro⟩ := hok.row id r bn hrow hbn
  have hfits := ro.fits
  have hsz' : cap * i.size ≤ c.size := by
   rw [a2A (ro.heap (by omega)), hwd] at hsz; simpa using hsz
  have hcapl : (len) * i.size ≤ cap * i.size := Nat.mul_le_mul_right _ hlen
  have hold : ∀ (k : Nat) u b, c[k]? = some u → (r.flat.take (len * i.size))[k]? = some b → u.oneCell' = true ∧ Rep E u b := by
   intro k u b hu hb'
   rw [List.getElem?_take] at hb'
   split at hb'
   ·exact ⟨ro.one k u (a0i hb') hu, ro.rep k u b hu hb'⟩
   ·simp at hb'
  by_cases hy0 : ys = []
  ·subst hy0
   have : news = [] := by simpa using hnl
   subst this
   have hrun := a7r E.w t tx ty e i ht hi x hs (some ⟨bn, q, none⟩) len cap hlen
   refine fin E.w bn q cap c e0 rfl rfl rfl (Nat.le_refl _) (.inl hbn) (fun _ _ _ => rfl) (ro.heap (by omega)) (by simp; omega) ?_ (fun _ _ => rfl) hrun (by simp at hq ⊢; omega) (by simpa using hlen) hsz' ?_
   ·intro k u b hu hb'
    simp only [List.flatMap_nil, List.append_nil] at hb'
    exact hold k u b hu hb'
   ·intro d hd
    unfold a1f at hd
    simp only [Option.bind_eq_some_iff] at hd
    obtain ⟨d', h1, h2⟩ := hd
    split at h2
    ·have := hoc d' h1; simp at h2; omega
    ·simp at h2
  ·have hyl : 0 < ys.length := by cases ys with | nil => exact absurd rfl hy0 | cons y ys => simp
   by_cases hroom : len + ys.length ≤ cap
   ·have hq0 : q = 0 := by
     rcases hq with hq | hq
     ·simpa using hq
     ·omega
    subst hq0
    have hcy : (len + ys.length) * i.size ≤ cap * i.size := Nat.mul_le_mul_right _ hroom
    have hrun := a8u (P := P) E.w t tx ty e i ht hi bn len cap c e0 (ro.heap (by omega)) x ys.length news hs hroom (by rw [hnl, hfy, ← hadd]; omega)
    refine fin (E.w.setRow bn (c.toList.take (len * i.size) ++ news ++ c.toList.drop (len * i.size + news.length)).toArray) bn 0 cap _ e0 rfl rfl rfl (by simp) (.inl hbn) (fun b hb hne => a1D _ _ _ _ (fun he => hne (by rw [he]; exact hbn))) (a5I _ _ _ _ _ _ (ro.heap (by omega))) ?_ ?_ (fun k _ => b4a (ro.heap (by omega)) (by simp only [List.size_toArray, List.length_append, List.length_take, List.length_drop, Array.length_toList]; rw [hnl, hfy]; omega) k) hrun (.inl rfl) hroom ?_ ?_
    ·simp only [List.size_toArray, List.length_append, List.length_take, List.length_drop, Array.length_toList]; rw [hnl, hfy]; omega
    ·intro k u b hu hb'
     have hu' : (c.toList.take (len * i.size) ++ (news ++ c.toList.drop (len * i.size + news.length)))[k]? = some u := by simpa [List.append_assoc] using hu
     refine a3H (Q := fun u b => u.oneCell' = true ∧ Rep E u b) (by rw [htl, List.length_take, Array.length_toList]; omega) ?_ ?_ k u b hu' hb'
     ·intro k u b hu hb'
      refine hold k u b ?_ hb'
      rw [List.getElem?_take] at hu
      split at hu
      ·simpa using hu
      ·simp at hu
     ·intro k u b hu hb'
      rw [List.getElem?_append_left (by rw [hnl]; exact a0i hb')] at hu
      exact ⟨hs.one u (List.mem_of_getElem? hu), hnr k u b hu hb'⟩
    ·simp only [List.size_toArray, List.length_append, List.length_take, List.length_drop, Array.length_toList]; rw [hnl, hfy]; omega
    ·intro d hd
     unfold a1f at hd
     simp only [Option.bind_eq_some_iff] at hd
     obtain ⟨d', h1, h2⟩ := hd
     split at h2
     ·have := hoc d' h1; simp at h2; omega
     ·simp at h2
   ·have hfo : (Builtin.firstCells i.size len (.slice (some ⟨bn, q, none⟩) len cap)).run P E.w.drew = .ok (c.toList.take (len * i.size)).toArray E.w.drew := by
     refine run_firstCells_some E.w.drew i.size len _ len cap _ (by rw [List.length_take, Array.length_toList]; omega) (fun j u hj => ?_)
     have hj' := a0i hj
     rw [List.length_take] at hj'
     have hne : len ≠ 0 := by rintro rfl; simp at hj'
     have hq0 : q = 0 := by
      rcases hq with hq | hq
      ·simpa using hq
      ·omega
     subst hq0
     rw [Addr.add_lit, World.cell?_drew, cell_of_row _ _ _ _ _ _ (ro.heap (by omega))]
     rw [List.getElem?_take] at hj
     split at hj
     ·simpa using hj
     ·simp at hj
    refine grow _ cap _ rfl hfo (by omega) hlen (by rw [List.length_take, Array.length_toList]; omega) (fun k u b hu hb' => ?_) hoc
    refine hold k u b ?_ hb'
    rw [List.getElem?_take] at hu
    split at hu
    ·simpa using hu
    ·simp at hu
 | mu0 blk _ _ _ hlive hbn hoc =>
  rw [hrow] at hlive; cases hlive
  have hx0 := hok.emp id r hrow hbn
  by_cases hy0 : ys = []
  ·subst hy0
   have : news = [] := by simpa using hnl
   subst this
   have hrun := a7r E.w t tx ty e i ht hi x hs none 0 0 (Nat.le_refl _)
   have hsame : E.H.set id (some ⟨i.size, r.xs.take 0 ++ []⟩) = E.H := by
    apply List.ext_getElem?
    intro j
    rw [a6O _ _ _ hid]
    split
    ·rename_i hj; subst hj
     rw [hrow, ← hwd]
     cases r; simp at hx0 ⊢; exact hx0
    ·rfl
   rw [hsame]
   refine ⟨E.φ, E.w, _, _, a2o hrun, .inl rfl, hok, ?_, ?_, Ext.refl _ _⟩
   ·refine Rep.mu0 (E := ⟨E.φ, E.H, E.w⟩) r id 0 _ hrow hbn ?_
    intro d hd
    unfold a1f at hd
    simp only [Option.bind_eq_some_iff] at hd
    obtain ⟨d', h1, h2⟩ := hd
    split at h2
    ·have := hoc d' h1; simp at h2; omega
    ·simp at h2
   ·intro t
    rw [a3f]
    split
    ·exact he t
    ·exact .top _
  ·have hyl : 0 < ys.length := by cases ys with | nil => exact absurd rfl hy0 | cons y ys => simp
   refine grow none 0 [] rfl (run_firstCells_none E.w.drew i.size 0 0 0) (by omega) (by omega) (by simp) (fun k u b hu _ => by simp at hu) (fun d hd => hoc d hd)
 | dead _ _ id' hr' hd h1 =>
  simp [AV.ref] at hr'; subst hr'
  rw [hrow] at hd; cases hd
theorem c8L {n0 : Nat} (hok : HOk E) (he : a0r E env tmps) {t tx ty e : TypeId} {i : TypeInfo} (ht : P.underlying t = some (.slice e)) (hi : P.info? e = some i) (hpz : 0 < i.size)
  {v x : Value} {ys : List AV} {news : List Value} (hs : Go.Src P i.size tx x ys.length news E.w) (hw : ∀ y ∈ ys, y.cells.length = i.size)
  (hnl : news.length = (ys.flatMap AV.cells).length) (hnr : ∀ (k : Nat) u b, news[k]? = some u → (ys.flatMap AV.cells)[k]? = some b → Rep E u b)
  {id len : Nat} {oc : Option Nat} (hr : Rep E v (.mu id 0 len oc)) {r : Blk} (hrow : E.H[id]? = some (some r)) (hwd : r.wd = i.size) (hle : len ≤ r.xs.length) (hn : n0 ≤ id)
  (hyl : 0 < ys.length) (hroom : (oc.any fun c => decide (len + ys.length ≤ c)) = true) :
  Left P n0 E tmps (do pure (Next.value (← Builtin.append_ #[t, tx] ty #[v, x]))) (.mu id 0 (len + ys.length) oc) env (E.H.set id (some ⟨i.size, r.xs.take len ++ ys⟩)) := by
 have hid := a0k hrow
 have hwr := hok.wids id r hrow
 obtain ⟨c0, rfl, hc0⟩ : ∃ c, oc = some c ∧ len + ys.length ≤ c := by
  cases oc with
  | none => simp at hroom
  | some c => exact ⟨c, rfl, by simpa using hroom⟩
 have hft : (r.xs.take len).flatMap AV.cells = r.flat.take (len * i.size) := by rw [hwd] at hwr; exact a6K hwr len
 have hfx : (r.xs.take len ++ ys).flatMap AV.cells = r.flat.take (len * i.size) ++ ys.flatMap AV.cells := by rw [List.flatMap_append, hft]
 have hfl : r.flat.length = r.xs.length * i.size := by rw [hwd] at hwr; exact a1s hwr
 have hfy : (ys.flatMap AV.cells).length = ys.length * i.size := a1s hw
 have hmul : len * i.size ≤ r.xs.length * i.size := Nat.mul_le_mul_right _ hle
 have hadd : (len + ys.length) * i.size = len * i.size + ys.length * i.size := Nat.add_mul ..
 have htl : (r.flat.take (len * i.size)).length = len * i.size := by rw [List.length_take]; omega
 cases hr with
 | mu blk _ _ _ _ bn q cap hlive hbn hq hlen hsz hoc =>
  rw [hrow] at hlive; cases hlive
  have hcc := hoc c0 rfl
  subst hcc
  obtain ⟨c, e0, ro⟩ := hok.row id r bn hrow hbn
  have hsz' : cap * i.size ≤ c.size := by
   rw [a2A (ro.heap (by omega)), hwd] at hsz; simpa using hsz
  have hq0 : q = 0 := by
   rcases hq with hq | hq
   ·simpa using hq
   ·omega
  subst hq0
  have hcy : (len + ys.length) * i.size ≤ cap * i.size := Nat.mul_le_mul_right _ hc0
  have hrun := a8u (P := P) E.w t tx ty e i ht hi bn len cap c e0 (ro.heap (by omega)) x ys.length news hs hc0 (by rw [hnl, hfy, ← hadd]; omega)
  have hold : ∀ (k : Nat) u b, c[k]? = some u → (r.flat.take (len * i.size))[k]? = some b → u.oneCell' = true ∧ Rep E u b := by
   intro k u b hu hb'
   rw [List.getElem?_take] at hb'
   split at hb'
   ·exact ⟨ro.one k u (a0i hb') hu, ro.rep k u b hu hb'⟩
   ·simp at hb'
  have hsize : (c.toList.take (len * i.size) ++ news ++ c.toList.drop (len * i.size + news.length)).toArray.size = c.size := by
   simp only [List.size_toArray, List.length_append, List.length_take, List.length_drop, Array.length_toList]; rw [hnl, hfy]; omega
  obtain ⟨h1, h2⟩ := hok.write hrow hbn (by omega) ro (c.toList.take (len * i.size) ++ news ++ c.toList.drop (len * i.size + news.length)).toArray (r.xs.take len ++ ys) hsize (by
   intro y hy
   rcases List.mem_append.1 hy with hy | hy
   ·exact hwr y (List.mem_of_mem_take hy)
   ·rw [hwd]; exact hw y hy) (by rw [hsize, hfx, List.length_append, htl, hfy, ← hadd]; omega) (by
   intro k u b hu hb'
   rw [hfx] at hb'
   have hu' : (c.toList.take (len * i.size) ++ (news ++ c.toList.drop (len * i.size + news.length)))[k]? = some u := by simpa [List.append_assoc] using hu
   refine a3H (Q := fun u b => u.oneCell' = true ∧ Rep E u b) (by rw [htl, List.length_take, Array.length_toList]; omega) ?_ ?_ k u b hu' hb'
   ·intro k u b hu hb'
    refine hold k u b ?_ hb'
    rw [List.getElem?_take] at hu
    split at hu
    ·simpa using hu
    ·simp at hu
   ·intro k u b hu hb'
    rw [List.getElem?_append_left (by rw [hnl]; exact a0i hb')] at hu
    exact ⟨hs.one u (List.mem_of_getElem? hu), hnr k u b hu hb'⟩)
  rw [hwd] at h1 h2
  refine ⟨_, _, _, _, a2o hrun, .inl rfl, h1, ?_, fun tt => (he tt).mono h2 (he tt).ref, h2.sub (fun j hj => by show j < E.H.length; have : j < n0 := hj; omega)⟩
  refine Rep.mu (E := ⟨E.φ, E.H.set id (some ⟨i.size, r.xs.take len ++ ys⟩), _⟩) ⟨i.size, r.xs.take len ++ ys⟩ id 0 (len + ys.length) _ bn 0 cap ?_ hbn (.inl (by simp)) hc0 ?_ hoc
  ·simp only [a6O _ _ _ hid, if_true]
  ·simp only
   rw [a2A (a5I _ _ _ _ _ _ (ro.heap (by omega))), hsize]; simpa using hsz'
 | mu0 blk _ _ _ hlive hbn hoc => have := hoc c0 rfl; omega
 | dead _ _ id' hr' hd h1 =>
  simp [AV.ref] at hr'; subst hr'
  rw [hrow] at hd; cases hd
theorem e4g (hok : HOk E) {wd : Nat} {v : Value} {a : AV} (hr : Rep E v a) {ys : List AV} (h : a0Z E.H wd false a = some ys) :
  ∃ base cap, v = .slice base ys.length cap ∧ (∀ y ∈ ys, y.cells.length = wd) ∧ ∃ news : List Value, news.length = (ys.flatMap AV.cells).length ∧ (∀ u ∈ news, u.oneCell' = true) ∧
   (∀ (k : Nat) u b, news[k]? = some u → (ys.flatMap AV.cells)[k]? = some b → Rep E u b) ∧ (news = [] ∨ ∃ ad, base = some ad ∧ ∀ (j : Nat) u, news[j]? = some u → E.w.cell? (ad.add j) = some u) := by
 cases hr with
 | nil =>
  simp only [a0Z] at h
  cases h
  exact ⟨none, 0, rfl, by simp, [], rfl, by simp, fun k u b h => by simp at h, .inl rfl⟩
 | sl base cap wd' xs vs b o hcap hpos hw hcl hbase hlen hcell hrep =>
  simp only [a0Z] at h
  split at h
  ·rename_i hs
   cases h
   obtain ⟨_, rfl⟩ := hs
   refine ⟨base, cap, rfl, hw, vs, hlen, ?_, hrep, ?_⟩
   ·intro u hu
    obtain ⟨k, hk, rfl⟩ := List.getElem_of_mem hu
    exact (hcell k _ (List.getElem?_eq_getElem hk)).2
   ·rcases hbase with rfl | ⟨rfl, hm⟩
    ·exact .inl (by simpa using hlen)
    ·exact .inr ⟨_, rfl, fun j u hj => by rw [Addr.add_lit]; exact (hcell j u hj).1⟩
  ·simp at h
 | mu blk id off len oc bn q cap hlive hbn hq hlen hsz hoc =>
  simp only [a0Z, Option.bind_eq_some_iff] at h
  obtain ⟨blk', hb', h⟩ := h
  have hb2 := a0N hb'
  rw [hlive] at hb2; cases hb2
  split at h
  ·rename_i hs
   cases h
   obtain ⟨hs, hwd, hle⟩ := hs
   have hw := hok.wids id blk hlive
   have hfl : blk.flat.length = blk.xs.length * blk.wd := a1s hw
   obtain ⟨c, e, r⟩ := hok.row id blk bn hlive hbn
   subst hwd
   have hl : ((blk.xs.drop off).take len).length = len := by simp; omega
   have hf : ((blk.xs.drop off).take len).flatMap AV.cells = (blk.flat.drop (off * blk.wd)).take (len * blk.wd) := by
    rw [a6K (wd := blk.wd) (fun x hx => hw x (List.mem_of_mem_drop hx)), b3J hw]; rfl
   have hmul : (off + len) * blk.wd ≤ blk.xs.length * blk.wd := Nat.mul_le_mul_right _ hle
   have hmul' : (off + len) * blk.wd = off * blk.wd + len * blk.wd := Nat.add_mul ..
   have hfit := r.fits
   have hnl : ((c.toList.drop (off * blk.wd)).take (len * blk.wd)).length = len * blk.wd := by
    rw [List.length_take, List.length_drop, Array.length_toList]; omega
   refine ⟨some ⟨bn, q, none⟩, cap, by rw [hl], fun y hy => hw y (List.mem_of_mem_drop (List.mem_of_mem_take hy)), (c.toList.drop (off * blk.wd)).take (len * blk.wd), ?_, ?_, ?_, ?_⟩
   ·rw [hf, hnl, List.length_take, List.length_drop]; omega
   ·intro u hu
    obtain ⟨k, hk, rfl⟩ := List.getElem_of_mem hu
    rw [hnl] at hk
    refine r.one (off * blk.wd + k) _ (by omega) ?_
    rw [List.getElem_take, List.getElem_drop]
    simp
   ·intro k u b hku hkb
    rw [hf] at hkb
    rw [List.getElem?_take] at hku hkb
    split at hku
    ·rename_i hlt
     simp only [hlt, if_true] at hkb
     rw [List.getElem?_drop] at hku hkb
     exact r.rep _ u b (by simpa using hku) hkb
    ·simp at hku
   ·by_cases hz : len = 0
    ·subst hz; exact .inl (by simp)
    ·refine .inr ⟨_, rfl, fun j u hj => ?_⟩
     have hq' : q = off * blk.wd := hq.resolve_right (by omega)
     rw [List.getElem?_take] at hj
     split at hj
     ·rename_i hlt
      have h0 : 0 < blk.wd := Nat.pos_of_ne_zero (fun h => by simp [h] at hlt)
      rw [Addr.add_lit, hq', cell_of_row _ _ _ _ _ _ (r.heap h0)]
      simpa using hj
     ·simp at hj
  ·simp at h
 | mu0 blk id off oc hlive hbn hoc =>
  simp only [a0Z, Option.bind_eq_some_iff] at h
  obtain ⟨blk', hb', h⟩ := h
  split at h
  ·cases h
   simp only [List.take_zero]
   exact ⟨none, 0, rfl, by simp, [], rfl, by simp, fun k u b h => by simp at h, .inl rfl⟩
  ·simp at h
 | dead v a id hr hd h1 =>
  cases a <;> simp [AV.ref] at hr
  ·subst hr; simp [a0Z, hrow, hd] at h
  ·simp [a0Z] at h
  ·simp [a0Z] at h
 | _ => simp [a0Z] at h
theorem c9y (w : World) (t u ty e : TypeId) (i : TypeInfo) (ht : P.underlying t = some (.slice e)) (hi : P.info? e = some i) (g o dLen dCap : Nat) (base : Option Addr) (sLen sCap : Nat) (cur : Array Value) (et : TypeId)
  (hg : w.heap[g]? = some (.cells cur et (0, 0))) (cs : List Value) (hn : cs.length = Nat.min sLen dLen * i.size) (hsrc : cs = [] ∧ (base = none → Nat.min sLen dLen = 0) ∨ ∃ ad, base = some ad ∧ ∀ (j : Nat) v, cs[j]? = some v → w.cell? (ad.add j) = some v)
  (hfit : o + cs.length ≤ cur.size) (h1 : ∀ v ∈ cs, v.oneCell' = true) :
  (Builtin.copy_ #[t, u] ty #[.slice (some ⟨g, o, none⟩) dLen dCap, .slice base sLen sCap]).run P w =
   .ok (goInt (Nat.min sLen dLen)) (w.setRow g (cur.toList.take o ++ cs ++ cur.toList.drop (o + cs.length)).toArray) := by
 have hst := run_storeCells_at P g o et cs 0 cur w hg (by simpa using hfit) h1
 simp only [Nat.add_zero] at hst
 have hf : (Builtin.firstCells i.size (Nat.min sLen dLen) (.slice base sLen sCap)).run P w = .ok cs.toArray w := by
  rcases hsrc with ⟨rfl, hb⟩ | ⟨ad, rfl, hc⟩
  ·cases base with
   | none => exact run_firstCells_none w i.size _ sLen sCap
   | some ad => exact run_firstCells_some w i.size _ ad sLen sCap [] hn (fun j v hj => by simp at hj)
  ·exact run_firstCells_some w i.size _ ad sLen sCap cs hn hc
 simp only [Builtin.copy_, Array.getElem?_toList]
 simp [run_underlying ht, Builtin.lenOf, sizeOf, typeInfo, hi, hf, hst]
theorem d9q (dst : Option Tmp) (x y : Operand) (t u type : TypeId) (pos : String) (after : Array Edge) (guard : Option (Nat × Bool)) :
  execOp (Act.eval ⟨tmps, []⟩) ⟨dst, .call ⟨.builtin .copy, #[x, y], #[t, u]⟩, type, pos, after, guard⟩ =
   (do pure (Next.value (← Builtin.copy_ #[t, u] type #[Act.eval ⟨tmps, []⟩ x, Act.eval ⟨tmps, []⟩ y]))) := by
 simp [execOp, resolve, invoke, builtin]
theorem e2A {n0 : Nat} (hn0 : n0 ≤ E.H.length) (hok : HOk E) (he : a0r E env tmps) {t u ty e : TypeId} (ht : P.underlying t = some (.slice e)) {i : TypeInfo} (hi : P.info? e = some i) (hpz : 0 < i.size)
  {v x : Value} {b : AV} {ys : List AV} (hx : Rep E x b) (hys : a0Z E.H i.size false b = some ys) {id off len : Nat} {oc : Option Nat} (hr : Rep E v (.mu id off len oc)) {r : Blk} (hrow : E.H[id]? = some (some r)) (hwd : r.wd = i.size)
  (hle : off + len ≤ r.xs.length) :
  Left P n0 E tmps (do pure (Next.value (← Builtin.copy_ #[t, u] ty #[v, x]))) (.int .i64 (min ys.length len : Nat)) env (E.H.set id (some ⟨i.size, r.xs.take off ++ ys.take (min ys.length len) ++ r.xs.drop (off + min ys.length len)⟩)) := by
 obtain ⟨base, scap, rfl, hw, news, hnl, hn1, hnr, hsrc⟩ := e4g hok hx hys
 have hid := a0k hrow
 have hwr := hok.wids id r hrow
 rw [hwd] at hwr
 have hfy : (ys.flatMap AV.cells).length = ys.length * i.size := a1s hw
 have hfl : r.flat.length = r.xs.length * i.size := a1s hwr
 generalize hm : min ys.length len = m
 have hmin : Nat.min ys.length len = m := hm
 have hmy : m ≤ ys.length := by omega
 have hml : m ≤ len := by omega
 have hmul1 : m * i.size ≤ ys.length * i.size := Nat.mul_le_mul_right _ hmy
 have hmul2 : (off + m) * i.size ≤ r.xs.length * i.size := Nat.mul_le_mul_right _ (by omega)
 have hmul3 : (off + m) * i.size = off * i.size + m * i.size := Nat.add_mul ..
 have hcl : (news.take (m * i.size)).length = m * i.size := by rw [List.length_take]; omega
 have hwx : ∀ x ∈ r.xs.take off ++ ys.take m ++ r.xs.drop (off + m), x.cells.length = r.wd := by
  intro x hx
  rw [hwd]
  rcases List.mem_append.1 hx with hx | hx
  ·rcases List.mem_append.1 hx with hx | hx
   ·exact hwr x (List.mem_of_mem_take hx)
   ·exact hw x (List.mem_of_mem_take hx)
  ·exact hwr x (List.mem_of_mem_drop hx)
 have hfx : (r.xs.take off ++ ys.take m ++ r.xs.drop (off + m)).flatMap AV.cells = r.flat.take (off * i.size) ++ ((ys.flatMap AV.cells).take (m * i.size) ++ r.flat.drop (off * i.size + m * i.size)) := by
  rw [List.flatMap_append, List.flatMap_append, a6K hwr, a6K hw, b3J hwr, hmul3, List.append_assoc]; rfl
 cases hr with
 | mu blk _ _ _ _ bn q cap hlive hbn hq hlen hsz hoc =>
  rw [hrow] at hlive; cases hlive
  obtain ⟨c, e0, ro⟩ := hok.row id r bn hrow hbn
  have hfits := ro.fits
  by_cases hl0 : len = 0
  ·obtain rfl : m = 0 := by omega
   subst hl0
   have hsame : E.H.set id (some ⟨i.size, r.xs.take off ++ ys.take 0 ++ r.xs.drop (off + 0)⟩) = E.H := by
    apply List.ext_getElem?
    intro j
    rw [a6O _ _ _ hid]
    split
    ·rename_i hj; subst hj
     rw [hrow, ← hwd]
     simp
    ·rfl
   rw [hsame]
   have hrun : (Builtin.copy_ #[t, u] ty #[.slice (some ⟨bn, q, none⟩) 0 cap, .slice base ys.length scap]).run P E.w = .ok (goInt 0) E.w := by
    have hf : (Builtin.firstCells i.size 0 (.slice base ys.length scap)).run P E.w = .ok #[] E.w := by
     cases base with
     | none => exact run_firstCells_none E.w i.size _ _ _
     | some ad => exact run_firstCells_some E.w i.size 0 ad _ _ [] (by simp) (fun j v hj => by simp at hj)
    have hz : Nat.min ys.length 0 = 0 := hmin
    simp [Builtin.copy_, run_underlying ht, Builtin.lenOf, sizeOf, typeInfo, hi, hz, hf, storeCells]
   exact ⟨E.φ, E.w, _, _, a2o hrun, .inl rfl, hok, .int _ _, he, Ext.refl _ _⟩
  ·have hq' : q = off * i.size := by
    rcases hq with hq | hq
    ·rw [hq, hwd]
    ·omega
   subst hq'
   have hrun := c9y (P := P) E.w t u ty e i ht hi bn (off * i.size) len cap base ys.length scap c e0 (ro.heap (by omega)) (news.take (m * i.size)) (by rw [hcl, hmin]) (by
    rcases hsrc with rfl | ⟨ad, rfl, hc⟩
    ·left
     refine ⟨by simp, fun _ => ?_⟩
     have : ys.length * i.size = 0 := by rw [← hfy, ← hnl]; rfl
     have : ys.length = 0 := by
      rcases Nat.mul_eq_zero.1 this with h | h
      ·exact h
      ·omega
     rw [hmin]; omega
    ·right
     refine ⟨ad, rfl, fun j v hj => hc j v ?_⟩
     rw [List.getElem?_take] at hj
     split at hj
     ·exact hj
     ·simp at hj) (by rw [hcl]; omega) (fun v hv => hn1 v (List.mem_of_mem_take hv))
   rw [hmin] at hrun
   obtain ⟨h1, h2⟩ := hok.write hrow hbn (by omega) ro (c.toList.take (off * i.size) ++ news.take (m * i.size) ++ c.toList.drop (off * i.size + (news.take (m * i.size)).length)).toArray
    (r.xs.take off ++ ys.take m ++ r.xs.drop (off + m)) (by
     simp only [List.size_toArray, List.length_append, List.length_drop, hcl, Array.length_toList]
     rw [List.length_take, Array.length_toList]; omega) hwx (by
     rw [hfx]
     simp only [List.size_toArray, List.length_append, List.length_drop, List.length_take, Array.length_toList]
     omega) (by
     intro k v b hv hb
     rw [hfx] at hb
     have hv' : (c.toList.take (off * i.size) ++ (news.take (m * i.size) ++ c.toList.drop (off * i.size + m * i.size)))[k]? = some v := by
      rw [hcl] at hv; simpa [List.append_assoc] using hv
     refine a3H (Q := fun u b => u.oneCell' = true ∧ Rep E u b) (by rw [List.length_take, List.length_take, Array.length_toList]; omega) ?_ ?_ k v b hv' hb
     ·intro k u b hu hb
      rw [List.getElem?_take] at hu hb
      split at hu
      ·rename_i hlt
       simp only [hlt, if_true] at hb
       have hu' : c[k]? = some u := by simpa using hu
       exact ⟨ro.one k u (a0i hb) hu', ro.rep k u b hu' hb⟩
      ·simp at hu
     ·refine a3H (Q := fun u b => u.oneCell' = true ∧ Rep E u b) (by rw [hcl, List.length_take]; omega) ?_ ?_
      ·intro k u b hu hb
       rw [List.getElem?_take] at hu hb
       split at hu
       ·rename_i hlt
        simp only [hlt, if_true] at hb
        exact ⟨hn1 u (List.mem_of_getElem? hu), hnr k u b hu hb⟩
       ·simp at hu
      ·intro k u b hu hb
       rw [List.getElem?_drop] at hu hb
       have hu' : c[off * i.size + m * i.size + k]? = some u := by simpa using hu
       exact ⟨ro.one _ u (a0i hb) hu', ro.rep _ u b hu' hb⟩)
   rw [hwd] at h1 h2
   exact ⟨E.φ, _, _, _, a2o hrun, .inl rfl, h1, .int _ _, he.mono h2, h2.sub (fun j hj => Nat.lt_of_lt_of_le hj hn0)⟩
 | mu0 blk _ _ _ hlive hbn hoc =>
  rw [hrow] at hlive; cases hlive
  obtain rfl : m = 0 := by omega
  have hsame : E.H.set id (some ⟨i.size, r.xs.take off ++ ys.take 0 ++ r.xs.drop (off + 0)⟩) = E.H := by
   apply List.ext_getElem?
   intro j
   rw [a6O _ _ _ hid]
   split
   ·rename_i hj; subst hj
    rw [hrow, ← hwd]
    simp
   ·rfl
  rw [hsame]
  have hrun : (Builtin.copy_ #[t, u] ty #[.slice none 0 0, .slice base ys.length scap]).run P E.w = .ok (goInt 0) E.w := by
   have hf : (Builtin.firstCells i.size 0 (.slice base ys.length scap)).run P E.w = .ok #[] E.w := by
    cases base with
    | none => exact run_firstCells_none E.w i.size _ _ _
    | some ad => exact run_firstCells_some E.w i.size 0 ad _ _ [] (by simp) (fun j v hj => by simp at hj)
   have hz : Nat.min ys.length 0 = 0 := hmin
   simp [Builtin.copy_, run_underlying ht, Builtin.lenOf, sizeOf, typeInfo, hi, hz, hf]
  exact ⟨E.φ, E.w, _, _, a2o hrun, .inl rfl, hok, .int _ _, he, Ext.refl _ _⟩
 | dead _ _ id' hr' hd h1 =>
  simp [AV.ref] at hr'; subst hr'
  rw [hrow] at hd; cases hd
end
section
variable {P : Program} {E : Emb} {env : Env} {tmps : Array Value}
theorem c8M {n0 : Nat} (hn : n0 ≤ E.H.length) (hok : HOk E) (he : a0r E env tmps) {t tx ty e : TypeId} {i : TypeInfo} {z : Value} (ht : P.underlying t = some (.slice e)) (hi : P.info? e = some i) (hz : i.zero = some z)
  (hzs : z.cells.size = i.size) (hpz : 0 < i.size) {v x : Value} {ys : List AV} {news : List Value} (hs : Go.Src P i.size tx x ys.length news E.w) (hw : ∀ y ∈ ys, y.cells.length = i.size)
  (hnl : news.length = (ys.flatMap AV.cells).length) (hnr : ∀ (k : Nat) u b, news[k]? = some u → (ys.flatMap AV.cells)[k]? = some b → Rep E u b)
  {id off len d : Nat} (hr : Rep E v (.mu id off len (some d))) {r : Blk} (hrow : E.H[id]? = some (some r)) (hwd : r.wd = i.size) (hle : off + len ≤ r.xs.length) (hyl : 0 < ys.length) (hful : d < len + ys.length)
  (hb : (len + ys.length) * i.bytes ≤ 140737488355328) (h63 : len + ys.length ≤ 9223372036854775807) :
  Left P n0 E tmps (do pure (Next.value (← Builtin.append_ #[t, tx] ty #[v, x]))) (.mu E.H.length 0 (len + ys.length) none) env (E.H ++ [some ⟨i.size, (r.xs.drop off).take len ++ ys⟩]) := by
 have hid := a0k hrow
 have hpos : 0 < r.wd := by omega
 have hwr := hok.wids id r hrow
 rw [hwd] at hpos hwr
 have hwx : ∀ x ∈ (r.xs.drop off).take len ++ ys, x.cells.length = i.size := by
  intro x hx
  rcases List.mem_append.1 hx with hx | hx
  ·exact hwr x (List.mem_of_mem_drop (List.mem_of_mem_take hx))
  ·exact hw x hx
 have hwd' : ∀ x ∈ r.xs.drop off, x.cells.length = i.size := fun x hx => hwr x (List.mem_of_mem_drop hx)
 have hft : ((r.xs.drop off).take len).flatMap AV.cells = (r.flat.drop (off * i.size)).take (len * i.size) := by
  rw [a6K hwd', b3J hwr]; rfl
 have hfl : r.flat.length = r.xs.length * i.size := a1s hwr
 have hfy : (ys.flatMap AV.cells).length = ys.length * i.size := a1s hw
 have hmul : (off + len) * i.size ≤ r.xs.length * i.size := Nat.mul_le_mul_right _ hle
 have hadd0 : (off + len) * i.size = off * i.size + len * i.size := Nat.add_mul ..
 have hadd : (len + ys.length) * i.size = len * i.size + ys.length * i.size := Nat.add_mul ..
 have htl : ((r.flat.drop (off * i.size)).take (len * i.size)).length = len * i.size := by rw [List.length_take, List.length_drop]; omega
 have grow : ∀ (base : Option Addr) (cap : Nat) (olds : List Value), v = .slice base len cap → (Builtin.firstCells i.size len (.slice base len cap)).run P E.w.drew = .ok olds.toArray E.w.drew → cap < len + ys.length → len ≤ cap →
   olds.length = len * i.size → (∀ (k : Nat) u b, olds[k]? = some u → ((r.flat.drop (off * i.size)).take (len * i.size))[k]? = some b → u.oneCell' = true ∧ Rep E u b) →
   Left P n0 E tmps (do pure (Next.value (← Builtin.append_ #[t, tx] ty #[v, x]))) (.mu E.H.length 0 (len + ys.length) none) env (E.H ++ [some ⟨i.size, (r.xs.drop off).take len ++ ys⟩]) := by
  intro base cap olds hv hfo hg hlc holl hor
  subst hv
  have hgr := run_append_grow_src (P := P) E.w t tx ty e i z ht hi hz base len cap olds hfo x ys.length news hs hg (by omega) (growslice_fits hg hb)
  have hge := grownCap_ge E.w (len + ys.length) cap e
  have hcs : ((olds ++ news).toArray ++ Builtin.zeroCells z.cells (grownCap E.w (len + ys.length) cap e - (len + ys.length))).size = grownCap E.w (len + ys.length) cap e * i.size := by
   rw [Array.size_append, size_zeroCells, hzs, List.size_toArray, List.length_append, holl, hnl, hfy, ← hadd, ← Nat.add_mul]; congr 1; omega
  have hflat : (Blk.mk i.size ((r.xs.drop off).take len ++ ys)).flat = (r.flat.drop (off * i.size)).take (len * i.size) ++ ys.flatMap AV.cells := by
   show ((r.xs.drop off).take len ++ ys).flatMap AV.cells = _
   rw [List.flatMap_append, hft]
  obtain ⟨φ', h1, h2, h3, h4, h5⟩ := c2T (env := env) (tmps := tmps) (n0 := n0) hn hok he (w := E.w.drew.alloc (.cells ((olds ++ news).toArray ++ Builtin.zeroCells z.cells (grownCap E.w (len + ys.length) cap e - (len + ys.length))) e)) rfl rfl rfl (by simp) (a1t E.w.drew _) E.w.heap.size (Nat.le_refl _)
   ⟨i.size, (r.xs.drop off).take len ++ ys⟩ hpos hwx (b7z E.w _) (by rw [hflat, Array.size_append, List.size_toArray, List.length_append, List.length_append, holl, htl, hnl]; omega) (fun k u b hu hb' => by
    rw [hflat] at hb'
    have hk : k < (olds ++ news).length := by
     have := a0i hb'
     rw [List.length_append, htl, hfy] at this
     rw [List.length_append, holl, hnl, hfy]; exact this
    have hu' : (olds ++ news)[k]? = some u := by
     rw [Array.getElem?_append_left (by simpa using hk)] at hu
     simpa using hu
    exact a3H (Q := fun u b => u.oneCell' = true ∧ Rep E u b) (by rw [holl, htl]) hor (fun k u b hu hb => ⟨hs.one u (List.mem_of_getElem? hu), hnr k u b hu hb⟩) k u b hu' hb')
  refine ⟨φ', _, _, _, a2o hgr, .inl rfl, h1, ?_, h2, h3⟩
  refine Rep.mu (E := ⟨φ', E.H ++ [some ⟨i.size, (r.xs.drop off).take len ++ ys⟩], _⟩) ⟨i.size, (r.xs.drop off).take len ++ ys⟩ E.H.length 0 (len + ys.length) none E.w.heap.size 0 _ h5 h4 (.inl (by simp)) hge ?_ (fun c hc => by cases hc)
  simp only
  rw [a2A (b7z E.w _), hcs]; simp
 cases hr with
 | mu blk _ _ _ _ bn q cap hlive hbn hq hlen hsz hoc =>
  rw [hrow] at hlive; cases hlive
  have hcd := hoc d rfl
  obtain ⟨c, e0, ro⟩ := hok.row id r bn hrow hbn
  have hfits := ro.fits
  have hol : ((c.toList.drop (off * i.size)).take (len * i.size)).length = len * i.size := by rw [List.length_take, List.length_drop, Array.length_toList]; omega
  have hfo : (Builtin.firstCells i.size len (.slice (some ⟨bn, q, none⟩) len cap)).run P E.w.drew = .ok ((c.toList.drop (off * i.size)).take (len * i.size)).toArray E.w.drew := by
   refine run_firstCells_some E.w.drew i.size len _ len cap _ hol (fun j u hj => ?_)
   have hj' := a0i hj
   rw [hol] at hj'
   have hne : len ≠ 0 := by rintro rfl; simp at hj'
   have hq0 : q = off * i.size := by
    rcases hq with hq | hq
    ·rw [hq, hwd]
    ·omega
   subst hq0
   rw [List.getElem?_take, if_pos hj', List.getElem?_drop] at hj
   rw [Addr.add_lit, World.cell?_drew, cell_of_row _ _ _ _ _ _ (ro.heap (by omega))]
   simpa using hj
  refine grow _ cap _ rfl hfo (by omega) hlen hol (fun k u b hu hb' => ?_)
  rw [List.getElem?_take] at hu hb'
  split at hu
  ·rename_i hk
   rw [if_pos hk, List.getElem?_drop] at hb'
   rw [List.getElem?_drop] at hu
   exact ⟨ro.one _ u (a0i hb') (by simpa using hu), ro.rep _ u b (by simpa using hu) hb'⟩
  ·simp at hu
 | mu0 blk _ _ _ hlive hbn hoc =>
  refine grow none 0 [] rfl (run_firstCells_none E.w.drew i.size 0 0 0) (by omega) (by omega) (by simp) (fun k u b hu _ => by simp at hu)
 | dead _ _ id' hr' hd h1 =>
  simp [AV.ref] at hr'; subst hr'
  rw [hrow] at hd; cases hd
end
theorem b8o {id : Nat} {x : AV} (h : nref id x = true) : ∀ c ∈ x.cells, nref id c = true := by
 intro c hc
 have hr := a0l.1 h
 cases x with
 | agg cs => cases hr with | agg _ h' => exact a0l.2 (h' c hc)
 | mo l => cases hc
 | io a b l => cases hc
 | ms a b l n => cases hc
 | _ => simp only [AV.cells, List.mem_cons, List.not_mem_nil, or_false] at hc; subst hc; exact h
theorem e4a {id : Nat} {a : AV} (h : nref id a = true) : topd id a = a := by unfold topd; rw [if_pos h]
theorem e0G {E : Emb} {id : Nat} {v : Value} {a : AV} (h : Rep E v a) : Rep E v (topd id a) := by
 unfold topd; split
 ·exact h
 ·exact .top v
theorem d6Y (id : Nat) (a : AV) : nref id (topd id a) = true := by
 unfold topd; split
 ·assumption
 ·exact a0l.2 .top
theorem b9R (id : Nat) (x : AV) : (a3B id x).cells = x.cells.map (topd id) := by
 unfold a3B
 split
 ·rename_i h
  have := b8o h
  rw [List.map_congr_left (g := fun c => c) fun c hc => e4a (this c hc)]
  simp
 ·rename_i h
  cases x with
  | agg cs => rfl
  | mo l => exact absurd (a0l.2 (.mo l)) h
  | io a b l => exact absurd (a0l.2 (.io a b l)) h
  | ms a b l n => exact absurd (a0l.2 (.ms a b l n)) h
  | _ => simp only [AV.cells, List.map_cons, List.map_nil, topd, if_neg h]
theorem b0Y (id : Nat) (b : Blk) : (b0f id b).flat = b.flat.map (topd id) := by
 unfold b0f Blk.flat
 simp only [List.flatMap_map, List.map_flatMap]
 congr 1
 funext x
 exact b9R id x
theorem a2z {H : Heap} {id j : Nat} {b' : Blk} (h : (a2a id H)[j]? = some (some b')) : ∃ b, H[j]? = some (some b) ∧ b' = b0f id b := by
 unfold a2a at h
 rw [List.getElem?_map] at h
 cases hh : H[j]? with
 | none => rw [hh] at h; cases h
 | some o =>
  rw [hh] at h
  cases o with
  | none => cases h
  | some b => exact ⟨b, rfl, (Option.some.inj (Option.some.inj h)).symm⟩
theorem d5h {H : Heap} {id : Nat} {r : Blk} (h : H[id]? = some (some r)) (hr : ∀ a ∈ r.xs, nref id a = true) : (a2a id H)[id]? = some (some r) := by
 unfold a2a
 rw [List.getElem?_map, h]
 simp only [Option.map_some]
 congr 2
 unfold b0f
 rw [List.map_congr_left (g := fun c => c) fun c hc => by unfold a3B; rw [if_pos (hr c hc)]]
 simp
theorem d5f (H : Heap) (id : Nat) : Free (a2a id H) id := fun j bj hj hb a ha => by
 obtain ⟨b, _, rfl⟩ := a2z hb
 rw [b0Y] at ha
 obtain ⟨c, _, rfl⟩ := List.mem_map.1 ha
 exact a0l.1 (d6Y id c)
theorem d8R {E : Emb} (hok : HOk E) (id : Nat) : HOk ⟨E.φ, a2a id E.H, E.w⟩ ∧ Ext All E ⟨E.φ, a2a id E.H, E.w⟩ := by
 have hx : Ext All E ⟨E.φ, a2a id E.H, E.w⟩ := by
  refine ⟨rfl, rfl, rfl, Nat.le_refl _, fun j _ h => by simpa [a2a] using h, fun _ _ _ => rfl, fun j blk' _ _ hb => ?_, fun _ _ _ _ _ _ _ => rfl, ?_, fun _ _ _ => rfl, fun _ _ => rfl⟩
  ·obtain ⟨b, h1, rfl⟩ := a2z hb
   exact ⟨b, h1, rfl⟩
  ·rintro b _ ⟨j, blk', hb, hp⟩
   obtain ⟨b2, h1, rfl⟩ := a2z hb
   exact ⟨j, b2, h1, hp⟩
 refine ⟨⟨fun j blk b hl h0 hb => ?_, fun j blk hl x hx => ?_, fun j blk b hl hb => ?_, fun j blk hl hb => ?_, fun j1 j2 b1 b2 b h1 h2 p1 p2 => ?_⟩, hx⟩
 ·obtain ⟨b2, h1, rfl⟩ := a2z hl
  rcases hok.obj j b2 b h1 h0 hb with ⟨L, q1, q2⟩ | ⟨mid, n, seen, m, q1, q2, q3, q4⟩ | ⟨bs, ks, vs, n, q1, us, q2, q3, q4, q5, q6, q7, q8⟩
  ·refine .inl ⟨L, ?_, q2⟩
   simp only [b0f, q1, List.map_cons, List.map_nil, a3B]
   rw [if_pos (a0l.2 (.mo L))]
  ·refine .inr (.inl ⟨mid, n, seen, m, ?_, q2, q3, fun blk hm => ?_⟩)
   ·simp only [b0f, q1, List.map_cons, List.map_nil, a3B]
    rw [if_pos (a0l.2 (.io mid n seen))]
   ·obtain ⟨b3, h3, rfl⟩ := a2z hm
    exact q4 b3 h3
  ·refine .inr (.inr ⟨bs, ks, vs, n, ?_, us, q2, q3, q4, q5, q6, q7, fun k u v hu hv => (q8 k u v hu hv).mono hx (q6 v (List.mem_of_getElem? hv)).ref⟩)
   simp only [b0f, q1, List.map_cons, List.map_nil, a3B]
   rw [if_pos (a0l.2 (.ms bs ks vs n))]
 ·obtain ⟨b2, h1, rfl⟩ := a2z hl
  obtain ⟨y, hy, rfl⟩ := List.mem_map.1 hx
  rw [b9R, List.length_map]
  exact hok.wids j b2 h1 y hy
 ·obtain ⟨b2, h1, rfl⟩ := a2z hl
  obtain ⟨c, e, r⟩ := hok.row j b2 b h1 hb
  refine ⟨c, e, r.heap, by rw [b0Y, List.length_map]; exact r.fits, fun k v hk hv => r.one k v (by rw [b0Y, List.length_map] at hk; exact hk) hv, fun k v a hv ha => ?_⟩
  rw [b0Y, List.getElem?_map] at ha
  obtain ⟨a0, h0, rfl⟩ := Option.map_eq_some_iff.1 ha
  exact e0G ((r.rep k v a0 hv h0).mono' (hx.sub fun _ _ => trivial))
 ·obtain ⟨b2, h1, rfl⟩ := a2z hl
  simp [b0f, hok.emp j b2 h1 hb]
 ·obtain ⟨c1, g1, rfl⟩ := a2z h1
  obtain ⟨c2, g2, rfl⟩ := a2z h2
  exact hok.inj j1 j2 c1 c2 b g1 g2 p1 p2
end Go.Abs
namespace Go.Abs
section
variable {P : Program} {E : Emb} {env : Env} {tmps : Array Value}
theorem c7e (hok : HOk E) {v : Value} {id : Nat} (hr : Rep E v (.mp true id)) {L : List (Int × Int)} (h : a9W E.H (.mp true id) = some L) :
  ∃ b, v = .map (some b) ∧ E.w.heap[b]? = some (.map (a8S L) L.length) ∧ E.H[id]? = some (some ⟨0, [.mo L]⟩) ∧ E.φ id = some b := by
 unfold a9W at h
 simp only at h
 split at h
 ·rename_i L' hrw
  cases h
  have hl := a0N hrw
  cases hr with
  | mp blk _ _ b hlive hb hw =>
   rw [hl] at hlive; cases hlive
   rcases hok.obj id _ b hl rfl hb with ⟨L', q1, q2⟩ | ⟨_, _, _, _, q1, _⟩ | ⟨_, _, _, _, q1, _⟩
   ·simp at q1; subst q1; exact ⟨b, rfl, q2, hl, hb⟩
   ·simp at q1
   ·simp at q1
  | dead v a id' hr hd h1 => simp [AV.ref] at hr; subst hr; rw [hl] at hd; cases hd
 ·cases h
theorem d8q (L : List (Int × Int)) (x y : Int) : ∀ i, mapE i (L ++ [(x, y)]) = mapE i L ++ [{ key := .int .i64 x, val := .int .i64 y, born := i + L.length }] := by
 induction L with
 | nil => intro i; rfl
 | cons p L ih => intro i; simp only [List.cons_append, mapE, ih]; simp; omega
theorem e4o {t : TypeId} (ht : mapT P t = true) {w : World} {b : Nat} {L : List (Int × Int)} (hb : w.heap[b]? = some (.map (a8S L) L.length)) {x : Int} (hx : mget L x = none) (y : Int) :
  (Instr.mapUpdate t (.map (some b)) (.int .i64 x) (.int .i64 y)).run P w = .ok () { w with heap := w.heap.setIfInBounds b (.map (a8S (L ++ [(x, y)])) (L ++ [(x, y)]).length) } := by
 obtain ⟨kt, vt, i, h1, h2, h3, h4, h5⟩ := c8d ht
 obtain ⟨r, q1, q2⟩ := c8y .i64 x L 0 0
 have hr : r = none := by cases r <;> simp [hx] at q2 ⊢
 subst hr
 unfold Instr.mapUpdate
 simp only [Sem.run_bind, run_underlying h1, Result.andThen_ok, a0P hb, Sem.run_pure, c0R h2, Instr.findKey, run_underlying h2]
 rw [show (Instr.findNow (.int .i64) (.int .i64 x) (a8S L).toList 0) = some none from by simpa [a8S] using q1]
 simp only [Sem.run_pure, Result.andThen_ok, a6i _ hb]
 simp [a8S, d8q]
theorem d5W {n0 : Nat} (hn : n0 ≤ E.H.length) (hok : HOk E) (he : a0r E env tmps) (t : TypeId) :
  Left P n0 E tmps (do pure (Next.value (← Instr.makeMap t none))) (.mp true E.H.length) env (E.H ++ [some ⟨0, [.mo []]⟩]) := by
 have hob : (E.w.alloc (.map #[] 0)).heap[E.w.heap.size]? = some (.map #[] 0) := heap_alloc_new ..
 obtain ⟨h1, h2⟩ := hok.oalloc (w := E.w.alloc (.map #[] 0)) rfl rfl rfl (by simp) E.w.heap.size (Nat.le_refl _) (a1t _ _) [.mo []] (.inl ⟨[], rfl, hob⟩)
 refine ⟨_, _, _, .map (some E.w.heap.size), a2o (by simp [Instr.makeMap, run_newObj_alloc]), .inl rfl, h1, ?_, he.mono h2, h2.sub (fun i hi => Nat.lt_of_lt_of_le hi hn)⟩
 exact .mp ⟨0, [.mo []]⟩ true _ E.w.heap.size (by simp) (by simp) rfl
theorem d8j {n0 : Nat} (hn : n0 ≤ E.H.length) (hok : HOk E) (he : a0r E env tmps) {t : TypeId} (ht : mapT P t = true) {v : Value} {id : Nat} (hr : Rep E v (.mp true id)) {L : List (Int × Int)} (h : a9W E.H (.mp true id) = some L) :
  Left P n0 E tmps (do pure (Next.value (← Instr.range t v))) (.mp false E.H.length) env (E.H ++ [some ⟨0, [.io id L.length []]⟩]) := by
 obtain ⟨b, rfl, hb, hz, hφ⟩ := c7e hok hr h
 obtain ⟨kt, vt, i, h1, h2, h3, h4, h5⟩ := c8d ht
 have hid : id < E.H.length := by have := hr.ref; cases this; assumption
 have hob : (E.w.alloc (.mapIter (some b) L.length #[] L.length)).heap[E.w.heap.size]? = some (.mapIter (some b) L.length #[] L.length) := heap_alloc_new ..
 obtain ⟨q1, q2⟩ := hok.oalloc (w := E.w.alloc (.mapIter (some b) L.length #[] L.length)) rfl rfl rfl (by simp) E.w.heap.size (Nat.le_refl _) (a1t _ _) [.io id L.length []]
  (.inr <| .inl ⟨id, L.length, [], b, rfl, hob, hid, fun blk hl => by
   simp only [a2K] at hl ⊢
   have hne : id ≠ E.H.length := by omega
   simp only [hne, if_false] at hl ⊢
   rw [hz] at hl; cases hl; exact ⟨rfl, hφ⟩⟩)
 refine ⟨_, _, _, .pointer (some ⟨E.w.heap.size, 0, none⟩), a2o ?_, .inl rfl, q1, ?_, he.mono q2, q2.sub (fun i hi => Nat.lt_of_lt_of_le hi hn)⟩
 ·unfold Instr.range
  simp only [Sem.run_bind, run_underlying h1, Result.andThen_ok, a0P hb, Sem.run_pure, run_newObj_alloc]
 ·exact .mp ⟨0, [.io id L.length []]⟩ false _ E.w.heap.size (by simp) (by simp) rfl
theorem d8i {n0 : Nat} (hn : n0 ≤ E.H.length) (hok : HOk E) (he : a0r E env tmps) {t : TypeId} (ht : mapT P t = true) {v : Value} {id : Nat} (hr : Rep E v (.mp true id)) {L : List (Int × Int)} (h : a9W E.H (.mp true id) = some L) {x y : Int} (hx : mget L x = none) :
  Left P n0 E tmps (do Instr.mapUpdate t v (.int .i64 x) (.int .i64 y); pure .skip) .top env (E.H.set id (some ⟨0, [.mo (L ++ [(x, y)])]⟩)) := by
 obtain ⟨b, rfl, hb, hz, hφ⟩ := c7e hok hr h
 have hlt := hok.lt hz hφ
 obtain ⟨q1, q2⟩ := hok.owrite (w := { E.w with heap := E.w.heap.setIfInBounds b (.map (a8S (L ++ [(x, y)])) (L ++ [(x, y)]).length) }) rfl rfl rfl (by simp) hz rfl hφ
  (fun b' hb' hne => by simp [Array.getElem?_setIfInBounds, Ne.symm hne]) [.mo (L ++ [(x, y)])] (.inl ⟨_, rfl, by simp [Array.getElem?_setIfInBounds, hlt]⟩)
 refine ⟨_, _, .skip, undef, ?_, .inr ⟨rfl, rfl⟩, q1, .top _, he.mono q2, q2.sub (fun i hi => Nat.lt_of_lt_of_le hi hn)⟩
 simp only [Sem.run_bind, e4o ht hb hx, Result.andThen_ok, Sem.run_pure]
theorem e0M {n0 : Nat} (hn : n0 ≤ E.H.length) (hok : HOk E) (he : a0r E env tmps) (t : TypeId) :
  Left P n0 E tmps (do pure (Next.value (← Instr.makeMap t none))) (.mp true E.H.length) env (E.H ++ [some ⟨0, [.ms [] [] [] 0]⟩]) := by
 have hob : (E.w.alloc (.map #[] 0)).heap[E.w.heap.size]? = some (.map #[] 0) := heap_alloc_new ..
 obtain ⟨h1, h2⟩ := hok.oalloc (w := E.w.alloc (.map #[] 0)) rfl rfl rfl (by simp) E.w.heap.size (Nat.le_refl _) (a1t _ _) [.ms [] [] [] 0]
  (.inr <| .inr ⟨[], [], [], 0, rfl, [], hob, rfl, rfl, rfl, by simp, by simp, by simp⟩)
 refine ⟨_, _, _, .map (some E.w.heap.size), a2o (by simp [Instr.makeMap, run_newObj_alloc]), .inl rfl, h1, ?_, he.mono h2, h2.sub (fun i hi => Nat.lt_of_lt_of_le hi hn)⟩
 exact .mp ⟨0, [.ms [] [] [] 0]⟩ true _ E.w.heap.size (by simp) (by simp) rfl
theorem d7k {n0 : Nat} (hn : n0 ≤ E.H.length) (hok : HOk E) (he : a0r E env tmps) {t : TypeId} (ht : b8d P t = true) {v : Value} {id : Nat} (hr : Rep E v (.mp true id)) {bs : List Nat} {ks : List ByteArray} {vs : List AV} {n : Nat} (h : a2P E.H (.mp true id) = some (bs, ks, vs, n)) :
  Left P n0 E tmps (do pure (Next.value (← Instr.range t v))) (.mp false E.H.length) env (E.H ++ [some ⟨0, [.io id n []]⟩]) := by
 obtain ⟨id', b, q0, rfl, hz, hφ, us, hb, -⟩ := b0e hok hr h
 cases q0
 obtain ⟨kt, vt, i, h1, h2, h4, h5⟩ := b6B ht
 have hid : id < E.H.length := by have := hr.ref; cases this; assumption
 have hob : (E.w.alloc (.mapIter (some b) n #[] n)).heap[E.w.heap.size]? = some (.mapIter (some b) n #[] n) := heap_alloc_new ..
 obtain ⟨q1, q2⟩ := hok.oalloc (w := E.w.alloc (.mapIter (some b) n #[] n)) rfl rfl rfl (by simp) E.w.heap.size (Nat.le_refl _) (a1t _ _) [.io id n []]
  (.inr <| .inl ⟨id, n, [], b, rfl, hob, hid, fun blk hl => by
   simp only [a2K] at hl ⊢
   have hne : id ≠ E.H.length := by omega
   simp only [hne, if_false] at hl ⊢
   rw [hz] at hl; cases hl; exact ⟨rfl, hφ⟩⟩)
 refine ⟨_, _, _, .pointer (some ⟨E.w.heap.size, 0, none⟩), a2o ?_, .inl rfl, q1, ?_, he.mono q2, q2.sub (fun i hi => Nat.lt_of_lt_of_le hi hn)⟩
 ·unfold Instr.range
  simp only [Sem.run_bind, run_underlying h1, Result.andThen_ok, a0P hb, Sem.run_pure, run_newObj_alloc]
 ·exact .mp ⟨0, [.io id n []]⟩ false _ E.w.heap.size (by simp) (by simp) rfl
theorem d3y : ∀ {ks : List ByteArray} {k : ByteArray} {i : Nat}, sidx ks k = some i → ks[i]? = some k
 | [], _, _, h => by simp [sidx] at h
 | x :: r, k, i, h => by
  simp only [sidx] at h
  split at h
  ·rename_i hk; cases h; simp [hk]
  ·simp only [Option.map_eq_some_iff] at h
   obtain ⟨j, h1, rfl⟩ := h
   simpa using d3y h1
theorem c9Z {bs : List Nat} {ks : List ByteArray} {us : List Value} {i : Nat} {b : Nat} {k : ByteArray} {u : Value} (h1 : bs[i]? = some b) (h2 : ks[i]? = some k) (h3 : us[i]? = some u) :
  (a5O bs ks us)[i]? = some { key := .string k, val := u, born := b } := by
 simp [a5O, List.getElem?_zip_eq_some, List.getElem?_map, List.zip, List.getElem?_zipWith, h1, h2, h3]
theorem c9X : ∀ {bs : List Nat} {ks : List ByteArray} {us : List Value} {i : Nat} {k : ByteArray} {u : Value}, ks.length = bs.length → us.length = bs.length → ks[i]? = some k →
  ((bs.zip (ks.zip us)).map fun p => ({ key := .string p.2.1, val := p.2.2, born := p.1 } : MapEntry)).modify i (fun e => { e with key := .string k, val := u }) =
   ((bs.zip (ks.zip (us.set i u))).map fun p => ({ key := .string p.2.1, val := p.2.2, born := p.1 } : MapEntry))
 | [], [], [], i, k, u, _, _, h => by simp at h
 | b :: bs, x :: ks, v :: us, 0, k, u, _, _, h => by simp at h; subst h; simp
 | b :: bs, x :: ks, v :: us, i + 1, k, u, h1, h2, h => by
  have := c9X (bs := bs) (ks := ks) (us := us) (i := i) (k := k) (u := u) (by simpa using h1) (by simpa using h2) (by simpa using h)
  simp only [List.zip_cons_cons, List.map_cons, List.set_cons_succ, List.modify_succ_cons, this]
 | [], _ :: _, _, _, _, _, h, _, _ => by simp at h
 | [], [], _ :: _, _, _, _, _, h, _ => by simp at h
 | _ :: _, [], _, _, _, _, h, _, _ => by simp at h
 | _ :: _, _ :: _, [], _, _, _, _, h, _ => by simp at h
theorem c4p : ∀ {bs : List Nat} {ks : List ByteArray} {us : List Value} {i : Nat}, ks.length = bs.length → us.length = bs.length →
  ((bs.zip (ks.zip us)).map fun p => ({ key := .string p.2.1, val := p.2.2, born := p.1 } : MapEntry)).eraseIdx i =
   (((bs.eraseIdx i).zip ((ks.eraseIdx i).zip (us.eraseIdx i))).map fun p => ({ key := .string p.2.1, val := p.2.2, born := p.1 } : MapEntry))
 | [], [], [], i, _, _ => by simp
 | b :: bs, x :: ks, v :: us, 0, _, _ => by simp
 | b :: bs, x :: ks, v :: us, i + 1, h1, h2 => by
  have := c4p (bs := bs) (ks := ks) (us := us) (i := i) (by simpa using h1) (by simpa using h2)
  simp only [List.zip_cons_cons, List.map_cons, List.eraseIdx_cons_succ, this]
 | [], _ :: _, _, _, h, _ => by simp at h
 | [], [], _ :: _, _, _, h => by simp at h
 | _ :: _, [], _, _, h, _ => by simp at h
 | _ :: _, _ :: _, [], _, _, h => by simp at h
theorem d6j {bs : List Nat} {ks : List ByteArray} {us : List Value} {b : Nat} {k : ByteArray} {u : Value} (h1 : ks.length = bs.length) (h2 : us.length = bs.length) :
  (a5O bs ks us).push { key := .string k, val := u, born := b } = a5O (bs ++ [b]) (ks ++ [k]) (us ++ [u]) := by
 apply Array.ext'
 simp [a5O, List.zip_append, h1, h2]
theorem e7j {v : Value} {a : AV} (hr : Rep E v a) (hs : a.solid = true) : v.oneCell' = true := by
 cases hr with
 | lit v => simpa [AV.solid] using hs
 | dead v a id hr hd h1 => exact h1
 | mp blk k id b hlive hb hw => cases k <;> rfl
 | _ => first | rfl | simp [AV.solid] at hs
theorem e0K {t : TypeId} (ht : b8d P t = true) {w : World} {b n : Nat} {bs : List Nat} {ks : List ByteArray} {us : List Value} (hb : w.heap[b]? = some (.map (a5O bs ks us) n)) (l1 : ks.length = bs.length) (l2 : us.length = bs.length) (k : ByteArray) (u : Value) :
  (Instr.mapUpdate t (.map (some b)) (.string k) u).run P w = .ok () { w with heap := w.heap.setIfInBounds b (match sidx ks k with
   | some i => .map (a5O bs ks (us.set i u)) n
   | none => .map (a5O (bs ++ [n]) (ks ++ [k]) (us ++ [u])) (n + 1)) } := by
 obtain ⟨kt, vt, i, h1, h2, h4, h5⟩ := b6B ht
 unfold Instr.mapUpdate
 simp only [Sem.run_bind, run_underlying h1, Result.andThen_ok, a0P hb, Sem.run_pure, b3N h2, b5N h2 l1 l2]
 cases hs : sidx ks k with
 | none =>
  simp only [Option.map_none, a6i _ hb, d6j l1 l2]
 | some i =>
  have hk := d3y hs
  have hi := b8f hs
  have hg := c9Z (bs := bs) (ks := ks) (us := us) (List.getElem?_eq_getElem (show i < bs.length by omega)) hk (List.getElem?_eq_getElem (show i < us.length by omega))
  have hm : (a5O bs ks us).modify i (fun e => { e with key := .string k, val := u }) = a5O bs ks (us.set i u) := by
   apply Array.ext'
   rw [Array.toList_modify]
   exact c9X l1 l2 hk
  simp only [Option.map_some, Sem.run_bind, hg, Option.getD_some, Instr.keyThatStays, Instr.sameBits, show (k == k) = true by (rw [c5d]; simp), if_true, Sem.run_pure, Result.andThen_ok, a6i _ hb, hm]
theorem e0Y {t : TypeId} (ht : b8d P t = true) {w : World} {b n : Nat} {bs : List Nat} {ks : List ByteArray} {us : List Value} (hb : w.heap[b]? = some (.map (a5O bs ks us) n)) (l1 : ks.length = bs.length) (l2 : us.length = bs.length) (k : ByteArray) (ts : List TypeId) (ty : TypeId) :
  (Builtin.delete_ (t :: ts).toArray ty #[.map (some b), .string k]).run P w = .ok (.tuple #[]) { w with heap := w.heap.setIfInBounds b (match sidx ks k with
   | some i => .map (a5O (bs.eraseIdx i) (ks.eraseIdx i) (us.eraseIdx i)) n
   | none => .map (a5O bs ks us) n) } := by
 obtain ⟨kt, vt, i, h1, h2, h4, h5⟩ := b6B ht
 unfold Builtin.delete_
 simp only [List.getElem?_toArray, List.getElem?_cons_zero, List.getElem?_cons_succ, Sem.run_bind, run_underlying h1, Result.andThen_ok, a0P hb, Sem.run_pure, b3N h2, b5N h2 l1 l2]
 cases hs : sidx ks k with
 | none => simp only [Option.map_none, a6i _ hb, Result.andThen_ok, Sem.run_bind, Sem.run_pure]
 | some i =>
  have hi := b8f hs
  have hm : (a5O bs ks us).eraseIdxIfInBounds i = a5O (bs.eraseIdx i) (ks.eraseIdx i) (us.eraseIdx i) := by
   apply Array.ext'
   rw [Array.toList_eraseIdxIfInBounds]
   exact c4p l1 l2
  simp only [Option.map_some, a6i _ hb, Result.andThen_ok, hm, Sem.run_bind, Sem.run_pure]
theorem c1L {n0 : Nat} (hn : n0 ≤ E.H.length) (hok : HOk E) (he : a0r E env tmps) {id b : Nat} {bs : List Nat} {ks : List ByteArray} {vs : List AV} {n : Nat} (hz : E.H[id]? = some (some ⟨0, [.ms bs ks vs n]⟩)) (hφ : E.φ id = some b)
  {bs' : List Nat} {ks' : List ByteArray} {vs' : List AV} {us' : List Value} {n' : Nat} (l1 : ks'.length = bs'.length) (l2 : vs'.length = bs'.length) (l3 : us'.length = bs'.length) (hc : ∀ v ∈ vs', Cl v) (h1 : ∀ u ∈ us', u.oneCell' = true)
  (hr : ∀ (k : Nat) u v, us'[k]? = some u → vs'[k]? = some v → Rep E u v) {w' : World} (hw : w' = { E.w with heap := E.w.heap.setIfInBounds b (.map (a5O bs' ks' us') n') }) :
  HOk ⟨E.φ, E.H.set id (some ⟨0, [.ms bs' ks' vs' n']⟩), w'⟩ ∧ a0r ⟨E.φ, E.H.set id (some ⟨0, [.ms bs' ks' vs' n']⟩), w'⟩ env tmps ∧ Ext (· < n0) E ⟨E.φ, E.H.set id (some ⟨0, [.ms bs' ks' vs' n']⟩), w'⟩ := by
 subst hw
 have hlt := hok.lt hz hφ
 have hx := hok.xwrite (w := { E.w with heap := E.w.heap.setIfInBounds b (.map (a5O bs' ks' us') n') }) rfl rfl rfl (by simp) hz rfl hφ
  (fun b' hb' hne => by simp [Array.getElem?_setIfInBounds, Ne.symm hne]) [.ms bs' ks' vs' n'] (by simp [a1M, Array.getElem?_setIfInBounds, hlt]) (by simp [tagW, Array.getElem?_setIfInBounds, hlt])
 obtain ⟨q1, q2⟩ := hok.owrite (w := { E.w with heap := E.w.heap.setIfInBounds b (.map (a5O bs' ks' us') n') }) rfl rfl rfl (by simp) hz rfl hφ
  (fun b' hb' hne => by simp [Array.getElem?_setIfInBounds, Ne.symm hne]) [.ms bs' ks' vs' n'] (.inr <| .inr ⟨_, _, _, _, rfl, us', by simp [Array.getElem?_setIfInBounds, hlt], l1, l2, l3, hc, h1, fun k u v hu hv => (hr k u v hu hv).mono hx (hc v (List.mem_of_getElem? hv)).ref⟩)
 exact ⟨q1, he.mono q2, q2.sub (fun i hi => Nat.lt_of_lt_of_le hi hn)⟩
theorem e2r (dst : Option Tmp) (x y : Operand) (ts : Array TypeId) (type : TypeId) (pos : String) (after : Array Edge) (guard : Option (Nat × Bool)) :
  execOp (Act.eval ⟨tmps, []⟩) ⟨dst, .call ⟨.builtin .delete, #[x, y], ts⟩, type, pos, after, guard⟩ =
   (do pure (Next.value (← Builtin.delete_ ts type #[Act.eval ⟨tmps, []⟩ x, Act.eval ⟨tmps, []⟩ y]))) := by
 simp [execOp, resolve, invoke, builtin]
theorem d7j {n0 : Nat} (hn : n0 ≤ E.H.length) (hok : HOk E) (he : a0r E env tmps) {t : TypeId} (ht : b8d P t = true) {v u : Value} {a av : AV} {id : Nat} (hr : Rep E v a) {bs : List Nat} {ks : List ByteArray} {vs : List AV} {n : Nat} (h : a2P E.H a = some (bs, ks, vs, n)) {k : ByteArray}
  (hu : Rep E u av) (hs : av.solid = true) (hcl : Cl av) (ha : a = .mp true id) :
  Left P n0 E tmps (do Instr.mapUpdate t v (.string k) u; pure .skip) .top env (E.H.set id (some ⟨0, [match sidx ks k with
    | some i => .ms bs ks (vs.set i av) n
    | none => .ms (bs ++ [n]) (ks ++ [k]) (vs ++ [av]) (n + 1)]⟩)) := by
 obtain ⟨id', b, q0, rfl, hz, hφ, us, hb, l1, l2, l3, hc, h1, hrp⟩ := b0e hok hr h
 rw [ha] at q0; cases q0
 have hrun := e0K ht hb l1 l3 k u
 have h1u := e7j hu hs
 cases hx : sidx ks k with
 | some i =>
  rw [hx] at hrun
  have hi := b8f hx
  obtain ⟨q1, q2, q3⟩ := c1L (n0 := n0) (bs' := bs) (ks' := ks) (vs' := vs.set i av) (us' := us.set i u) (n' := n) hn hok he hz hφ l1 (by simpa using l2) (by simpa using l3)
   (fun v hv => (List.mem_or_eq_of_mem_set hv).elim (hc v) (fun e => e ▸ hcl)) (fun v hv => (List.mem_or_eq_of_mem_set hv).elim (h1 v) (fun e => e ▸ h1u))
   (fun j u' v' hj hv => by
    rw [List.getElem?_set] at hj hv
    by_cases hij : i = j
    ·subst hij
     simp only [if_true, show i < us.length by omega, show i < vs.length by omega, Option.some.injEq] at hj hv
     subst hj; subst hv; exact hu
    ·rw [if_neg hij] at hj hv; exact hrp j u' v' hj hv) rfl
  refine ⟨_, _, .skip, undef, ?_, .inr ⟨rfl, rfl⟩, q1, .top _, q2, q3⟩
  simp only [Sem.run_bind, hrun, Result.andThen_ok, Sem.run_pure]
 | none =>
  rw [hx] at hrun
  obtain ⟨q1, q2, q3⟩ := c1L (n0 := n0) (bs' := bs ++ [n]) (ks' := ks ++ [k]) (vs' := vs ++ [av]) (us' := us ++ [u]) (n' := n + 1) hn hok he hz hφ (by simp [l1]) (by simp [l2]) (by simp [l3])
   (fun v hv => (List.mem_append.1 hv).elim (hc v) (fun e => by simp at e; exact e ▸ hcl)) (fun v hv => (List.mem_append.1 hv).elim (h1 v) (fun e => by simp at e; exact e ▸ h1u))
   (fun j u' v' hj hv => by
    by_cases hlt : j < bs.length
    ·rw [List.getElem?_append_left (by omega)] at hj hv; exact hrp j u' v' hj hv
    ·rw [List.getElem?_append_right (by omega)] at hj hv
     have : j = bs.length := by
      have := a0i hj; simp at this; omega
     subst this
     simp [l2, l3] at hj hv
     subst hj; subst hv; exact hu) rfl
  refine ⟨_, _, .skip, undef, ?_, .inr ⟨rfl, rfl⟩, q1, .top _, q2, q3⟩
  simp only [Sem.run_bind, hrun, Result.andThen_ok, Sem.run_pure]
theorem d7C {n0 : Nat} (hn : n0 ≤ E.H.length) (hok : HOk E) (he : a0r E env tmps) {t : TypeId} (ht : b8d P t = true) {v : Value} {a : AV} {id : Nat} (hr : Rep E v a) {bs : List Nat} {ks : List ByteArray} {vs : List AV} {n : Nat} (h : a2P E.H a = some (bs, ks, vs, n)) (k : ByteArray) (ha : a = .mp true id) (ts : List TypeId) (ty : TypeId) :
  Left P n0 E tmps (do pure (Next.value (← Builtin.delete_ (t :: ts).toArray ty #[v, .string k]))) (.tup []) env (E.H.set id (some ⟨0, [match sidx ks k with
    | some i => .ms (bs.eraseIdx i) (ks.eraseIdx i) (vs.eraseIdx i) n
    | none => .ms bs ks vs n]⟩)) := by
 obtain ⟨id', b, q0, rfl, hz, hφ, us, hb, l1, l2, l3, hc, h1, hrp⟩ := b0e hok hr h
 rw [ha] at q0; cases q0
 have hrun := e0Y ht hb l1 l3 k ts ty
 cases hx : sidx ks k with
 | some i =>
  rw [hx] at hrun
  have hi := b8f hx
  obtain ⟨q1, q2, q3⟩ := c1L (n0 := n0) (bs' := bs.eraseIdx i) (ks' := ks.eraseIdx i) (vs' := vs.eraseIdx i) (us' := us.eraseIdx i) (n' := n) hn hok he hz hφ
   (by rw [List.length_eraseIdx, List.length_eraseIdx, l1]) (by rw [List.length_eraseIdx, List.length_eraseIdx, l2]) (by rw [List.length_eraseIdx, List.length_eraseIdx, l3])
   (fun v hv => hc v (List.mem_of_mem_eraseIdx hv)) (fun v hv => h1 v (List.mem_of_mem_eraseIdx hv))
   (fun j u' v' hj hv => by
    rw [List.getElem?_eraseIdx] at hj hv
    split at hj
    ·rename_i hlt; rw [if_pos hlt] at hv; exact hrp _ _ _ hj hv
    ·rename_i hlt; rw [if_neg hlt] at hv; exact hrp _ _ _ hj hv) rfl
  exact ⟨_, _, _, .tuple #[], a2o hrun, .inl rfl, q1, .tup [] [] rfl (fun k v a hk => by simp at hk), q2, q3⟩
 | none =>
  rw [hx] at hrun
  obtain ⟨q1, q2, q3⟩ := c1L (n0 := n0) (bs' := bs) (ks' := ks) (vs' := vs) (us' := us) (n' := n) hn hok he hz hφ l1 l2 l3 hc h1 hrp rfl
  exact ⟨_, _, _, .tuple #[], a2o hrun, .inl rfl, q1, .tup [] [] rfl (fun k v a hk => by simp at hk), q2, q3⟩
theorem e2t {n0 : Nat} (hn : n0 ≤ E.H.length) {mutable : Bool} {o : Oper} {eo : EOp} (hc : ceff P mutable o.op = some eo) (hok : HOk E) (he : a0r E env tmps) {a : AV} {env' : Env} {H' : Heap}
  (hp : ev n0 eo env E.H = some (a, env', H')) : Left P n0 E tmps (execOp (Act.eval ⟨tmps, []⟩) o) a env' H' := by
 obtain ⟨dst, op, type, pos, after, guard⟩ := o
 simp only at hc
 cases op with
 | store t p v =>
  simp only [ceff, Option.bind_eq_bind, Option.bind_eq_some_iff] at hc
  obtain ⟨n, h0, hc⟩ := hc
  split at hc
  case isFalse => cases hc
  rename_i hn0
  simp only [Option.bind_eq_bind, Option.bind_eq_some_iff] at hc
  obtain ⟨sa, h1, sv, h2, h3⟩ := hc
  cases h3
  simp only [ev] at hp
  split at hp
  ·rename_i id i off e
   simp only [Option.bind_eq_some_iff] at hp
   obtain ⟨b, hb, hp⟩ := hp
   split at hp
   ·rename_i hcond
    cases hp
    obtain ⟨c1, c2, c3, c4⟩ := hcond
    have r1 := a0n he h1
    rw [e] at r1
    exact d4Y hn hok he r1 (a0n he h2) h0 hn0 hb c1 c2 c3 c4
   ·simp at hp
  ·simp at hp
 | box t v =>
  simp only [ceff, Option.bind_eq_bind, Option.bind_eq_some_iff] at hc
  obtain ⟨n, h0, sv, h2, h3⟩ := hc
  cases h3
  simp only [ev] at hp
  split at hp
  ·rename_i hcond
   cases hp
   exact d4o hn hok he t (a0n he h2) hcond.1 hcond.2.1 hcond.2.2
  ·simp at hp
 | alloc t =>
  simp only [ceff, Option.bind_eq_bind, Option.bind_eq_some_iff] at hc
  obtain ⟨i, hi, z, hz, hc⟩ := hc
  split at hc
  ·rename_i hzo
   rw [Bool.and_eq_true, decide_eq_true_eq] at hzo
   cases hc
   simp only [ev] at hp
   by_cases hcond : ((Src.c (a3O z)).ev env).fit = true ∧ ((Src.c (a3O z)).ev env).cells.length = i.size ∧ 0 < i.size
   ·rw [if_pos hcond] at hp
    cases hp
    have := d4o (P := P) hn hok he t (d3n E hzo.1).1 hcond.1 hcond.2.1 hcond.2.2
    have heq : execOp (Act.eval ⟨tmps, []⟩) ⟨dst, .alloc t, type, pos, after, guard⟩ = (do let z ← zeroValue t; pure (Next.value (← Instr.box t z))) := by
     simp [execOp, Instr.alloc, Instr.box]
    obtain ⟨φ', w', nx, v, h1, h2⟩ := this
    refine ⟨φ', w', nx, v, ?_, h2⟩
    rw [heq]
    have hzr : (zeroValue t).run P E.w = .ok z E.w := by simp [zeroValue, typeInfo, hi, hz]
    simp only [Sem.run_bind, hzr, Result.andThen_ok] at h1 ⊢
    exact h1
   ·rw [if_neg hcond] at hp; simp at hp
  ·simp at hc
 | buildSlice t len a2j =>
  simp only [ceff] at hc
  split at hc
  ·rename_i e ht
   simp only [Option.bind_eq_bind, Option.bind_eq_some_iff] at hc
   obtain ⟨i, hi, z, hz, ps, hps, hc⟩ := hc
   split at hc
   ·rename_i hcond
    obtain ⟨c1, c2, rfl, c4⟩ := hcond
    cases hc
    have bl := fun hpos hfit => e2J (P := P) hn hok he ht hi hz c1 hps c4 hpos hfit
    cases mutable
    ·simp only [Bool.false_eq_true, if_false, ev] at hp
     split at hp
     ·rename_i hcond
      cases hp
      obtain ⟨hpos, hall⟩ := hcond
      rw [List.all_eq_true] at hall
      have hall' : ∀ s ∈ ps, ((s.ev env).fit = true ∧ (s.ev env).cells.length = i.size) ∧ ∀ c ∈ (s.ev env).cells, Cl c := by
       intro s hs
       have := hall s hs
       simp only [Bool.and_eq_true, decide_eq_true_eq, List.all_eq_true] at this
       exact ⟨⟨this.1.1, this.1.2⟩, fun c hc => c4U.1 (this.2 c hc)⟩
      exact (bl hpos (fun s hs => (hall' s hs).1)).2 (fun s hs => (hall' s hs).2)
     ·simp at hp
    ·simp only [if_true, ev] at hp
     split at hp
     ·rename_i hcond
      cases hp
      obtain ⟨hpos, hall⟩ := hcond
      rw [List.all_eq_true] at hall
      exact (bl hpos (fun s hs => by simpa using hall s hs)).1
     ·simp at hp
   ·simp at hc
  ·simp at hc
 | makeSlice t l c =>
  simp only [ceff] at hc
  split at hc
  ·rename_i e ht
   simp only [Option.bind_eq_bind, Option.bind_eq_some_iff] at hc
   obtain ⟨i, hi, z, hz, hc⟩ := hc
   split at hc
   ·rename_i hcond
    simp only [Option.bind_eq_bind, Option.bind_eq_some_iff] at hc
    obtain ⟨sl, h1, sc, h2, h3⟩ := hc
    cases h3
    simp only [ev] at hp
    split at hp
    ·rename_i kl l' kc c' e1 e2
     split at hp
     ·rename_i hc'
      cases hp
      obtain ⟨g1, g2, g3, g4, g5⟩ := hc'
      have r1 := a0n he h1
      have r2 := a0n he h2
      rw [e1] at r1
      rw [e2] at r2
      have v1 := a0F r1
      have v2 := a0F r2
      have := d8k (P := P) hn hok he ht hi hz hcond.1 hcond.2 g1 (kl := kl) (kc := kc) g2 g3 g4 g5
      rw [← v1, ← v2] at this
      exact this
     ·simp at hp
    ·simp at hp
   ·simp at hc
  ·simp at hc
 | call c =>
  obtain ⟨callee, args, argTypes⟩ := c
  simp only [ceff] at hc
  split at hc
  ·rename_i x y t u hargs htys
   have ha : args = #[x, y] := by rw [← Array.toArray_toList (xs := args), hargs]
   have ht : argTypes = #[t, u] := by rw [← Array.toArray_toList (xs := argTypes), htys]
   subst ha ht
   split at hc
   ·rename_i e hu
    simp only [Option.bind_eq_bind, Option.bind_eq_some_iff] at hc
    obtain ⟨i, hi, z, hz, hc⟩ := hc
    split at hc
    ·rename_i hzs
     obtain ⟨hzs, hpz⟩ := hzs
     have main : ∀ (str : Bool) (sx sy : Src), a0B x = some sx → a0B y = some sy → ((str = false ∧ ∃ e', P.underlying u = some (.slice e')) ∨ (str = true ∧ P.underlying u = some .string ∧ i.size = 1)) →
       ev n0 (.app i.size i.bytes str sx sy) env E.H = some (a, env', H') →
       Left P n0 E tmps (execOp (Act.eval ⟨tmps, []⟩) ⟨dst, .call ⟨.builtin .append, #[x, y], #[t, u]⟩, type, pos, after, guard⟩) a env' H' := by
      intro str sx sy h1 h2 hk hp
      simp only [ev, Option.bind_eq_some_iff] at hp
      obtain ⟨ys, hys, hp⟩ := hp
      obtain ⟨news, n1, n2, n3, n4⟩ := d7l (tx := u) hok hk (a0n he h2) hys
      rw [d2I]
      have r1 := a0n he h1
      split at hp
      ·rename_i e1
       rw [e1] at r1
       split at hp
       ·rename_i hcond
        cases hp
        have hv : Act.eval ⟨tmps, []⟩ x = .slice none 0 0 := by
         generalize Act.eval ⟨tmps, []⟩ x = xv at r1
         cases r1 with
         | nil => rfl
         | dead v a id hr hd h1 => simp [AV.ref] at hr
        rw [hv]
        exact d1a hn hok he hu hi hz hzs hcond.1 n1 n2 n3 n4 hcond.2.1 hcond.2.2
       ·simp at hp
      ·rename_i id off len oc e1
       rw [e1] at r1
       simp only [Option.bind_eq_some_iff] at hp
       obtain ⟨r, hr, hp⟩ := hp
       split at hp
       ·rename_i hcond
        cases hp
        obtain ⟨c1, rfl, c3, c4, c5, c6⟩ := hcond
        exact c8L hok he hu hi hpz n1 n2 n3 n4 r1 (a0N hr) c1 c3 c4 c5 c6
       split at hp
       ·rename_i hcond
        cases hp
        obtain ⟨c1, rfl, c3, c4, c5, c6, c7, c8, c9⟩ := hcond
        rw [List.all_eq_true] at c6 c7
        exact c5f hok he hu hi hz hzs hpz n1 n2 n3 n4 r1 (a0N hr) c1 c3 c4 (c1U.1 c5) (fun a ha => a0l.1 (c6 a ha)) (fun a ha => a0l.1 (c7 a ha)) c8 c9
       split at hp
       ·rename_i hcond
        cases hp
        obtain ⟨c1, c2, c3, c4, c5, c6⟩ := hcond
        obtain ⟨d, rfl, hd⟩ : ∃ d, oc = some d ∧ d < len + ys.length := by
         cases oc with
         | none => simp at c4
         | some d => exact ⟨d, rfl, by simpa using c4⟩
        exact c8M hn hok he hu hi hz hzs hpz n1 n2 n3 n4 r1 (a0N hr) c1 c2 c3 hd c5 c6
       split at hp
       ·rename_i hcond
        cases hp
        obtain ⟨c1, rfl, c3, c4, c6, c7, c8, c9⟩ := hcond
        rw [List.all_eq_true] at c6 c7
        obtain ⟨k1, k2⟩ := d8R hok id
        have hrs := d5h (a0N hr) fun a ha => c7 a ha
        have hm := c5f (ty := type) (E := ⟨E.φ, a2a id E.H, E.w⟩) k1 (he.mono (k2.sub fun _ _ => trivial)) hu hi hz hzs hpz n1 n2 n3 (fun k u b h1 h2 => (n4 k u b h1 h2).mono' (k2.sub fun _ _ => trivial)) (r1.mono' (k2.sub fun _ _ => trivial)) hrs c1 c3 c4 (d5f E.H id) (fun a ha => a0l.1 (c6 a ha))
         (fun a ha => by
          obtain ⟨y, hy, ha⟩ := List.mem_flatMap.1 ha
          exact a0l.1 (b8o (c7 y hy) a ha)) c8 c9
        obtain ⟨φ', w', nx, u, q1, q2, q3, q4, q5, q6⟩ := hm
        exact ⟨φ', w', nx, u, q1, q2, q3, q4, q5, (k2.sub fun _ _ => trivial).trans q6⟩
       ·simp at hp
      ·simp at hp
     split at hc
     ·rename_i e' hk
      simp only [Option.bind_eq_bind, Option.bind_eq_some_iff] at hc
      obtain ⟨sx, h1, sy, h2, h3⟩ := hc
      cases h3
      exact main false sx sy h1 h2 (.inl ⟨rfl, e', hk⟩) hp
     ·rename_i hk
      split at hc
      ·rename_i h1s
       simp only [Option.bind_eq_bind, Option.bind_eq_some_iff] at hc
       obtain ⟨sx, h1, sy, h2, h3⟩ := hc
       cases h3
       exact main true sx sy h1 h2 (.inr ⟨rfl, hk, h1s⟩) hp
      ·first | (simp at hc; done) | cases hc
     ·first | (simp at hc; done) | cases hc
    ·first | (simp at hc; done) | cases hc
   ·first | (simp at hc; done) | cases hc
  ·rename_i x y t u hargs htys
   have ha : args = #[x, y] := by rw [← Array.toArray_toList (xs := args), hargs]
   have ht : argTypes = #[t, u] := by rw [← Array.toArray_toList (xs := argTypes), htys]
   subst ha ht
   split at hc
   ·rename_i e hu
    simp only [Option.bind_eq_bind, Option.bind_eq_some_iff] at hc
    obtain ⟨n, hsz, hc⟩ := hc
    split at hc
    case isFalse => cases hc
    rename_i hpz
    simp only [Option.bind_eq_bind, Option.bind_eq_some_iff] at hc
    obtain ⟨sx, h1, sy, h2, h3⟩ := hc
    cases h3
    unfold a3X at hsz
    simp only [Option.map_eq_some_iff] at hsz
    obtain ⟨i, hi, rfl⟩ := hsz
    simp only [ev, Option.bind_eq_some_iff] at hp
    obtain ⟨ys, hys, hp⟩ := hp
    rw [d9q]
    have r1 := a0n he h1
    split at hp
    ·rename_i id off len oc e1
     rw [e1] at r1
     simp only [Option.bind_eq_some_iff] at hp
     obtain ⟨r, hr, hp⟩ := hp
     split at hp
     ·rename_i hcond
      cases hp
      exact e2A hn hok he hu hi hpz (a0n he h2) hys r1 (a0N hr) hcond.1 hcond.2
     ·simp at hp
    ·simp at hp
   ·first | (simp at hc; done) | cases hc
  ·rename_i x y t ts hargs htys
   have ha : args = #[x, y] := by rw [← Array.toArray_toList (xs := args), hargs]
   have ht : argTypes = (t :: ts).toArray := by rw [← Array.toArray_toList (xs := argTypes), htys]
   subst ha ht
   split at hc
   ·rename_i htt
    simp only [Option.bind_eq_bind, Option.bind_eq_some_iff] at hc
    obtain ⟨sx, h1, sy, h2, h3⟩ := hc
    cases h3
    have r1 := a0n he h1
    have r2 := a0n he h2
    simp only [ev, b6A] at hp
    split at hp
    ·rename_i id bs ks vs n kk e1 e2 e3
     cases hp
     rw [e3] at r2
     have hx := a0O r2
     rw [e2r]
     have := d7C (P := P) hn hok he htt r1 e2 kk e1 ts type
     rw [← hx] at this
     exact this
    ·cases hp
   ·cases hc
  ·first | (simp at hc; done) | cases hc
 | makeMap t r =>
  cases r with
  | some r => simp [ceff] at hc
  | none =>
   simp only [ceff] at hc
   split at hc
   ·cases hc
    simp only [ev] at hp
    cases hp
    exact d5W hn hok he t
   ·split at hc
    ·cases hc
     simp only [ev, b6A] at hp
     cases hp
     exact e0M hn hok he t
    ·cases hc
 | mapUpdate t m k v =>
  simp only [ceff] at hc
  split at hc
  ·rename_i ht
   simp only [Option.bind_eq_bind, Option.bind_eq_some_iff] at hc
   obtain ⟨sm, h1, sk, h2, sv, h3, h4⟩ := hc
   cases h4
   have r1 := a0n he h1
   have r2 := a0n he h2
   have r3 := a0n he h3
   simp only [ev] at hp
   split at hp
   ·rename_i id x y e1 e2 e3
    simp only [Option.bind_eq_some_iff] at hp
    obtain ⟨L, hL, hp⟩ := hp
    split at hp
    ·rename_i hx
     cases hp
     rw [e1] at r1; rw [e2] at r2; rw [e3] at r3
     have v2 := a0F r2
     have v3 := a0F r3
     have := d8i (P := P) hn hok he ht r1 hL hx (y := y)
     rw [← v2, ← v3] at this
     exact this
    ·cases hp
   ·cases hp
  ·split at hc
   ·rename_i ht
    simp only [Option.bind_eq_bind, Option.bind_eq_some_iff] at hc
    obtain ⟨sm, h1, sk, h2, sv, h3, h4⟩ := hc
    cases h4
    have r1 := a0n he h1
    have r2 := a0n he h2
    have r3 := a0n he h3
    simp only [ev, b6A] at hp
    split at hp
    ·rename_i id bs ks vs n kk e1 e2 e3
     split at hp
     ·rename_i hcond
      cases hp
      rw [e3] at r2
      have hx := a0O r2
      have := d7j (P := P) hn hok he ht r1 e2 (k := kk) r3 hcond.1 (c4U.1 hcond.2) e1
      rw [← hx] at this
      exact this
     ·cases hp
    ·cases hp
   ·cases hc
 | range t x =>
  simp only [ceff] at hc
  split at hc
  ·rename_i ht
   simp only [Option.bind_eq_bind, Option.bind_eq_some_iff] at hc
   obtain ⟨sm, h1, h4⟩ := hc
   cases h4
   have r1 := a0n he h1
   simp only [ev] at hp
   split at hp
   ·rename_i id e1
    simp only [Option.bind_eq_some_iff] at hp
    obtain ⟨L, hL, hp⟩ := hp
    cases hp
    rw [e1] at r1
    exact d8j (P := P) hn hok he ht r1 hL
   ·cases hp
  ·split at hc
   ·rename_i ht
    simp only [Option.bind_eq_bind, Option.bind_eq_some_iff] at hc
    obtain ⟨sm, h1, h4⟩ := hc
    cases h4
    have r1 := a0n he h1
    simp only [ev, b6A] at hp
    split at hp
    ·rename_i id bs ks vs n e1 e2
     cases hp
     rw [e1] at r1
     rw [e1] at e2
     exact d7k (P := P) hn hok he ht r1 e2
    ·cases hp
   ·cases hc
 | _ => simp [ceff] at hc
end
inductive AOp where
 | p (o : POp)
 | e (o : EOp)
 | call (f : FuncId) (args : List Src)
 | callv (g : Src) (args : List Src)
 | gcall (f : FuncId) (args : List Src)
 | gcallv (g : Src) (args : List Src)
 | nxt (a : Src)
structure AIns where
 dst : Option Nat
 guard : Option (Nat × Bool)
 op : AOp
inductive ACode where
 | skip
 | region (l : List AIns) (draw : Bool)
 | seq (a b : ACode)
 | cond (c : Src) (a b : ACode)
 | block (id : Nat) (c : ACode)
 | loop (c : ACode)
 | exit (id : Nat)
 | ret
 | scope (c : ACode)
 | regionX (p s1 s2 : List AIns) (sd : List (Nat × Nat))
 | label (l : Nat)
 | goto (l : Nat)
 | bad
 | raw (id : Nat) (ops : Array Oper) (draw : Bool)
def b9T (i : Nat) : Code → Option (Array Oper)
 | .region id ops _ => if id = i then some ops else none
 | .seq a b => match b9T i a with
  | some o => some o
  | none => b9T i b
 | .cond _ a b => match b9T i a with
  | some o => some o
  | none => b9T i b
 | .block _ c => b9T i c
 | .loop c => b9T i c
 | .scope c => b9T i c
 | _ => none
def a9e (fn : Func) (i : Nat) : Array Oper := match fn.body with
 | some c => match b9T i c with
  | some o => o
  | none => #[]
 | none => #[]
def a8d (P : Program) (f : FuncId) : Prop := ∃ fn, P.funcs[f]? = some fn ∧ (fn.name == "runtime.NumGoroutine") = false ∧ fn.body.isSome = true
def a0h (P : Program) (f : FuncId) (args : List AV) (H : Heap) (R : AV → Heap → Prop) : Prop :=
 a8d P f ∧ ∀ (φ : Nat → Option Nat) (w : World) (vs : List Value), HOk ⟨φ, H, w⟩ → vs.length = args.length → (∀ (k : Nat) v a, vs[k]? = some v → args[k]? = some a → Rep ⟨φ, H, w⟩ v a) →
  Calls P f vs.toArray w fun e w' => ∃ v r φ' H', e = .returned v ∧ R r H' ∧ HOk ⟨φ', H', w'⟩ ∧ Rep ⟨φ', H', w'⟩ v r ∧ H.length ≤ H'.length ∧ Ext (· < H.length) ⟨φ, H, w⟩ ⟨φ', H', w'⟩
theorem a0h.mono {P : Program} {f : FuncId} {args : List AV} {H : Heap} {R R' : AV → Heap → Prop} (h : a0h P f args H R) (hr : ∀ r H', R r H' → R' r H') : a0h P f args H R' :=
 ⟨h.1, fun φ w vs h1 h2 h3 => (h.2 φ w vs h1 h2 h3).mono fun e w' ⟨v, r, φ', H', a, b, c⟩ => ⟨v, r, φ', H', a, hr _ _ b, c⟩⟩
def c1g (x : Option AV) (k : AV → Prop) : Prop := match x with
 | some v => k v
 | none => False
def b8Y (x : Option (AV × Env × Heap)) (k : AV → Env → Heap → Prop) : Prop := match x with
 | some (v, env, H) => k v env H
 | none => False
def c1m (x : AV) (k : Bool → Prop) : Prop := match x with
 | .bool b => k b
 | _ => False
def a9y (want : Bool) (x : AV) (k : Bool → Prop) : Prop := match x with
 | .bool b => k b
 | .tup [] => k (!want)
 | _ => False
def NotW (x : AV) (want : Bool) : Prop := (∃ c, x = .bool c ∧ c ≠ want) ∨ x = .tup []
def e8p (id mid n : Nat) (seen : List Nat) (H : Heap) (bs : List Nat) (ks : List ByteArray) (vs : List AV) (K : AV → Heap → Prop) : Prop :=
 (∀ b ∈ bs, b < n) ∧ (∀ (i : Nat) b k v, b ∉ seen → bs[i]? = some b → ks[i]? = some k → vs[i]? = some v → K (.tup [.bool true, .str k, v]) (H.set id (some ⟨0, [.io mid n (seen ++ [b])]⟩))) ∧
  ((∀ b ∈ bs, b ∈ seen) → K (.tup [.bool false]) H)
def d1Q (a : AV) (H : Heap) (K : AV → Heap → Prop) : Prop := match a with
 | .mp false id => match a9x H (.mp false id) with
  | some (mid, n, seen) => match a9W H (.mp true mid) with
   | some L => L.length = n ∧ (∀ i p, i ∉ seen → L[i]? = some p → K (.tup [.bool true, .int .i64 p.1, .int .i64 p.2]) (H.set id (some ⟨0, [.io mid n (seen ++ [i])]⟩))) ∧
     ((∀ i, i < n → i ∈ seen) → K (.tup [.bool false]) H)
   | none => match a2P H (.mp true mid) with
    | some (bs, ks, vs, m) => m = n ∧ e8p id mid n seen H bs ks vs K
    | none => False
  | none => False
 | _ => False
def put (d : Option Nat) (v : AV) (env : Env) : Env := match d with
 | some d => (d, v) :: env
 | none => env
def a3a (P : Program) (n0 : Nat) (o : AOp) (d : Option Nat) (K : Env → Heap → Prop) (env : Env) (H : Heap) : Prop :=
 match o with
 | .p o => c1g (pv o env H) fun v => K (put d v env) H
 | .e o => b8Y (ev n0 o env H) fun v env' H' => K (put d v env') H'
 | .call f args | .gcall f args => a0h P f (args.map (·.ev env)) H fun r H' => K (put d r env) H'
 | .callv g args | .gcallv g args => match g.ev env with
  | .fn f caps => a0h P f (args.map (·.ev env) ++ caps) H fun r H' => K (put d r env) H'
  | .bfn f bs => a0h P f (bs ++ args.map (·.ev env)) H fun r H' => K (put d r env) H'
  | _ => False
 | .nxt a => d1Q (a.ev env) H fun r H' => K (put d r env) H'
def aops (P : Program) (n0 : Nat) : List AIns → (Env → Heap → Prop) → Env → Heap → Prop
 | [], K, env, H => K env H
 | i :: l, K, env, H =>
  match i.guard with
  | none => a3a P n0 i.op i.dst (aops P n0 l K) env H
  | some (t, want) => a9y want (look env t) fun c => if c = want then a3a P n0 i.op i.dst (aops P n0 l K) env H else aops P n0 l K (put i.dst (.tup []) env) H
def Src.tmps : Src → List Nat
 | .t n => [n]
 | .c _ => []
def d5u : Option Src → List Nat
 | some s => s.tmps
 | none => []
def POp.reads : POp → List Nat
 | .mv a | .len a | .lens a | .un _ a | .conv _ a | .ext a _ | .fldp a _ | .load _ a | .b2s a | .ment a | .isn _ _ a => a.tmps
 | .pick c a b => c.tmps ++ (a.tmps ++ b.tmps)
 | .bin _ a b | .beq _ a b | .idxp _ a b | .idxs a b | .mnx _ a b | .mlook a b | .smap _ a b => a.tmps ++ b.tmps
 | .slc _ x lo hi mx => x.tmps ++ (d5u lo ++ (d5u hi ++ d5u mx))
 | .slcs x lo hi => x.tmps ++ (d5u lo ++ d5u hi)
 | .bld _ ps => ps.flatMap (fun p => p.2.2.tmps)
 | .mkfn _ cs | .mkbf _ cs => cs.flatMap Src.tmps
def EOp.reads : EOp → List Nat
 | .store _ a v => a.tmps ++ v.tmps
 | .box _ v => v.tmps
 | .bsl _ ps | .bslm _ ps => ps.flatMap Src.tmps
 | .mksl _ _ _ l c => l.tmps ++ c.tmps
 | .app _ _ _ a b => a.tmps ++ b.tmps
 | .cpy _ a b => a.tmps ++ b.tmps
 | .mkmap => []
 | .mset m k v | .smut _ m k v => m.tmps ++ (k.tmps ++ v.tmps)
 | .mrng m => m.tmps
def AOp.reads : AOp → List Nat
 | .p o => o.reads
 | .e o => o.reads
 | .call _ aXs | .gcall _ aXs => aXs.flatMap Src.tmps
 | .callv g aXs | .gcallv g aXs => g.tmps ++ aXs.flatMap Src.tmps
 | .nxt a => a.tmps
def AIns.reads (i : AIns) : List Nat := (match i.guard with | some (t, _) => [t] | none => []) ++ i.op.reads
def AOp.quiet : AOp → Bool
 | .p _ | .e (.bsl ..) | .call .. | .callv .. => true
 | _ => false
def POp.hfree : POp → Bool
 | .mv _ | .pick .. | .lens _ | .bin .. | .beq .. | .un .. | .conv .. | .ext .. | .idxs .. | .slcs .. | .bld .. | .mkfn .. | .mkbf .. | .mnx .. => true
 | _ => false
def AOp.hfree : AOp → Bool
 | .p o => o.hfree
 | _ => false
def AOp.isStore : AOp → Bool
 | .e (.store ..) => true
 | _ => false
def AOp.isBox : AOp → Bool
 | .e (.box ..) | .e (.bslm ..) | .gcall .. | .gcallv .. => true
 | _ => false
def AOp.isApp : AOp → Bool
 | .e (.app ..) => true
 | _ => false
def AOp.isMv : AOp → Bool
 | .p (.mv (.t _)) => true
 | _ => false
def b0K (x y : AIns) : Bool :=
 (match x.dst with | some d => !y.reads.contains d && y.dst != some d | none => true) && (match y.dst with | some d => !x.reads.contains d | none => true)
def c5g (x y : AIns) : Bool := (x.op.quiet && y.op.quiet) || (x.op.isStore && y.op.hfree) || (x.op.hfree && y.op.isStore) || (x.op.quiet && y.op.isBox) || (x.op.isMv && y.op.isApp)
def tcOf (T : List Nat) (o : Oper) : Nat :=
 o.after.toList.foldl (fun acc e => if Region.binds .any e then (acc ||| ((1 <<< e.on) ||| T.getD e.on 0)) else acc) 0
def b0V : List Oper → List Nat → List Nat
 | [], T => T
 | o :: r, T => b0V r (T ++ [tcOf T o])
def c8C (m : Nat) (y : AIns) : Nat → List AIns → Bool
 | _, [] => true
 | a, x :: r => (m.testBit a || (b0K x y && c5g x y)) && c8C m y (a + 1) r
def c4S (T : List Nat) : Nat → List AIns → List AIns → Bool
 | _, _, [] => true
 | i, pre, y :: r => c8C (T.getD i 0) y 0 pre && c4S T (i + 1) (pre ++ [y]) r
def b3T : Nat → List Oper → Bool
 | _, [] => true
 | i, o :: r => o.after.toList.all (fun e => !Region.binds .any e || decide (e.on < i)) && b3T (i + 1) r
def dchk (P : Program) (ops : Array Oper) (l : List AIns) : Bool :=
 P.follows .mixedOrders && (b3T 0 ops.toList && c4S (b0V ops.toList []) 0 [] l)
def Src.okc : Src → Bool
 | .t _ | .c (.int ..) | .c .nil | .c (.bool _) => true
 | _ => false
def POp.clq : POp → Bool
 | .mv a | .len a | .load _ a => a.okc
 | .bin _ a b | .idxp _ a b => a.okc && b.okc
 | .slc _ x lo hi mx => x.okc && (lo.all Src.okc && (hi.all Src.okc && mx.all Src.okc))
 | _ => false
def clI (sd : List (Nat × Nat)) (x : AIns) : Bool := (match x.op with | .p o => o.clq | _ => false) && x.reads.all fun t => sd.contains (t, t)
def ldst (x y : AIns) : Option (Nat × Nat) := match x.op, y.op with
 | .p (.load _ (.t a)), .e (.store _ (.t b) _) => some (a, b)
 | _, _ => none
def okX (m : Nat) (sd : List (Nat × Nat)) (a : Nat) (x y : AIns) : Bool := m.testBit a || (b0K x y && (c5g x y || ((match ldst x y with | some p => p.1 != p.2 && sd.contains p | none => false) || ((x.op.isApp && clI sd y) || (clI sd x && y.op.isApp)))))
def c7z (m k i : Nat) (sd : List (Nat × Nat)) (y : AIns) : Nat → List AIns → Bool
 | _, [] => true
 | a, x :: r => (okX m sd a x y || (a == k && i == k + 1)) && c7z m k i sd y (a + 1) r
def c2w (T : List Nat) (k : Nat) (sd : List (Nat × Nat)) : Nat → List AIns → List AIns → Bool
 | _, _, [] => true
 | i, pre, y :: r => c7z (T.getD i 0) k i sd y 0 pre && c2w T k sd (i + 1) (pre ++ [y]) r
def e6O (T : List Nat) (k n : Nat) : Bool := (List.range n).all fun j => decide (j < k + 2) || (T.getD j 0).testBit k || (T.getD j 0).testBit (k + 1)
def xchk (P : Program) (ops : Array Oper) (l : List AIns) (k : Nat) (sd : List (Nat × Nat)) : Bool :=
 P.follows .mixedOrders && (b3T 0 ops.toList && (c2w (b0V ops.toList []) k sd 0 [] l && (e6O (b0V ops.toList []) k ops.toList.length &&
  sd.all fun p => if p.1 = p.2 then l.all fun x => x.dst != some p.1 || clI sd x else (l.all fun x => !x.op.isApp) && l.all fun x => x.dst != some p.1 && x.dst != some p.2)))
def e0c (m i : Nat) (y : AIns) : Nat → List AIns → List (Nat × Nat × AIns × AIns)
 | _, [] => []
 | a, x :: r => if m.testBit a || (b0K x y && c5g x y) then e0c m i y (a + 1) r else (a, i, x, y) :: e0c m i y (a + 1) r
def e0d (T : List Nat) : Nat → List AIns → List AIns → List (Nat × Nat × AIns × AIns)
 | _, _, [] => []
 | i, pre, y :: r => e0c (T.getD i 0) i y 0 pre ++ e0d T (i + 1) (pre ++ [y]) r
def e3k (n : Nat) : List (Nat × Nat × AIns × AIns) → Nat
 | [] => n
 | (a, i, x, y) :: r => if i == a + 1 && (x.op.isBox && y.op.isBox) then a else e3k n r
def sdOf : List (Nat × Nat × AIns × AIns) → List (Nat × Nat)
 | [] => []
 | (_, _, x, y) :: r => match ldst x y with
  | some p => p :: sdOf r
  | none => sdOf r
def clS0 : List (Nat × Nat × AIns × AIns) → List Nat
 | [] => []
 | (_, _, x, y) :: r => (if x.op.isApp then (match y.op with | .p o => if o.clq then y.reads else [] | _ => []) else if y.op.isApp then (match x.op with | .p o => if o.clq then x.reads else [] | _ => []) else []) ++ clS0 r
def clS : List AIns → List Nat → List Nat
 | [], S => S
 | x :: r, S => match x.dst with
  | some d => if S.contains d then clS r (S ++ x.reads) else clS r S
  | none => clS r S
def d4Q : List AIns → List AIns
 | x :: y :: r => y :: x :: r
 | l => l
def e7O (P : Program) (ops : Array Oper) (l : List AIns) (k : Nat) (sd : List (Nat × Nat)) : Option ACode :=
 if xchk P ops l k sd then some (.regionX (l.take k) (l.drop k) (d4Q (l.drop k)) sd) else none
def e2z (P : Program) (ops : Array Oper) (l : List AIns) (b : List (Nat × Nat × AIns × AIns)) : Option ACode := e7O P ops l (e3k l.length b) (sdOf b ++ ((clS l.reverse (clS0 b)).eraseDups.map fun t => (t, t)))
def caop (P : Program) (mutable : Bool) (o : Op) : Option AOp :=
 match a9Y P o with
 | some p => some (.p p)
 | none => match ceff P mutable o with
  | some e => some (.e e)
  | none => match o with
   | .call c => match c.callee with
    | .value (.func f) => (srcs c.args.toList).map fun aXs => if mutable then .gcall f aXs else .call f aXs
    | .value (.tmp t) => (srcs c.args.toList).map fun aXs => if mutable then .gcallv (.t t) aXs else .callv (.t t) aXs
    | _ => none
   | .next x str => if str then none else (a0B x).map .nxt
   | _ => none
def d9N (ops : Array Oper) (g : Option (Nat × Bool)) : Option (Option (Nat × Bool)) :=
 match g with
 | none => some none
 | some (j, want) => match (ops[j]?).bind (·.dst) with
  | some t => some (some (t, want))
  | none => none
def d2K (nt : Nat) (d : Option Tmp) : Bool := match d with
 | some d => decide (d < nt)
 | none => true
def cins (P : Program) (mutable : Bool) (nt : Nat) (ops : Array Oper) (o : Oper) : Option AIns :=
 if d2K nt o.dst then
  match d9N ops o.guard, caop P mutable o.op with
  | some g, some a => some ⟨o.dst, g, a⟩
  | _, _ => none
 else none
def a5S (P : Program) (mu : Nat → Nat → Bool) (nt rid : Nat) (ops : Array Oper) : Nat → List Oper → Option (List AIns)
 | _, [] => some []
 | k, o :: r => match cins P (mu rid k) nt ops o, a5S P mu nt rid ops (k + 1) r with
  | some i, some l => some (i :: l)
  | _, _ => none
def a0Y (P : Program) (mu : Nat → Nat → Bool) (nt : Nat) : Code → Option ACode
 | .skip => some .skip
 | .region id ops draw => if mu id 1000000 then some (.raw id ops draw) else match a5S P mu nt id ops 0 ops.toList with
  | some l => if draw then (if dchk P ops l then some (.region l true) else some ((e2z P ops l (e0d (b0V ops.toList []) 0 [] l)).getD .bad)) else some (.region l false)
  | none => some (.raw id ops draw)
 | .seq a b => match a0Y P mu nt a, a0Y P mu nt b with
  | some a, some b => some (.seq a b)
  | _, _ => none
 | .cond c a b => match a0B c, a0Y P mu nt a, a0Y P mu nt b with
  | some c, some a, some b => some (.cond c a b)
  | _, _, _ => none
 | .block id c => (a0Y P mu nt c).map (.block id)
 | .loop c => (a0Y P mu nt c).map .loop
 | .exit id => some (.exit id)
 | .ret => some .ret
 | .label l => some (.label l)
 | .goto l => some (.goto l)
 | .scope c => (a0Y P mu nt c).map .scope
 | _ => none
section
variable {P : Program} {nt : Nat}
theorem c4y {E : Emb} (hok : HOk E) {v : Value} {id : Nat} (hr : Rep E v (.mp false id)) {mid n : Nat} {seen : List Nat} (h : a9x E.H (.mp false id) = some (mid, n, seen)) :
  ∃ b m, v = .pointer (some ⟨b, 0, none⟩) ∧ E.w.heap[b]? = some (.mapIter (some m) n seen.toArray n) ∧ E.H[id]? = some (some ⟨0, [.io mid n seen]⟩) ∧ E.φ id = some b ∧ mid < id ∧ (∀ blk, E.H[mid]? = some (some blk) → blk.wd = 0 ∧ E.φ mid = some m) ∧
   ∀ L, a9W E.H (.mp true mid) = some L → E.w.heap[m]? = some (.map (a8S L) L.length) := by
 obtain ⟨b0, m0, hv0, hb0, hL0⟩ := c7h hok hr h
 unfold a9x at h
 simp only at h
 split at h
 ·rename_i m1 n1 seen1 hrw
  cases h
  have hl := a0N hrw
  generalize hvv : v = vv at hr
  cases hr with
  | mp blk _ _ b hlive hb hw =>
   rw [hl] at hlive; cases hlive
   rw [hvv] at hv0
   simp only [e7q, Value.pointer.injEq, Option.some.injEq, Addr.mk.injEq] at hv0
   obtain ⟨rfl, _⟩ := hv0
   rcases hok.obj id _ b hl rfl hb with ⟨L', q1, q2⟩ | ⟨_, _, _, m, q1, q2, q3, q4⟩ | ⟨_, _, _, _, q1, _⟩
   rotate_left 2
   ·simp at q1
   ·simp at q1
   ·simp at q1; obtain ⟨rfl, rfl, rfl⟩ := q1
    rw [hb0] at q2
    simp only [Option.some.injEq, Obj.mapIter.injEq] at q2
    obtain ⟨rfl, _⟩ := q2
    exact ⟨b, m0, rfl, hb0, hl, hb, q3, q4, hL0⟩
  | dead v a id' hr hd h1 => simp [AV.ref] at hr; subst hr; rw [hl] at hd; cases hd
 ·cases h
theorem c1P : ∀ {L : List (Int × Int)} {b : Nat} {e : MapEntry}, e ∈ mapE b L → ∃ i p, L[i]? = some p ∧ e = { key := .int .i64 p.1, val := .int .i64 p.2, born := b + i }
 | [], b, e, h => by simp [mapE] at h
 | p :: L, b, e, h => by
  simp only [mapE, List.mem_cons] at h
  rcases h with rfl | h
  ·exact ⟨0, p, rfl, rfl⟩
  ·obtain ⟨i, q, h1, h2⟩ := c1P h
   exact ⟨i + 1, q, h1, by rw [h2]; congr 1; omega⟩
theorem d3P : ∀ {L : List (Int × Int)} {b i : Nat} {p : Int × Int}, L[i]? = some p → { key := .int .i64 p.1, val := .int .i64 p.2, born := b + i } ∈ mapE b L
 | [], b, i, p, h => by simp at h
 | q :: L, b, 0, p, h => by simp at h; subst h; simp [mapE]
 | q :: L, b, i + 1, p, h => by
  have := d3P (b := b + 1) (show L[i]? = some p by simpa using h)
  simp only [mapE, List.mem_cons]
  right
  rw [show b + (i + 1) = b + 1 + i by omega]; exact this
theorem e1F {w : World} {b m n : Nat} {seen : List Nat} {L : List (Int × Int)} (hi : w.heap[b]? = some (.mapIter (some m) n seen.toArray n)) (hm : w.heap[m]? = some (.map (a8S L) L.length)) (hn : L.length = n) (ty : TypeId) :
  ((∀ i, i < n → i ∈ seen) ∧ (Instr.next (.pointer (some ⟨b, 0, none⟩)) false ty).run P w = .ok (.tuple #[.bool false]) w) ∨
  ∃ i p d, i ∉ seen ∧ L[i]? = some p ∧ (Instr.next (.pointer (some ⟨b, 0, none⟩)) false ty).run P w = .ok (.tuple #[.bool true, .int .i64 p.1, .int .i64 p.2]) { w with heap := w.heap.setIfInBounds b (.mapIter (some m) n (seen ++ [i]).toArray n), drawn := d } := by
 subst hn
 have hall : (!seen.toArray.isEmpty && !(a8S L).isEmpty && (a8S L).all (fun e => decide (e.born ≥ L.length))) = false := by
  cases L with
  | nil => simp [a8S, mapE]
  | cons p L => simp [a8S, mapE]
 generalize hF : (mapE 0 L).filter (fun e => !seen.toArray.contains e.born) = F
 have hin : ∀ e ∈ F, e ∈ mapE 0 L ∧ (!seen.toArray.contains e.born) = true := fun e he => by
  rw [← hF] at he; exact List.mem_filter.1 he
 have hleft : (a8S L).filter (fun e => !seen.toArray.contains e.born) = F.toArray := by rw [a8S, List.filter_toArray, hF]
 have hold : F.toArray.filter (fun e => decide (e.born < L.length)) = F.toArray := by
  rw [List.filter_toArray, List.filter_eq_self.2]
  intro e he
  obtain ⟨i, p, h1, h2⟩ := c1P (hin e he).1
  rw [h2]; simpa using a0i h1
 have hnew : F.toArray.filter (fun e => decide (e.born ≥ L.length)) = #[] := by
  rw [List.filter_toArray, List.filter_eq_nil_iff.2]
  intro e he
  obtain ⟨i, p, h1, h2⟩ := c1P (hin e he).1
  rw [h2]; have := a0i h1; simpa using this
 cases hF0 : F with
 | nil =>
  left
  subst hF0
  refine ⟨fun i hi => ?_, ?_⟩
  ·have := d3P (b := 0) (List.getElem?_eq_getElem hi)
   have hf := List.filter_eq_nil_iff.1 hF _ this
   simpa using hf
  ·unfold Instr.next
   simp only [Sem.run_bind, a3R hi, Result.andThen_ok, a0P hm, hall, Bool.false_eq_true, if_false, hleft, hold, hnew]
   simp [Sem.run_bind, run_choose_drew, Question.forced]
 | cons e0 F' =>
  right
  have key : ∀ t, t < F.length → ∃ i p, i ∉ seen ∧ L[i]? = some p ∧ F[t]? = some { key := .int .i64 p.1, val := .int .i64 p.2, born := i } := by
   intro t ht
   have hmem : F[t] ∈ F := List.getElem_mem ht
   obtain ⟨i, p, h1, h2⟩ := c1P (hin _ hmem).1
   have h3 := (hin _ hmem).2
   refine ⟨i, p, ?_, h1, ?_⟩
   ·rw [h2] at h3; simpa using h3
   ·rw [List.getElem?_eq_getElem ht, h2]; simp
  have hlen : 0 < F.length := by rw [hF0]; simp
  have hne : F.toArray.isEmpty = false := by rw [hF0]; rfl
  have run : ∀ t (d : Nat), t < F.length → (choose (.mapNext F.length)).run P w = .ok t { w with drawn := d } → ∃ i p d, i ∉ seen ∧ L[i]? = some p ∧ (Instr.next (.pointer (some ⟨b, 0, none⟩)) false ty).run P w = .ok (.tuple #[.bool true, .int .i64 p.1, .int .i64 p.2]) { w with heap := w.heap.setIfInBounds b (.mapIter (some m) L.length (seen ++ [i]).toArray L.length), drawn := d } := by
   intro t d ht hch
   obtain ⟨i, p, h1, h2, h3⟩ := key t ht
   refine ⟨i, p, d, h1, h2, ?_⟩
   unfold Instr.next
   simp only [Sem.run_bind, a3R hi, Result.andThen_ok, a0P hm, hall, Bool.false_eq_true, if_false, hleft, hold, hnew, hne]
   have hsz : (#[] ++ (F.toArray ++ #[]).map some).size = F.length := by simp
   rw [hsz, hch]
   simp only [Result.andThen_ok]
   have hg : (#[] ++ (F.toArray ++ #[]).map some)[t]? = some (some { key := .int .i64 p.1, val := .int .i64 p.2, born := i }) := by simp [h3]
   rw [hg]
   simp only [Sem.run_bind]
   rw [b9S (w := { w with drawn := d }) _ (show ({ w with drawn := d } : World).heap[b]? = _ from hi)]
   simp
  by_cases hf : (Question.mapNext F.length).forced = true
  ·exact run 0 w.drawn hlen (by rw [run_choose_drew, if_pos hf])
  ·refine run ((Question.mapNext F.length).cut (w.tape w.drawn (.mapNext F.length))) (w.drawn + 1) (Nat.mod_lt _ hlen) (by rw [run_choose_drew, if_neg hf]; rfl)
theorem c9Y : ∀ {bs : List Nat} {ks : List ByteArray} {us : List Value} {e : MapEntry}, ks.length = bs.length → us.length = bs.length → e ∈ ((bs.zip (ks.zip us)).map fun p => ({ key := .string p.2.1, val := p.2.2, born := p.1 } : MapEntry)) →
  ∃ (i : Nat) (b : Nat) (k : ByteArray) (u : Value), bs[i]? = some b ∧ ks[i]? = some k ∧ us[i]? = some u ∧ e = { key := .string k, val := u, born := b }
 | [], [], [], e, _, _, h => by simp at h
 | b :: bs, x :: ks, v :: us, e, h1, h2, h => by
  simp only [List.zip_cons_cons, List.map_cons, List.mem_cons] at h
  rcases h with rfl | h
  ·exact ⟨0, b, x, v, rfl, rfl, rfl, rfl⟩
  ·obtain ⟨i, b', k', u', q1, q2, q3, q4⟩ := c9Y (by simpa using h1) (by simpa using h2) h
   exact ⟨i + 1, b', k', u', q1, q2, q3, q4⟩
 | [], _ :: _, _, _, h, _, _ => by simp at h
 | [], [], _ :: _, _, _, h, _ => by simp at h
 | _ :: _, [], _, _, h, _, _ => by simp at h
 | _ :: _, _ :: _, [], _, _, h, _ => by simp at h
theorem d7m {w : World} {b m n : Nat} {seen : List Nat} {bs : List Nat} {ks : List ByteArray} {us : List Value} (hi : w.heap[b]? = some (.mapIter (some m) n seen.toArray n)) (hm : w.heap[m]? = some (.map (a5O bs ks us) n)) (l1 : ks.length = bs.length) (l2 : us.length = bs.length) (hlt : ∀ b ∈ bs, b < n) (ty : TypeId) :
  ((∀ b ∈ bs, b ∈ seen) ∧ (Instr.next (.pointer (some ⟨b, 0, none⟩)) false ty).run P w = .ok (.tuple #[.bool false]) w) ∨
  ∃ (i c : Nat) (k : ByteArray) (u : Value) (d : Nat), c ∉ seen ∧ bs[i]? = some c ∧ ks[i]? = some k ∧ us[i]? = some u ∧ (Instr.next (.pointer (some ⟨b, 0, none⟩)) false ty).run P w = .ok (.tuple #[.bool true, .string k, u]) { w with heap := w.heap.setIfInBounds b (.mapIter (some m) n (seen ++ [c]).toArray n), drawn := d } := by
 generalize hL : ((bs.zip (ks.zip us)).map fun p => ({ key := .string p.2.1, val := p.2.2, born := p.1 } : MapEntry)) = L
 have hSs : a5O bs ks us = L.toArray := by rw [← hL]; rfl
 have hmem : ∀ e ∈ L, ∃ (i : Nat) (b : Nat) (k : ByteArray) (u : Value), bs[i]? = some b ∧ ks[i]? = some k ∧ us[i]? = some u ∧ e = { key := .string k, val := u, born := b } := fun e he => c9Y l1 l2 (hL ▸ he)
 have hborn : ∀ e ∈ L, e.born < n := fun e he => by
  obtain ⟨i, c, k, u, q1, q2, q3, rfl⟩ := hmem e he
  exact hlt c (List.mem_of_getElem? q1)
 rw [hSs] at hm
 have hall : (!seen.toArray.isEmpty && !L.toArray.isEmpty && L.toArray.all (fun e => decide (e.born ≥ n))) = false := by
  cases L with
  | nil => simp
  | cons p L => have := hborn p (by simp); simp; intro _ h; omega
 generalize hF : L.filter (fun e => !seen.toArray.contains e.born) = F
 have hin : ∀ e ∈ F, e ∈ L ∧ (!seen.toArray.contains e.born) = true := fun e he => by
  rw [← hF] at he; exact List.mem_filter.1 he
 have hleft : L.toArray.filter (fun e => !seen.toArray.contains e.born) = F.toArray := by rw [List.filter_toArray, hF]
 have hold : F.toArray.filter (fun e => decide (e.born < n)) = F.toArray := by
  rw [List.filter_toArray, List.filter_eq_self.2]
  intro e he
  simpa using hborn e (hin e he).1
 have hnew : F.toArray.filter (fun e => decide (e.born ≥ n)) = #[] := by
  rw [List.filter_toArray, List.filter_eq_nil_iff.2]
  intro e he
  have := hborn e (hin e he).1; simpa using this
 cases hF0 : F with
 | nil =>
  left
  subst hF0
  refine ⟨fun c hc => ?_, ?_⟩
  ·obtain ⟨i, hi', rfl⟩ := List.getElem_of_mem hc
   have hg := c9Z (bs := bs) (ks := ks) (us := us) (List.getElem?_eq_getElem hi') (List.getElem?_eq_getElem (show i < ks.length by omega)) (List.getElem?_eq_getElem (show i < us.length by omega))
   rw [hSs, List.getElem?_toArray] at hg
   have hf := List.filter_eq_nil_iff.1 hF _ (List.mem_of_getElem? hg)
   simpa using hf
  ·unfold Instr.next
   simp only [Sem.run_bind, a3R hi, Result.andThen_ok, a0P hm, hall, Bool.false_eq_true, if_false, hleft, hold, hnew]
   simp [Sem.run_bind, run_choose_drew, Question.forced]
 | cons e0 F' =>
  right
  have key : ∀ t, t < F.length → ∃ (i c : Nat) (k : ByteArray) (u : Value), c ∉ seen ∧ bs[i]? = some c ∧ ks[i]? = some k ∧ us[i]? = some u ∧ F[t]? = some { key := .string k, val := u, born := c } := by
   intro t ht
   have hmm : F[t] ∈ F := List.getElem_mem ht
   obtain ⟨i, c, k, u, h1, h2, h3, h4⟩ := hmem _ (hin _ hmm).1
   have h5 := (hin _ hmm).2
   refine ⟨i, c, k, u, ?_, h1, h2, h3, ?_⟩
   ·rw [h4] at h5; simpa using h5
   ·rw [List.getElem?_eq_getElem ht, h4]
  have hlen : 0 < F.length := by rw [hF0]; simp
  have hne : F.toArray.isEmpty = false := by rw [hF0]; rfl
  have run : ∀ t (d : Nat), t < F.length → (choose (.mapNext F.length)).run P w = .ok t { w with drawn := d } → ∃ (i c : Nat) (k : ByteArray) (u : Value) (d : Nat), c ∉ seen ∧ bs[i]? = some c ∧ ks[i]? = some k ∧ us[i]? = some u ∧ (Instr.next (.pointer (some ⟨b, 0, none⟩)) false ty).run P w = .ok (.tuple #[.bool true, .string k, u]) { w with heap := w.heap.setIfInBounds b (.mapIter (some m) n (seen ++ [c]).toArray n), drawn := d } := by
   intro t d ht hch
   obtain ⟨i, c, k, u, h1, h2, h3, h4, h5⟩ := key t ht
   refine ⟨i, c, k, u, d, h1, h2, h3, h4, ?_⟩
   unfold Instr.next
   simp only [Sem.run_bind, a3R hi, Result.andThen_ok, a0P hm, hall, Bool.false_eq_true, if_false, hleft, hold, hnew, hne]
   have hsz : (#[] ++ (F.toArray ++ #[]).map some).size = F.length := by simp
   rw [hsz, hch]
   simp only [Result.andThen_ok]
   have hg : (#[] ++ (F.toArray ++ #[]).map some)[t]? = some (some { key := .string k, val := u, born := c }) := by simp [h5]
   rw [hg]
   simp only [Sem.run_bind]
   rw [b9S (w := { w with drawn := d }) _ (show ({ w with drawn := d } : World).heap[b]? = _ from hi)]
   simp
  by_cases hf : (Question.mapNext F.length).forced = true
  ·exact run 0 w.drawn hlen (by rw [run_choose_drew, if_pos hf])
  ·refine run ((Question.mapNext F.length).cut (w.tape w.drawn (.mapNext F.length))) (w.drawn + 1) (Nat.mod_lt _ hlen) (by rw [run_choose_drew, if_neg hf]; rfl)
theorem d7n {H : Heap} {mid : Nat} {bs : List Nat} {ks : List ByteArray} {vs : List AV} {n : Nat} (h : a2P H (.mp true mid) = some (bs, ks, vs, n)) : H[mid]? = some (some ⟨0, [.ms bs ks vs n]⟩) := by
 unfold a2P at h
 simp only at h
 split at h
 ·rename_i hrw; cases h; exact a0N hrw
 ·cases h
theorem d5v {E : Emb} {env : Env} {tmps : Array Value} {n0 : Nat} (hn : n0 ≤ E.H.length) (hok : HOk E) (he : a0r E env tmps) {v : Value} {a : AV} (hr : Rep E v a) (ty : TypeId) {K : AV → Heap → Prop} (h : d1Q a E.H K) :
  ∃ φ' w' u r H', (Instr.next v false ty).run P E.w = .ok u w' ∧ K r H' ∧ HOk ⟨φ', H', w'⟩ ∧ Rep ⟨φ', H', w'⟩ u r ∧ a0r ⟨φ', H', w'⟩ env tmps ∧ E.H.length ≤ H'.length ∧ Ext (· < n0) E ⟨φ', H', w'⟩ := by
 unfold d1Q at h
 split at h
 ·rename_i id
  split at h
  ·rename_i mid n seen e1
   split at h
   ·rename_i L e2
    obtain ⟨hL, hk, hend⟩ := h
    obtain ⟨b, m, rfl, hb, hl, hφ, hmid, hcl, hm⟩ := c4y hok hr e1
    rcases e1F (P := P) hb (hm L e2) hL ty with ⟨q1, q2⟩ | ⟨i, p, d, q1, q2, q3⟩
    ·exact ⟨E.φ, E.w, _, _, E.H, q2, hend q1, hok, .tup [_] [_] rfl (fun k v a hk ha => by
      rcases k with _ | k
      ·simp at hk ha; subst hk; subst ha; exact .bool _
      ·simp at hk), he, Nat.le_refl _, Ext.refl _ _⟩
    ·have hlt := hok.lt hl hφ
     obtain ⟨g1, g2⟩ := hok.owrite (w := { E.w with heap := E.w.heap.setIfInBounds b (.mapIter (some m) n (seen ++ [i]).toArray n), drawn := d }) rfl rfl rfl (by simp) hl rfl hφ
      (fun b' hb' hne => by simp [Array.getElem?_setIfInBounds, Ne.symm hne]) [.io mid n (seen ++ [i])]
      (.inr <| .inl ⟨mid, n, seen ++ [i], m, rfl, by simp [Array.getElem?_setIfInBounds, hlt], hmid, fun blk hb' => by
       have hne : id ≠ mid := by omega
       simp only [a6O _ _ _ (a0k hl), hne, if_false] at hb'
       exact hcl blk hb'⟩)
     refine ⟨E.φ, _, _, _, _, q3, hk i p q1 q2, g1, .tup [_, _, _] [_, _, _] rfl (fun k v a hk ha => by
      rcases k with _ | _ | _ | k
      ·simp at hk ha; subst hk; subst ha; exact .bool _
      ·simp at hk ha; subst hk; subst ha; exact .int _ _
      ·simp at hk ha; subst hk; subst ha; exact .int _ _
      ·simp at hk), he.mono g2, by simp, g2.sub (fun i hi => Nat.lt_of_lt_of_le hi hn)⟩
   ·split at h
    ·rename_i bs ks vs m' e2
     obtain ⟨rfl, hlt', hk, hend⟩ := h
     obtain ⟨b, m, rfl, hb, hl, hφ, hmid, hcl, -⟩ := c4y hok hr e1
     have hlm := d7n e2
     obtain ⟨s1, s2⟩ := hcl _ hlm
     rcases hok.obj mid _ m hlm rfl s2 with ⟨L', s3, s4⟩ | ⟨_, _, _, _, s3, _⟩ | ⟨_, _, _, _, s3, us, hm, l1, l2, l3, c1, c2, c3⟩
     ·simp at s3
     ·simp at s3
     simp at s3; obtain ⟨rfl, rfl, rfl, rfl⟩ := s3
     rcases d7m (P := P) hb hm l1 l3 hlt' ty with ⟨q1, q2⟩ | ⟨i, c, k, u, d, q1, q4, q5, q6, q3⟩
     ·exact ⟨E.φ, E.w, _, _, E.H, q2, hend q1, hok, .tup [_] [_] rfl (fun k v a hk ha => by
       rcases k with _ | k
       ·simp at hk ha; subst hk; subst ha; exact .bool _
       ·simp at hk), he, Nat.le_refl _, Ext.refl _ _⟩
     ·have hlt := hok.lt hl hφ
      obtain ⟨g1, g2⟩ := hok.owrite (w := { E.w with heap := E.w.heap.setIfInBounds b (.mapIter (some m) m' (seen ++ [c]).toArray m'), drawn := d }) rfl rfl rfl (by simp) hl rfl hφ
       (fun b' hb' hne => by simp [Array.getElem?_setIfInBounds, Ne.symm hne]) [.io mid m' (seen ++ [c])]
       (.inr <| .inl ⟨mid, m', seen ++ [c], m, rfl, by simp [Array.getElem?_setIfInBounds, hlt], hmid, fun blk hb' => by
        have hne : id ≠ mid := by omega
        simp only [a6O _ _ _ (a0k hl), hne, if_false] at hb'
        exact hcl blk hb'⟩)
      obtain ⟨v, hv⟩ : ∃ v, vs[i]? = some v := ⟨_, List.getElem?_eq_getElem (show i < vs.length by have := a0i q4; omega)⟩
      have hru := (c3 i u v q6 hv).mono g2 (c1 v (List.mem_of_getElem? hv)).ref
      refine ⟨E.φ, _, _, _, _, q3, hk i c k v q1 q4 q5 hv, g1, .tup [_, _, _] [_, _, _] rfl (fun k v a hk ha => by
       rcases k with _ | _ | _ | k
       ·simp at hk ha; subst hk; subst ha; exact .bool _
       ·simp at hk ha; subst hk; subst ha; exact .str _
       ·simp at hk ha; subst hk; subst ha; exact hru
       ·simp at hk), he.mono g2, by simp, g2.sub (fun i hi => Nat.lt_of_lt_of_le hi hn)⟩
    ·exact h.elim
  ·exact h.elim
 ·exact h.elim
theorem a2i {E : Emb} {env : Env} {tmps : Array Value} (he : a0r E env tmps) {d : Option Nat} (hd : d2K tmps.size d = true) {v : Value} {a : AV} (hr : Rep E v a) :
  a0r E (put d a env) ((Act.mk tmps []).put d v).tmps := by
 cases d with
 | none => exact he
 | some d =>
  simp only [d2K, decide_eq_true_eq] at hd
  intro t
  simp only [put, look, Act.put]
  by_cases ht : d = t
  ·subst ht
   simp only [if_true]
   rw [Array.getD_eq_getD_getElem?, Array.getElem?_setIfInBounds]
   simp [hd]; exact hr
  ·rw [if_neg ht]
   rw [Array.getD_eq_getD_getElem?, Array.getElem?_setIfInBounds_ne ht, ← Array.getD_eq_getD_getElem?]
   exact he t
theorem a4c (tmps : Array Value) (d : Option Nat) (v : Value) : ((Act.mk tmps []).put d v).tmps.size = tmps.size := by cases d <;> simp [Act.put]
theorem d5o (tmps : Array Value) (d : Option Nat) (v : Value) : (Act.mk tmps []).put d v = ⟨((Act.mk tmps []).put d v).tmps, []⟩ := by cases d <;> rfl
def Kc (n0 nt : Nat) (E : Emb) (K : Env → Heap → Prop) (a : Act) (w : World) : Prop :=
 ∃ φ env H, K env H ∧ HOk ⟨φ, H, w⟩ ∧ a0r ⟨φ, H, w⟩ env a.tmps ∧ a.defers = [] ∧ a.tmps.size = nt ∧ n0 ≤ H.length ∧ Ext (· < n0) E ⟨φ, H, w⟩
theorem c4N {o : Oper} {c : Call} {tmps : Array Value} {w : World} {f : FuncId} {caps : Array Value} (ho : o.op = .call c) {g : Operand} (hc : c.callee = .value g) {bs : Array Value} (hg : Act.eval ⟨tmps, []⟩ g = .func (.func f) bs caps) (hf : a8d P f) :
  (execOp (Act.eval ⟨tmps, []⟩) o).run P w = .ok (.enter f (bs ++ c.args.map (Act.eval ⟨tmps, []⟩) ++ caps)) w := by
 obtain ⟨fn, h1, h2, h3⟩ := hf
 have hb : fn.body.isNone = false := by cases hx : fn.body <;> simp_all
 have h2' : (fn.name == "runtime.NumGoroutine") = false := h2
 simp only [execOp, ho, resolve, hc, hg, Deferred.ofValue, Sem.run_bind, Sem.run_pure, Result.andThen_ok, invoke, callFunc, run_program, h1, h2', hb, Bool.false_eq_true, if_false]
theorem a2t {n0 : Nat} {E : Emb} {env : Env} {tmps : Array Value} {o : Oper} {mutable : Bool} {ao : AOp} (hc : caop P mutable o.op = some ao) (hd : d2K nt o.dst = true) (hsz : tmps.size = nt)
  (hok : HOk E) (he : a0r E env tmps) (hn : n0 ≤ E.H.length) {K : Env → Heap → Prop} (h : a3a P n0 ao o.dst K env E.H) {Q : Exit → Act → World → Prop} {next : Act → World → Prop} (hnext : ∀ a w, Kc n0 nt E K a w → next a w) :
  o.wp P ⟨tmps, []⟩ E.w next Q := by
 subst hsz
 have fin : ∀ (φ' : Nat → Option Nat) (env' : Env) (H' : Heap) (w' : World) (v : Value) (a : AV), K (put o.dst a env') H' → HOk ⟨φ', H', w'⟩ → Rep ⟨φ', H', w'⟩ v a → a0r ⟨φ', H', w'⟩ env' tmps → n0 ≤ H'.length → Ext (· < n0) E ⟨φ', H', w'⟩ →
   next ((Act.mk tmps []).put o.dst v) w' := by
  intro φ' env' H' w' v a h1 h2 h3 h4 h5 h6
  refine hnext _ _ ⟨φ', _, H', h1, h2, a2i h4 hd h3, ?_, a4c _ _ _, h5, h6⟩
  cases o.dst <;> rfl
 unfold caop at hc
 split at hc
 ·rename_i p hp
  cases hc
  simp only [a3a, c1g] at h
  split at h
  ·rename_i a ha
   obtain ⟨v, hv, hr⟩ := e1j hp hok he ha
   simp only [Oper.wp, hv, Oper.upon]
   exact fin E.φ env E.H E.w v a h hok hr he hn (Ext.refl _ _)
  ·exact h.elim
 ·split at hc
  ·rename_i e' hp
   cases hc
   simp only [a3a, b8Y] at h
   split at h
   ·rename_i v env' H' ha
    obtain ⟨φ', w', nx, u, g1, g2, g3, g4, g5, g6⟩ := e2t hn hp hok he ha
    have hlen : n0 ≤ H'.length := by
     rcases Nat.eq_zero_or_pos n0 with rfl | hpos
     ·omega
     ·have := g6.len (n0 - 1) (by show n0 - 1 < n0; omega) (by omega)
      have : n0 - 1 < H'.length := this
      omega
    simp only [Oper.wp, g1]
    rcases g2 with rfl | ⟨rfl, rfl⟩
    ·exact fin φ' env' H' w' u v h g3 g4 g5 hlen g6
    ·exact fin φ' env' H' w' undef v h g3 g4 g5 hlen g6
   ·exact h.elim
  ·have callb : ∀ (c : Call) (g : Operand) (f : FuncId) (bs caps : List Value) (aXs : List AV) (vs : List Value), o.op = .call c → c.callee = .value g → Act.eval ⟨tmps, []⟩ g = .func (.func f) bs.toArray caps.toArray →
     vs = bs ++ c.args.toList.map (Act.eval ⟨tmps, []⟩) ++ caps → vs.length = aXs.length → (∀ (k : Nat) v a, vs[k]? = some v → aXs[k]? = some a → Rep E v a) →
     a0h P f aXs E.H (fun r H' => K (put o.dst r env) H') → o.wp P ⟨tmps, []⟩ E.w next Q := by
    intro c g f bs caps aXs vs ho hcal hg hvs hl hr ha
    have hx := c4N (w := E.w) ho hcal hg ha.1
    simp only [Oper.wp, hx, Oper.upon]
    have harr : bs.toArray ++ c.args.map (Act.eval ⟨tmps, []⟩) ++ caps.toArray = vs.toArray := by
     rw [hvs]
     apply Array.ext'
     simp
    rw [harr]
    refine (ha.2 E.φ E.w vs hok hl hr).mono ?_
    rintro e w' ⟨v, r, φ', H', rfl, q1, q2, q3, q4, q5⟩
    exact fin φ' env H' w' v r q1 q2 q3 (he.mono q5) (Nat.le_trans hn q4) (q5.sub (fun i hi => Nat.lt_of_lt_of_le hi hn))
   have callc : ∀ (c : Call) (g : Operand) (f : FuncId) (caps : List Value) (aXs : List AV) (vs : List Value), o.op = .call c → c.callee = .value g → Act.eval ⟨tmps, []⟩ g = .func (.func f) #[] caps.toArray →
     vs = c.args.toList.map (Act.eval ⟨tmps, []⟩) ++ caps → vs.length = aXs.length → (∀ (k : Nat) v a, vs[k]? = some v → aXs[k]? = some a → Rep E v a) →
     a0h P f aXs E.H (fun r H' => K (put o.dst r env) H') → o.wp P ⟨tmps, []⟩ E.w next Q := fun c g f caps aXs vs ho hcal hg hvs => callb c g f [] caps aXs vs ho hcal hg (by rw [hvs]; rfl)
   split at hc
   ·rename_i c ho
    split at hc
    ·rename_i f hcal
     simp only [Option.map_eq_some_iff] at hc
     obtain ⟨ss, hs, rfl⟩ := hc
     obtain ⟨hl, hr⟩ := a6a he hs
     have h : a3a P n0 (.call f ss) o.dst K env E.H := by cases mutable <;> exact h
     simp only [a3a] at h
     exact callc c (.func f) f [] _ _ ho hcal rfl rfl (by simp [hl]) (by simpa using hr) h
    ·rename_i t hcal
     simp only [Option.map_eq_some_iff] at hc
     obtain ⟨ss, hs, rfl⟩ := hc
     obtain ⟨hl, hr⟩ := a6a he hs
     have h : a3a P n0 (.callv (.t t) ss) o.dst K env E.H := by cases mutable <;> exact h
     simp only [a3a, Src.ev] at h
     have hg := he t
     split at h
     ·rename_i f caps hcap
      rw [hcap] at hg
      generalize hgv : tmps.getD t undef = gv at hg
      cases hg with
      | fn _ vs cs hlen hrep =>
       exact callc c (.tmp t) f vs _ _ ho hcal hgv rfl (by simp [hl, hlen]) (a3H (Q := fun u b => Rep E u b) (by simp [hl]) hr hrep) h
      | dead v a id hr hd h1 => simp [AV.ref] at hr
     ·rename_i f bs hcap
      rw [hcap] at hg
      generalize hgv : tmps.getD t undef = gv at hg
      cases hg with
      | bfn _ vs cs hlen hrep =>
       exact callb c (.tmp t) f vs [] _ (vs ++ c.args.toList.map (Act.eval ⟨tmps, []⟩)) ho hcal hgv (by simp) (by simp [hl, hlen]) (a3H (Q := fun u b => Rep E u b) hlen hrep hr) h
      | dead v a id hr hd h1 => simp [AV.ref] at hr
     ·exact h.elim
    ·simp at hc
   ·rename_i x str ho
    cases str with
    | true => simp at hc
    | false =>
     simp only [Bool.false_eq_true, if_false, Option.map_eq_some_iff] at hc
     obtain ⟨s, hs, rfl⟩ := hc
     simp only [a3a] at h
     obtain ⟨φ', w', u, r, H', g1, g2, g3, g4, g5, g6, g7⟩ := d5v (P := P) (tmps := tmps) hn hok he (a0n he hs) o.type h
     have hx : (execOp (Act.eval ⟨tmps, []⟩) o).run P E.w = .ok (.value u) w' := by
      obtain ⟨dst, op, type, pos, after, guard⟩ := o
      simp only at ho; subst ho
      simp only [execOp, Sem.run_bind, g1, Result.andThen_ok, Sem.run_pure]
     simp only [Oper.wp, hx, Oper.upon]
     exact fin φ' env H' w' u r g2 g3 g4 g5 (Nat.le_trans hn g6) g7
   ·simp at hc
theorem c9A {E : Emb} {v : Value} (h : Rep E v (.tup [])) : v = undef := by
 cases h with
 | tup vs _ hlen _ =>
  have : vs = [] := List.length_eq_zero_iff.1 (by simpa using hlen)
  subst this; rfl
 | dead v a i hr hd h1 => simp [AV.ref] at hr
theorem b2M {E : Emb} : Rep E undef (.tup []) := .tup [] [] rfl (fun k v a h => by simp at h)
theorem a8i {ops : Array Oper} {o : Oper} {tmps : Array Value} {E : Emb} {env : Env} (he : a0r E env tmps) {g : Option (Nat × Bool)} (hg : d9N ops o.guard = some g) :
  match g with
  | none => Region.wanted o (yielded ops tmps) = true
  | some (t, want) => (∀ c, look env t = .bool c → Region.wanted o (yielded ops tmps) = (c == want)) ∧ (look env t = .tup [] → Region.wanted o (yielded ops tmps) = false) := by
 unfold d9N at hg
 split at hg
 ·rename_i hgd
  cases hg
  simp [Region.wanted, hgd]
 ·rename_i j want hgd
  split at hg
  ·rename_i t ht
   cases hg
   have hj := Option.bind_eq_some_iff.1 ht
   obtain ⟨oj, h1, h2⟩ := hj
   have get : ∀ {v}, tmps.getD t undef = v → v ≠ undef → tmps[t]? = some v := by
    intro v hv hne
    rw [Array.getD_eq_getD_getElem?] at hv
    cases hx : tmps[t]? with
    | none => simp [hx] at hv; exact absurd hv.symm hne
    | some u => simp [hx] at hv; rw [hv]
   refine ⟨fun c hc => ?_, fun hc => ?_⟩
   ·have hr := he t
    rw [hc] at hr
    have hv' := get (a1Q hr) (by simp [undef])
    simp [Region.wanted, hgd, yielded, h1, h2, hv']
   ·have hr := he t
    rw [hc] at hr
    have hv := c9A hr
    have hy : yielded ops tmps j = none := by
     rw [Array.getD_eq_getD_getElem?] at hv
     simp only [yielded, h1, h2, Option.bind_some]
     cases hx : tmps[t]? with
     | none => rfl
     | some u => simp [hx, undef] at hv; subst hv; rfl
    simp [Region.wanted, hgd, hy]
  ·simp at hg
theorem a8f {mu : Nat → Nat → Bool} {rid : Nat} {ops : Array Oper} {n0 : Nat} {K : Env → Heap → Prop} {Q : Exit → Act → World → Prop} {E0 : Emb} (hQ : ∀ a w, Kc n0 nt E0 K a w → Q .normal a w) :
  ∀ (l0 : List Oper) (k : Nat) (l : List AIns), a5S P mu nt rid ops k l0 = some l → ∀ (E : Emb) (env : Env) (tmps : Array Value), tmps.size = nt → HOk E → a0r E env tmps → n0 ≤ E.H.length → Ext (· < n0) E0 E →
   aops P n0 l K env E.H → wpList P ops Q l0 ⟨tmps, []⟩ E.w
 | [], k, l, hl, E, env, tmps, hsz, hok, he, hn, hx, h => by
  simp [a5S] at hl; subst hl
  exact hQ _ _ ⟨E.φ, env, E.H, h, hok, he, rfl, hsz, hn, hx⟩
 | o :: l0, k, l, hl, E, env, tmps, hsz, hok, he, hn, hx, h => by
  simp only [a5S] at hl
  split at hl
  ·rename_i i l' hi hl'
   cases hl
   unfold cins at hi
   split at hi
   ·rename_i hd
    split at hi
    ·rename_i g a hg ha
     cases hi
     have next : ∀ a w, Kc n0 nt E (aops P n0 l' K) a w → wpList P ops Q l0 a w := by
      intro a w ⟨φ, env', H', q1, q2, q3, q4, q5, q6, q7⟩
      have : a = ⟨a.tmps, []⟩ := by cases a; simp at q4; simp [q4]
      rw [this]
      exact a8f hQ l0 (k + 1) l' hl' ⟨φ, H', w⟩ env' a.tmps q5 q2 q3 q6 (hx.trans q7) q1
     have hw := a8i (o := o) he hg
     simp only [aops] at h
     unfold wpList
     split at h
     ·simp only at hw
      rw [if_pos hw]
      exact .inl (a2t ha hd hsz hok he hn h next)
     ·rename_i t want _
      simp only at hw
      simp only [a9y] at h
      have pass : Region.wanted o (yielded ops tmps) = false → aops P n0 l' K (put o.dst (.tup []) env) E.H → wpList P ops Q (o :: l0) ⟨tmps, []⟩ E.w := by
       intro hf h
       unfold wpList
       rw [if_neg (by rw [hf]; simp)]
       refine next _ _ ⟨E.φ, _, E.H, h, hok, ?_, ?_, ?_, hn, Ext.refl _ _⟩
       ·subst hsz; exact a2i he hd b2M
       ·cases o.dst <;> rfl
       ·rw [a4c]; exact hsz
      split at h
      ·rename_i c hc
       have hw' := hw.1 c hc
       split at h
       ·rename_i hcw
        rw [if_pos (by rw [hw', hcw]; simp)]
        exact .inl (a2t ha hd hsz hok he hn h next)
       ·rename_i hcw
        have := pass (by rw [hw']; simpa using hcw) h
        unfold wpList at this
        exact this
      ·rename_i hc
       have hw' := hw.2 hc
       rw [if_neg (by cases want <;> simp)] at h
       have := pass hw' h
       unfold wpList at this
       exact this
      ·exact h.elim
    ·simp at hi
   ·simp at hi
  ·simp at hl
end
end Go.Abs
namespace Go.Abs
inductive AItem where
 | code (c : ACode)
 | inBlock (id : Nat)
 | inLoop (c : ACode)
 | inScope (c : ACode)
inductive ResV where
 | tmp (t : Nat)
 | cell (t : Nat) (n : Option Nat)
structure Cx where
 P : Program
 mu : Nat → Nat → Bool
 f : FuncId
 nt : Nat
 rs : List ResV
 n0 : Nat
def a7b (x : Cx) : AItem → Item → Prop
 | .code ac, .code c => a0Y x.P x.mu x.nt c = some ac
 | .inBlock i, .inBlock j => i = j
 | .inLoop ac, .inLoop c => a0Y x.P x.mu x.nt c = some ac
 | .inScope ac, .inScope c => a0Y x.P x.mu x.nt c = some ac
 | _, _ => False
def a1C (x : Cx) : List AItem → List Item → Prop
 | [], [] => True
 | a :: aXs, b :: bs => a7b x a b ∧ a1C x aXs bs
 | _, _ => False
def cres (P : Program) : List ResultVar → Option (List ResV)
 | [] => some []
 | .tmp t :: r => (cres P r).map (.tmp t :: ·)
 | .cell a t :: r => match P.underlying t with
  | some d => if b4N d then (match a3X P t with
    | some n => (cres P r).map (.cell a (some n) :: ·)
    | none => none) else (cres P r).map (.cell a none :: ·)
  | none => none
def resL (env : Env) (H : Heap) : List ResV → Option (List AV)
 | [] => some []
 | .tmp t :: r => (resL env H r).map (look env t :: ·)
 | .cell t n :: r => (c4s H n (look env t)).bind fun a => (resL env H r).map (a :: ·)
def b4u : List AV → AV
 | [a] => a
 | aXs => .tup aXs
def Cx.Good (x : Cx) : Prop := ∃ fn, x.P.funcs[x.f]? = some fn ∧ cres x.P fn.results.toList = some x.rs
def Safe (x : Cx) (todo : List AItem) (env : Env) (H : Heap) (R : AV → Heap → Prop) : Prop :=
 ∀ (φ : Nat → Option Nat) (w : World) (tmps : Array Value) (b : Frame) (k : List Item) (cs : List Frame), x.Good → x.n0 ≤ H.length → b.fn = x.f → b.kind = .normal → a1C x todo k → tmps.size = x.nt →
  HOk ⟨φ, H, w⟩ → a0r ⟨φ, H, w⟩ env tmps →
  ∃ v w' fr r φ' H', R r H' ∧ HOk ⟨φ', H', w'⟩ ∧ Rep ⟨φ', H', w'⟩ v r ∧ x.n0 ≤ H'.length ∧ Ext (· < x.n0) ⟨φ, H, w⟩ ⟨φ', H', w'⟩ ∧
   Steps x.P (lone (b.at ⟨tmps, []⟩ k) cs w) (lone fr cs w') ∧ fr.fn = x.f ∧ fr.leaving x.P w' (.returned v)
section
variable {x : Cx} {todo : List AItem} {env : Env} {H : Heap} {R : AV → Heap → Prop}
theorem a0j {a : AItem} {k : List Item} (h : a1C x (a :: todo) k) : ∃ b k', k = b :: k' ∧ a7b x a b ∧ a1C x todo k' := by
 cases k with
 | nil => simp [a1C] at h
 | cons b k' => exact ⟨b, k', rfl, h.1, h.2⟩
theorem Safe.one {todo' : List AItem} (hs : ∀ k, a1C x todo k → ∃ k', a1C x todo' k' ∧ ∀ (b : Frame) (tmps : Array Value) (cs : List Frame) (w : World), step x.P (lone (b.at ⟨tmps, []⟩ k) cs w) = .next (lone (b.at ⟨tmps, []⟩ k') cs w))
  (h : Safe x todo' env H R) : Safe x todo env H R := by
 intro φ w tmps b k cs hg hn hb hk ht hsz hok he
 obtain ⟨k', ht', hst⟩ := hs k ht
 obtain ⟨v, w', fr, r, φ', H', q1, q2, q3, q4, q5, q6, q7⟩ := h φ w tmps b k' cs hg hn hb hk ht' hsz hok he
 exact ⟨v, w', fr, r, φ', H', q1, q2, q3, q4, q5, .head (hst b tmps cs w) q6, q7⟩
section inv
variable {P : Program} {mu : Nat → Nat → Bool} {nt : Nat} {c : Code}
theorem d6y {ops : Array Oper} {l : List AIns} {b : List (Nat × Nat × AIns × AIns)} {a : ACode} (h : e2z P ops l b = some a) : ∃ k sd, xchk P ops l k sd = true ∧ a = .regionX (l.take k) (l.drop k) (d4Q (l.drop k)) sd := by
 unfold e2z e7O at h
 split at h
 ·rename_i hk; cases h; exact ⟨_, _, hk, rfl⟩
 ·cases h
theorem c4B {id : Nat} {ops : Array Oper} {draw : Bool} {a : ACode} (h : a0Y P mu nt (.region id ops draw) = some a) : (a = .bad ∨ a = .raw id ops draw) ∨ ∃ l, a5S P mu nt id ops 0 ops.toList = some l ∧
  ((a = .region l draw ∧ (draw = true → dchk P ops l = true)) ∨ (draw = true ∧ ∃ k sd, xchk P ops l k sd = true ∧ a = .regionX (l.take k) (l.drop k) (d4Q (l.drop k)) sd)) := by
 simp only [a0Y] at h
 split at h
 ·cases h; exact .inl (.inr rfl)
 split at h
 ·rename_i l' h1
  split at h
  ·rename_i hd
   subst hd
   split at h
   ·rename_i hk
    cases h
    exact .inr ⟨l', h1, .inl ⟨rfl, fun _ => hk⟩⟩
   ·cases hB : e2z P ops l' (e0d (b0V ops.toList []) 0 [] l') with
    | none =>
     rw [hB] at h
     cases h
     exact .inl (.inl rfl)
    | some a' =>
     rw [hB] at h
     cases h
     obtain ⟨k, sd, h2, h3⟩ := d6y hB
     exact .inr ⟨l', h1, .inr ⟨rfl, k, sd, h2, h3⟩⟩
  ·rename_i hd
   cases h
   cases draw
   ·exact .inr ⟨l', h1, .inl ⟨rfl, by simp⟩⟩
   ·simp at hd
 ·cases h; exact .inl (.inr rfl)
theorem b4G {id : Nat} {ops : Array Oper} {draw : Bool} {a : ACode} (h : a0Y P mu nt (.region id ops draw) = some a) (hr : ∀ l d, a ≠ .region l d) (hx : ∀ p s1 s2 sd, a ≠ .regionX p s1 s2 sd) (hb : a ≠ .bad ∧ ∀ i o d, a ≠ .raw i o d) : False := by
 rcases c4B h with (h1 | h1) | ⟨l, _, ⟨h1, _⟩ | ⟨_, k, sd, _, h1⟩⟩
 ·exact hb.1 h1
 ·exact hb.2 _ _ _ h1
 ·exact hr _ _ h1
 ·exact hx _ _ _ _ h1
theorem c8l (h : a0Y P mu nt c = some .skip) : c = .skip := by
 cases c
 case region => exact (b4G h (by simp) (by simp) (by simp)).elim
 case skip => rfl
 all_goals simp only [a0Y] at h <;> first | (exfalso; revert h; (repeat' split) <;> simp; done) | (exfalso; simp at h; done)
theorem c4C {l : Nat} (h : a0Y P mu nt c = some (.label l)) : c = .label l := by
 cases c
 case region => exact (b4G h (by simp) (by simp) (by simp)).elim
 all_goals simp only [a0Y] at h <;> first | (cases h; rfl) | (exfalso; revert h; (repeat' split) <;> simp; done) | (exfalso; simp at h; done)
theorem c8o {l : Nat} (h : a0Y P mu nt c = some (.goto l)) : c = .goto l := by
 cases c
 case region => exact (b4G h (by simp) (by simp) (by simp)).elim
 all_goals simp only [a0Y] at h <;> first | (cases h; rfl) | (exfalso; revert h; (repeat' split) <;> simp; done) | (exfalso; simp at h; done)
theorem d8J (h : a0Y P mu nt c = some .ret) : c = .ret := by
 cases c
 case region => exact (b4G h (by simp) (by simp) (by simp)).elim
 all_goals simp only [a0Y] at h <;> first | rfl | (exfalso; revert h; (repeat' split) <;> simp; done) | (exfalso; simp at h; done)
theorem c8p {id : Nat} (h : a0Y P mu nt c = some (.exit id)) : c = .exit id := by
 cases c
 case region => exact (b4G h (by simp) (by simp) (by simp)).elim
 all_goals simp only [a0Y] at h <;> first | (cases h; rfl) | (exfalso; revert h; (repeat' split) <;> simp; done) | (exfalso; simp at h; done)
theorem d2v {a b : ACode} (h : a0Y P mu nt c = some (.seq a b)) : ∃ a' b', c = .seq a' b' ∧ a0Y P mu nt a' = some a ∧ a0Y P mu nt b' = some b := by
 cases c
 case region => exact (b4G h (by simp) (by simp) (by simp)).elim
 case seq a' b' =>
  simp only [a0Y] at h
  split at h
  ·rename_i h1 h2; cases h; exact ⟨_, _, rfl, h1, h2⟩
  ·simp at h
 all_goals simp only [a0Y] at h <;> first | (exfalso; revert h; (repeat' split) <;> simp; done) | (exfalso; simp at h; done)
theorem c8q {s : Src} {a b : ACode} (h : a0Y P mu nt c = some (.cond s a b)) : ∃ o a' b', c = .cond o a' b' ∧ a0B o = some s ∧ a0Y P mu nt a' = some a ∧ a0Y P mu nt b' = some b := by
 cases c
 case region => exact (b4G h (by simp) (by simp) (by simp)).elim
 case cond o a' b' =>
  simp only [a0Y] at h
  split at h
  ·rename_i h0 h1 h2; cases h; exact ⟨_, _, _, rfl, h0, h1, h2⟩
  ·simp at h
 all_goals simp only [a0Y] at h <;> first | (exfalso; revert h; (repeat' split) <;> simp; done) | (exfalso; simp at h; done)
theorem c4D {id : Nat} {a : ACode} (h : a0Y P mu nt c = some (.block id a)) : ∃ a', c = .block id a' ∧ a0Y P mu nt a' = some a := by
 cases c
 case region => exact (b4G h (by simp) (by simp) (by simp)).elim
 case block i a' =>
  simp only [a0Y, Option.map_eq_some_iff] at h
  obtain ⟨a1, h1, h2⟩ := h
  cases h2; exact ⟨_, rfl, h1⟩
 all_goals simp only [a0Y] at h <;> first | (exfalso; revert h; (repeat' split) <;> simp; done) | (exfalso; simp at h; done)
theorem c8n {a : ACode} (h : a0Y P mu nt c = some (.loop a)) : ∃ a', c = .loop a' ∧ a0Y P mu nt a' = some a := by
 cases c
 case region => exact (b4G h (by simp) (by simp) (by simp)).elim
 case loop a' =>
  simp only [a0Y, Option.map_eq_some_iff] at h
  obtain ⟨a1, h1, h2⟩ := h
  cases h2; exact ⟨_, rfl, h1⟩
 all_goals simp only [a0Y] at h <;> first | (exfalso; revert h; (repeat' split) <;> simp; done) | (exfalso; simp at h; done)
theorem c4A {a : ACode} (h : a0Y P mu nt c = some (.scope a)) : ∃ a', c = .scope a' ∧ a0Y P mu nt a' = some a := by
 cases c
 case region => exact (b4G h (by simp) (by simp) (by simp)).elim
 case scope a' =>
  simp only [a0Y, Option.map_eq_some_iff] at h
  obtain ⟨a1, h1, h2⟩ := h
  cases h2; exact ⟨_, rfl, h1⟩
 all_goals simp only [a0Y] at h <;> first | (exfalso; revert h; (repeat' split) <;> simp; done) | (exfalso; simp at h; done)
theorem a5R {l : List AIns} {d : Bool} (h : a0Y P mu nt c = some (.region l d)) : ∃ id ops, c = .region id ops d ∧ a5S P mu nt id ops 0 ops.toList = some l ∧ (d = true → dchk P ops l = true) := by
 cases c
 case region id ops draw =>
  rcases c4B h with (h1 | h1) | ⟨l', h0, ⟨h1, h2⟩ | ⟨_, k, sd, _, h1⟩⟩
  ·cases h1
  ·cases h1
  ·cases h1; exact ⟨_, _, rfl, h0, h2⟩
  ·cases h1
 all_goals simp only [a0Y] at h <;> first | (exfalso; revert h; (repeat' split) <;> simp; done) | (exfalso; simp at h; done)
theorem d2w {p s1 s2 : List AIns} {sd : List (Nat × Nat)} (h : a0Y P mu nt c = some (.regionX p s1 s2 sd)) : ∃ id ops l k, c = .region id ops true ∧ a5S P mu nt id ops 0 ops.toList = some l ∧ xchk P ops l k sd = true ∧ p = l.take k ∧ s1 = l.drop k ∧ s2 = d4Q (l.drop k) := by
 cases c
 case region id ops draw =>
  rcases c4B h with (h1 | h1) | ⟨l', h0, ⟨h1, h2⟩ | ⟨rfl, k, sd', h2, h1⟩⟩
  ·cases h1
  ·cases h1
  ·cases h1
  ·cases h1; exact ⟨_, _, _, _, rfl, h0, h2, rfl, rfl, rfl⟩
 all_goals simp only [a0Y] at h <;> first | (exfalso; revert h; (repeat' split) <;> simp; done) | (exfalso; simp at h; done)
theorem c8m {i : Nat} {o : Array Oper} {d : Bool} (h : a0Y P mu nt c = some (.raw i o d)) : c = .region i o d := by
 cases c
 case region id ops draw =>
  rcases c4B h with (h1 | h1) | ⟨l', h0, ⟨h1, h2⟩ | ⟨_, k, sd, _, h1⟩⟩
  ·cases h1
  ·cases h1; rfl
  ·cases h1
  ·cases h1
 all_goals simp only [a0Y] at h <;> first | (exfalso; revert h; (repeat' split) <;> simp; done) | (exfalso; simp at h; done)
end inv
theorem a0m {c : ACode} {b : Item} (h : a7b x (.code c) b) : ∃ c', b = .code c' ∧ a0Y x.P x.mu x.nt c' = some c := by
 cases b <;> first | exact ⟨_, rfl, h⟩ | (simp [a7b] at h; done)
theorem b3C {c : ACode} {b : Item} (h : a7b x (.inLoop c) b) : ∃ c', b = .inLoop c' ∧ a0Y x.P x.mu x.nt c' = some c := by
 cases b <;> first | exact ⟨_, rfl, h⟩ | (simp [a7b] at h; done)
theorem b0J {i : Nat} {b : Item} (h : a7b x (.inBlock i) b) : b = .inBlock i := by
 cases b <;> first | (simp only [a7b] at h; subst h; rfl) | (simp [a7b] at h; done)
theorem Safe.skip (h : Safe x todo env H R) : Safe x (.code .skip :: todo) env H R := by
 refine Safe.one (fun k hk => ?_) h
 obtain ⟨b, k', rfl, h1, h2⟩ := a0j hk
 obtain ⟨c, rfl, h1⟩ := a0m h1
 obtain rfl := c8l h1
 exact ⟨k', h2, fun _ _ _ _ => step_skip⟩
theorem Safe.label {l : Nat} (h : Safe x todo env H R) : Safe x (.code (.label l) :: todo) env H R := by
 refine Safe.one (fun k hk => ?_) h
 obtain ⟨b, k', rfl, h1, h2⟩ := a0j hk
 obtain ⟨c, rfl, h1⟩ := a0m h1
 obtain rfl := c4C h1
 exact ⟨k', h2, fun _ _ _ _ => step_label⟩
theorem b8b {P : Program} {b : Frame} {a : Act} {cs : List Frame} {w : World} {c : Code} {k : List Item} : step P (lone (b.at a (.code (.scope c) :: k)) cs w) = .next (lone (b.at a (.code c :: .inScope c :: k)) cs w) :=
 step_lone_go (by simp [stepG, stepG.exec, Frame.at])
theorem b2H {P : Program} {b : Frame} {a : Act} {cs : List Frame} {w : World} {c : Code} {k : List Item} : step P (lone (b.at a (.inScope c :: k)) cs w) = .next (lone (b.at a k) cs w) :=
 step_lone_go (by simp [stepG, stepG.exec, Frame.at])
theorem b0g {c : ACode} {b : Item} (h : a7b x (.inScope c) b) : ∃ c', b = .inScope c' ∧ a0Y x.P x.mu x.nt c' = some c := by
 cases b <;> first | exact ⟨_, rfl, h⟩ | (simp [a7b] at h; done)
theorem Safe.scope {a : ACode} (h : Safe x (.code a :: .inScope a :: todo) env H R) : Safe x (.code (.scope a) :: todo) env H R := by
 refine Safe.one (fun k hk => ?_) h
 obtain ⟨i, k', rfl, h1, h2⟩ := a0j hk
 obtain ⟨c, rfl, h1⟩ := a0m h1
 obtain ⟨a', rfl, g1⟩ := c4A h1
 exact ⟨.code a' :: .inScope a' :: k', ⟨g1, g1, h2⟩, fun _ _ _ _ => b8b⟩
theorem Safe.inScope {a : ACode} (h : Safe x todo env H R) : Safe x (.inScope a :: todo) env H R := by
 refine Safe.one (fun k hk => ?_) h
 obtain ⟨i, k', rfl, h1, h2⟩ := a0j hk
 obtain ⟨a', rfl, h1⟩ := b0g h1
 exact ⟨k', h2, fun _ _ _ _ => b2H⟩
theorem Safe.seq {a b : ACode} (h : Safe x (.code a :: .code b :: todo) env H R) : Safe x (.code (.seq a b) :: todo) env H R := by
 refine Safe.one (fun k hk => ?_) h
 obtain ⟨i, k', rfl, h1, h2⟩ := a0j hk
 obtain ⟨c, rfl, h1⟩ := a0m h1
 obtain ⟨a', b', rfl, g1, g2⟩ := d2v h1
 exact ⟨.code a' :: .code b' :: k', ⟨g1, g2, h2⟩, fun _ _ _ _ => step_seq⟩
theorem Safe.block {id : Nat} {a : ACode} (h : Safe x (.code a :: .inBlock id :: todo) env H R) : Safe x (.code (.block id a) :: todo) env H R := by
 refine Safe.one (fun k hk => ?_) h
 obtain ⟨i, k', rfl, h1, h2⟩ := a0j hk
 obtain ⟨c, rfl, h1⟩ := a0m h1
 obtain ⟨a', rfl, g1⟩ := c4D h1
 exact ⟨.code a' :: .inBlock id :: k', ⟨g1, rfl, h2⟩, fun _ _ _ _ => step_block⟩
theorem Safe.inBlock {id : Nat} (h : Safe x todo env H R) : Safe x (.inBlock id :: todo) env H R := by
 refine Safe.one (fun k hk => ?_) h
 obtain ⟨i, k', rfl, h1, h2⟩ := a0j hk
 obtain rfl := b0J h1
 exact ⟨k', h2, fun _ _ _ _ => step_inBlock⟩
theorem Safe.loop {a : ACode} (h : Safe x (.inLoop a :: todo) env H R) : Safe x (.code (.loop a) :: todo) env H R := by
 intro φ w tmps b k cs hg hn hb hk ht hsz hok he
 obtain ⟨i, k', rfl, h1, h2⟩ := a0j ht
 obtain ⟨c, rfl, h1⟩ := a0m h1
 obtain ⟨a', rfl, g1⟩ := c8n h1
 obtain ⟨v, w', fr, r, φ', H', q1, q2, q3, q4, q5, q6, q7⟩ := h φ w tmps b (.inLoop a' :: k') cs hg hn hb hk ⟨g1, h2⟩ hsz hok he
 refine ⟨v, w', fr, r, φ', H', q1, q2, q3, q4, q5, ?_, q7⟩
 -- both begin with the same state behind one step
 obtain ⟨n, hn'⟩ := q6
 cases n with
 | zero =>
  simp only [runN] at hn'
  cases hn'
  exfalso
  obtain ⟨_, hl⟩ := q7
  simp [Frame.leaving, Frame.at] at hl
 | succ n =>
  simp only [runN, step_inLoop] at hn'
  exact .head step_loop ⟨n, hn'⟩
theorem Safe.inLoop {a : ACode} (h : Safe x (.code a :: .inLoop a :: todo) env H R) : Safe x (.inLoop a :: todo) env H R := by
 refine Safe.one (fun k hk => ?_) h
 obtain ⟨i, k', rfl, h1, h2⟩ := a0j hk
 obtain ⟨a', rfl, h1⟩ := b3C h1
 exact ⟨.code a' :: .inLoop a' :: k', ⟨h1, h1, h2⟩, fun _ _ _ _ => step_inLoop⟩
theorem Safe.cond {s : Src} {a b : ACode} (h : c1m (s.ev env) fun c => if c then Safe x (.code a :: todo) env H R else Safe x (.code b :: todo) env H R) : Safe x (.code (.cond s a b) :: todo) env H R := by
 intro φ w tmps bf k cs hg hn hb hk ht hsz hok he
 obtain ⟨i, k', rfl, h1, h2⟩ := a0j ht
 obtain ⟨c, rfl, h1⟩ := a0m h1
 obtain ⟨o, a', b', rfl, g0, g1, g2⟩ := c8q h1
 simp only [c1m] at h
 split at h
 ·rename_i c hc
  have hr := a0n he g0
  rw [hc] at hr
  have hv := a1Q hr
  cases c
  ·simp only [Bool.false_eq_true, if_false] at h
   obtain ⟨v, w', fr, r, φ', H', q1, q2, q3, q4, q5, q6, q7⟩ := h φ w tmps bf (.code b' :: k') cs hg hn hb hk ⟨g2, h2⟩ hsz hok he
   exact ⟨v, w', fr, r, φ', H', q1, q2, q3, q4, q5, .head (step_cond hv) (by simpa using q6), q7⟩
  ·simp only [if_true] at h
   obtain ⟨v, w', fr, r, φ', H', q1, q2, q3, q4, q5, q6, q7⟩ := h φ w tmps bf (.code a' :: k') cs hg hn hb hk ⟨g1, h2⟩ hsz hok he
   exact ⟨v, w', fr, r, φ', H', q1, q2, q3, q4, q5, .head (step_cond hv) (by simpa using q6), q7⟩
 ·exact h.elim
def c1x (id : Nat) : List AItem → Option (List AItem)
 | .inBlock i :: k => if i = id then some k else c1x id k
 | _ :: k => c1x id k
 | [] => none
theorem a8I {id : Nat} : ∀ {todo : List AItem} {k : List Item} {todo' : List AItem}, a1C x todo k → c1x id todo = some todo' → ∃ k', exitTo id k = some k' ∧ a1C x todo' k'
 | [], _, _, _, h => by simp [c1x] at h
 | a :: todo, k, todo', hr, h => by
  obtain ⟨b, k', rfl, h1, h2⟩ := a0j hr
  cases a with
  | code c =>
   obtain ⟨c', rfl, _⟩ := a0m h1
   obtain ⟨k2, g1, g2⟩ := a8I h2 (by simpa [c1x] using h)
   exact ⟨k2, by simpa [exitTo] using g1, g2⟩
  | inLoop c =>
   obtain ⟨c', rfl, _⟩ := b3C h1
   obtain ⟨k2, g1, g2⟩ := a8I h2 (by simpa [c1x] using h)
   exact ⟨k2, by simpa [exitTo] using g1, g2⟩
  | inScope c =>
   obtain ⟨c', rfl, _⟩ := b0g h1
   obtain ⟨k2, g1, g2⟩ := a8I h2 (by simpa [c1x] using h)
   exact ⟨k2, by simpa [exitTo] using g1, g2⟩
  | inBlock i =>
   obtain rfl := b0J h1
   simp only [c1x] at h
   split at h
   ·rename_i hi
    cases h
    exact ⟨k', by simp [exitTo, hi], h2⟩
   ·rename_i hi
    obtain ⟨k2, g1, g2⟩ := a8I h2 h
    exact ⟨k2, by simp [exitTo, hi]; exact g1, g2⟩
theorem Safe.exit {id : Nat} {todo' : List AItem} (he : c1x id todo = some todo') (h : Safe x todo' env H R) : Safe x (.code (.exit id) :: todo) env H R := by
 refine Safe.one (fun k hk => ?_) h
 obtain ⟨i, k', rfl, h1, h2⟩ := a0j hk
 obtain ⟨c, rfl, h1⟩ := a0m h1
 obtain rfl := c8p h1
 obtain ⟨k2, g1, g2⟩ := a8I h2 he
 exact ⟨k2, g2, fun _ _ _ _ => step_exit g1⟩
def c5A : ACode → Nat → Option ACode
 | .seq a b, l => match c5A a l with
  | some r => some (.seq r b)
  | none => c5A b l
 | .label m, l => if m == l then some .skip else none
 | _, _ => none
def c1w (l : Nat) : List AItem → Option (List AItem)
 | .inScope a :: k => match c5A a l with
  | some r => some (.code r :: .inScope a :: k)
  | none => c1w l k
 | _ :: k => c1w l k
 | [] => none
theorem e0l {P : Program} {mu : Nat → Nat → Bool} {nt : Nat} (l : Nat) : ∀ {c : Code} {a : ACode}, a0Y P mu nt c = some a →
  (∃ r r', findLabel c l = some r ∧ c5A a l = some r' ∧ a0Y P mu nt r = some r') ∨ (findLabel c l = none ∧ c5A a l = none) := by
 intro c
 induction c with
 | seq c d ih1 ih2 =>
  intro a h
  simp only [a0Y] at h
  split at h
  ·rename_i a1 b1 h1 h2
   cases h
   rcases ih1 h1 with ⟨r, r', f1, f2, f3⟩ | ⟨f1, f2⟩
   ·exact .inl ⟨.seq r d, .seq r' b1, by simp only [findLabel, f1], by simp only [c5A, f2], by simp only [a0Y, f3, h2]⟩
   ·rcases ih2 h2 with ⟨r, r', g1, g2, g3⟩ | ⟨g1, g2⟩
    ·exact .inl ⟨r, r', by simp only [findLabel, f1]; exact g1, by simp only [c5A, f2]; exact g2, g3⟩
    ·exact .inr ⟨by simp only [findLabel, f1]; exact g1, by simp only [c5A, f2]; exact g2⟩
  ·simp at h
 | label m =>
  intro a h
  simp only [a0Y, Option.some.injEq] at h
  subst h
  by_cases e : (m == l) = true
  ·exact .inl ⟨.skip, .skip, by simp only [findLabel]; rw [if_pos e], by simp only [c5A]; rw [if_pos e], rfl⟩
  ·exact .inr ⟨by simp only [findLabel]; rw [if_neg e], by simp only [c5A]; rw [if_neg e]⟩
 | region id ops draw =>
  intro a h
  refine .inr ⟨rfl, ?_⟩
  rcases c4B h with (h1 | h1) | ⟨l, _, ⟨h1, _⟩ | ⟨_, k, sd, _, h1⟩⟩ <;> subst h1 <;> rfl
 | _ =>
  intro a h
  refine .inr ⟨rfl, ?_⟩
  simp only [a0Y] at h
  first
   | (cases h; rfl)
   | (split at h <;> first | (cases h; rfl) | (simp at h; done))
   | (rw [Option.map_eq_some_iff] at h; obtain ⟨_, _, rfl⟩ := h; rfl)
   | (simp at h; done)
theorem a8H {l : Nat} : ∀ {todo : List AItem} {k : List Item} {todo' : List AItem}, a1C x todo k → c1w l todo = some todo' → ∃ k', gotoIn l k = some k' ∧ a1C x todo' k'
 | [], _, _, _, h => by simp [c1w] at h
 | a :: todo, k, todo', hr, h => by
  obtain ⟨b, k', rfl, h1, h2⟩ := a0j hr
  cases a with
  | code c =>
   obtain ⟨c', rfl, _⟩ := a0m h1
   obtain ⟨k2, g1, g2⟩ := a8H h2 (by simpa [c1w] using h)
   exact ⟨k2, by simpa [gotoIn] using g1, g2⟩
  | inLoop c =>
   obtain ⟨c', rfl, _⟩ := b3C h1
   obtain ⟨k2, g1, g2⟩ := a8H h2 (by simpa [c1w] using h)
   exact ⟨k2, by simpa [gotoIn] using g1, g2⟩
  | inBlock i =>
   obtain rfl := b0J h1
   obtain ⟨k2, g1, g2⟩ := a8H h2 (by simpa [c1w] using h)
   exact ⟨k2, by simpa [gotoIn] using g1, g2⟩
  | inScope c =>
   obtain ⟨c', rfl, hc⟩ := b0g h1
   simp only [c1w] at h
   rcases e0l l hc with ⟨r, r', f1, f2, f3⟩ | ⟨f1, f2⟩
   ·rw [f2] at h
    cases h
    exact ⟨.code r :: .inScope c' :: k', by simp only [gotoIn, f1], ⟨f3, hc, h2⟩⟩
   ·rw [f2] at h
    obtain ⟨k2, g1, g2⟩ := a8H h2 h
    exact ⟨k2, by simp only [gotoIn, f1]; exact g1, g2⟩
theorem c2G {P : Program} {b : Frame} {a : Act} {cs : List Frame} {w : World} {l : Nat} {k k' : List Item} (h : gotoIn l k = some k') : step P (lone (b.at a (.code (.goto l) :: k)) cs w) = .next (lone (b.at a k') cs w) :=
 step_lone_go (by simp [stepG, stepG.exec, Frame.at, h])
theorem Safe.goto {l : Nat} {todo' : List AItem} (he : c1w l todo = some todo') (h : Safe x todo' env H R) : Safe x (.code (.goto l) :: todo) env H R := by
 refine Safe.one (fun k hk => ?_) h
 obtain ⟨i, k', rfl, h1, h2⟩ := a0j hk
 obtain ⟨c, rfl, h1⟩ := a0m h1
 obtain rfl := c8o h1
 obtain ⟨k2, g1, g2⟩ := a8H h2 he
 exact ⟨k2, g2, fun _ _ _ _ => c2G g1⟩
theorem Safe.region {l : List AIns} (h : aops x.P x.n0 l (fun env' H' => Safe x todo env' H' R) env H) : Safe x (.code (.region l false) :: todo) env H R := by
 intro φ w tmps b k cs hg hn hb hk ht hsz hok he
 obtain ⟨i, k', rfl, h1, h2⟩ := a0j ht
 obtain ⟨c, rfl, h1⟩ := a0m h1
 obtain ⟨id, ops, rfl, g1, _⟩ := a5R h1
 have hw := a8f (P := x.P) (nt := x.nt) (rid := id) (ops := ops) (n0 := x.n0) (K := fun env' H' => Safe x todo env' H' R) (E0 := ⟨φ, H, w⟩)
  (Q := fun e a w' => e = .normal ∧ Kc x.n0 x.nt ⟨φ, H, w⟩ (fun env' H' => Safe x todo env' H' R) a w') (fun a w h => ⟨rfl, h⟩) ops.toList 0 l g1 ⟨φ, H, w⟩ env tmps hsz hok he hn (Ext.refl _ _) h
 obtain ⟨e, a', w', ⟨rfl, φ1, env1, H1, s1, s2, s3, s4, s5, s6, s7⟩, harr⟩ := wp_region_list hw b k' cs
 have ha : a' = ⟨a'.tmps, []⟩ := by cases a'; simp at s4; simp [s4]
 rw [ha] at harr
 obtain ⟨v, w2, fr, r, φ', H', q1, q2, q3, q4, q5, q6, q7⟩ := s1 φ1 w' a'.tmps b k' cs hg s6 hb hk h2 s5 s2 s3
 exact ⟨v, w2, fr, r, φ', H', q1, q2, q3, q4, s7.trans q5, Steps.trans harr q6, q7⟩
theorem c2O {P : Program} {E : Emb} {tmps : Array Value} {env : Env} (hok : HOk E) (he : a0r E env tmps) : ∀ {rv : List ResultVar} {rs : List ResV} {aXs : List AV}, cres P rv = some rs → resL env E.H rs = some aXs →
  ∃ vs : List Value, (rv.mapM fun (r : ResultVar) => match r with
   | .tmp t => (pure (tmps.getD t undef) : Sem Value)
   | .cell a t => do loadVar t (← asAddr (tmps.getD a undef))).run P E.w = .ok vs E.w ∧ vs.length = aXs.length ∧ ∀ (k : Nat) v a, vs[k]? = some v → aXs[k]? = some a → Rep E v a
 | [], rs, aXs, h1, h2 => by
  simp [cres] at h1; subst h1
  simp [resL] at h2; subst h2
  exact ⟨[], rfl, rfl, fun k v a h => by simp at h⟩
 | .tmp t :: rv, rs, aXs, h1, h2 => by
  simp only [cres, Option.map_eq_some_iff] at h1
  obtain ⟨rs', g1, rfl⟩ := h1
  simp only [resL, Option.map_eq_some_iff] at h2
  obtain ⟨as', g2, rfl⟩ := h2
  obtain ⟨vs, q1, q2, q3⟩ := c2O hok he g1 g2
  refine ⟨tmps.getD t undef :: vs, by simp only [List.mapM_cons, Sem.run_bind, Sem.run_pure, Result.andThen_ok, q1], by simp [q2], fun k v a hk ha => ?_⟩
  cases k with
  | zero => simp only [List.getElem?_cons_zero, Option.some.injEq] at hk ha; subst hk; subst ha; exact he t
  | succ k => exact q3 k v a (by simpa using hk) (by simpa using ha)
 | .cell p t :: rv, rs, aXs, h1, h2 => by
  simp only [cres] at h1
  have main : ∀ (n : Option Nat) (d : TypeDesc) (rs' : List ResV), P.underlying t = some d → ((n = none ∧ b4N d = false) ∨ ∃ m, n = some m ∧ b4N d = true ∧ a3X P t = some m) → cres P rv = some rs' → rs = .cell p n :: rs' →
    ∃ vs : List Value, ((ResultVar.cell p t :: rv).mapM fun (r : ResultVar) => match r with
     | .tmp t => (pure (tmps.getD t undef) : Sem Value)
     | .cell a t => do loadVar t (← asAddr (tmps.getD a undef))).run P E.w = .ok vs E.w ∧ vs.length = aXs.length ∧ ∀ (k : Nat) v a, vs[k]? = some v → aXs[k]? = some a → Rep E v a := by
   intro n d rs' hd hn g1 hrs
   subst hrs
   simp only [resL, Option.bind_eq_some_iff, Option.map_eq_some_iff] at h2
   obtain ⟨a, ha, as', g2, rfl⟩ := h2
   obtain ⟨vs, q1, q2, q3⟩ := c2O hok he g1 g2
   obtain ⟨v, hv, hr⟩ := b8J (P := P) hok (he p) hd hn ha
   have hl : (do loadVar t (← asAddr (tmps.getD p undef)) : Sem Value).run P E.w = .ok v E.w := by
    simp only [c4s, Option.bind_eq_some_iff] at ha
    obtain ⟨cs, hat, _⟩ := ha
    obtain ⟨b, o, us, hp, _⟩ := d4u hok (he p) hat
    rw [hp] at hv ⊢
    simpa [Instr.loadAt, Instr.sureAddr, asAddr] using hv
   refine ⟨v :: vs, by simp only [List.mapM_cons, Sem.run_bind]; rw [← Sem.run_bind, hl]; simp only [Result.andThen_ok, q1, Sem.run_pure], by simp [q2], fun k v a hk ha => ?_⟩
   cases k with
   | zero => simp only [List.getElem?_cons_zero, Option.some.injEq] at hk ha; subst hk; subst ha; exact hr
   | succ k => exact q3 k v a (by simpa using hk) (by simpa using ha)
  split at h1
  ·rename_i d hd
   split at h1
   ·rename_i hag
    split at h1
    ·rename_i n hn
     simp only [Option.map_eq_some_iff] at h1
     obtain ⟨rs', g1, rfl⟩ := h1
     exact main (some n) d rs' hd (.inr ⟨n, rfl, hag, hn⟩) g1 rfl
    ·simp at h1
   ·rename_i hag
    simp only [Option.map_eq_some_iff] at h1
    obtain ⟨rs', g1, rfl⟩ := h1
    exact main none d rs' hd (.inl ⟨rfl, by simpa using hag⟩) g1 rfl
  ·simp at h1
theorem b6D {E : Emb} {tmps : Array Value} {env : Env} (hok : HOk E) (he : a0r E env tmps) {fn : Func} {P : Program} {rs : List ResV} {aXs : List AV} (h1 : cres P fn.results.toList = some rs) (h2 : resL env E.H rs = some aXs) :
  ∃ v, (results fn tmps).run P E.w = .ok v E.w ∧ Rep E v (b4u aXs) := by
 obtain ⟨vs, q1, q2, q3⟩ := c2O hok he h1 h2
 have hm : (fn.results.mapM fun (r : ResultVar) => match r with
   | .tmp t => (pure (tmps.getD t undef) : Sem Value)
   | .cell a t => do loadVar t (← asAddr (tmps.getD a undef))).run P E.w = .ok vs.toArray E.w := by
  rw [Array.mapM_eq_mapM_toList, Sem.run_map, q1]; rfl
 refine ⟨if h : vs.toArray.size = 1 then vs.toArray[0] else .tuple vs.toArray, ?_, ?_⟩
 ·unfold results
  rw [Sem.run_bind]
  exact (congrArg (fun r => Result.andThen r _) hm).trans rfl
 ·cases vs with
  | nil =>
   cases aXs with
   | nil => exact .tup [] [] rfl (fun k v a h => by simp at h)
   | cons a aXs => simp at q2
  | cons v vs =>
   cases vs with
   | nil =>
    cases aXs with
    | nil => simp at q2
    | cons a aXs =>
     cases aXs with
     | nil => exact q3 0 v a rfl rfl
     | cons b aXs => simp at q2
   | cons u vs =>
    cases aXs with
    | nil => simp at q2
    | cons a aXs =>
     cases aXs with
     | nil => simp at q2
     | cons b aXs =>
      rw [dif_neg (by simp)]
      exact .tup _ _ q2 q3
theorem Safe.fin (hr : ∀ (k : List Item), a1C x todo k → k = [] ∨ ∃ k', k = .code .ret :: k') {aXs : List AV} (h1 : resL env H x.rs = some aXs) (h : R (b4u aXs) H) : Safe x todo env H R := by
 intro φ w tmps b k cs hg hn hb hk ht hsz hok he
 obtain ⟨fn, hf, hc⟩ := hg
 obtain ⟨v, q1, q2⟩ := b6D (E := ⟨φ, H, w⟩) hok he hc h1
 rcases hr k ht with rfl | ⟨k', rfl⟩
 ·exact ⟨v, w, _, b4u aXs, φ, H, h, hok, q2, hn, Ext.refl _ _, .one step_end, hb, rfl, rfl, hk, fn, hb ▸ hf, q1⟩
 ·exact ⟨v, w, _, b4u aXs, φ, H, h, hok, q2, hn, Ext.refl _ _, .one step_ret, hb, rfl, rfl, hk, fn, hb ▸ hf, q1⟩
theorem Safe.ret {aXs : List AV} (h1 : resL env H x.rs = some aXs) (h : R (b4u aXs) H) : Safe x (.code .ret :: todo) env H R := by
 refine Safe.fin (fun k hk => ?_) h1 h
 obtain ⟨i, k', rfl, g1, g2⟩ := a0j hk
 obtain ⟨c, rfl, g1⟩ := a0m g1
 obtain rfl := d8J g1
 exact .inr ⟨k', rfl⟩
theorem Safe.done {aXs : List AV} (h1 : resL env H x.rs = some aXs) (h : R (b4u aXs) H) : Safe x [] env H R := by
 refine Safe.fin (fun k hk => ?_) h1 h
 cases k with
 | nil => exact .inl rfl
 | cons b k => simp [a1C] at hk
end
def fchk (P : Program) (mu : Nat → Nat → Bool) (fn : Func) : Option (ACode × List ResV × Nat) :=
 if fn.name == "runtime.NumGoroutine" then none else
 match fn.body with
 | some c => match a0Y P mu fn.ntmps c, cres P fn.results.toList with
  | some ac, some rs => some (ac, rs, fn.ntmps)
  | _, _ => none
 | none => none
def b2o (k : Nat) : List AV → Env
 | [] => []
 | a :: aXs => (k, a) :: b2o (k + 1) aXs
theorem b4e : ∀ (aXs : List AV) (k t : Nat), look (b2o k aXs) t = if k ≤ t then (aXs[t - k]?).getD .top else .top
 | [], k, t => by simp [b2o, look]
 | a :: aXs, k, t => by
  simp only [b2o, look]
  by_cases h : k = t
  ·subst h; simp
  ·rw [if_neg h, b4e aXs (k + 1) t]
   by_cases h' : k ≤ t
   ·rw [if_pos h', if_pos (by omega)]
    obtain ⟨m, hm⟩ : ∃ m, t - k = m + 1 := ⟨t - k - 1, by omega⟩
    rw [hm, show t - (k + 1) = m by omega]; simp
   ·rw [if_neg h', if_neg (by omega)]
def a0z (H : Heap) : Prop := ∀ (id : Nat) blk, H[id]? = some (some blk) → ∀ a ∈ blk.flat, Ref (· < H.length) a
theorem a0h.intro {P : Program} {mu : Nat → Nat → Bool} {f : FuncId} {fn : Func} (hf : P.funcs[f]? = some fn) {ac : ACode} {rs : List ResV} {nt : Nat} (hc : fchk P mu fn = some (ac, rs, nt))
  {args : List AV} {H : Heap} {R : AV → Heap → Prop} (ha : args.length ≤ nt) (h : a0z H → Safe ⟨P, mu, f, nt, rs, H.length⟩ [.code ac] (b2o 0 args) H R) : a0h P f args H R := by
 unfold fchk at hc
 split at hc
 ·simp at hc
 ·rename_i hname
  split at hc
  ·rename_i c hb
   split at hc
   ·rename_i ac' rs' h1 h2
    cases hc
    refine ⟨⟨fn, hf, by simpa using hname, by simp [hb]⟩, fun φ w vs hok hl hr => ?_⟩
    intro cs
    let b : Frame := { (default : Frame) with fn := f, kind := .normal }
    have henter : Frame.enter P f vs.toArray .normal = b.at ⟨vs.toArray ++ Array.replicate (fn.ntmps - vs.toArray.size) undef, []⟩ [.code c] := by
     simp [Frame.enter, Frame.at, hf, hb, b]
    obtain ⟨v, w', fr, r, φ', H', q1, q2, q3, q4, q5, q6, q7, q8⟩ := h (fun id blk hl => hok.refs hl) φ w (vs.toArray ++ Array.replicate (fn.ntmps - vs.toArray.size) undef) b [.code c] cs
     ⟨fn, hf, h2⟩ (Nat.le_refl _) rfl rfl ⟨h1, trivial⟩ (by simp; omega) hok (by
      intro t
      rw [b4e]
      simp only [Nat.zero_le, if_true, Nat.sub_zero]
      rcases Nat.lt_or_ge t args.length with ht | ht
      ·rw [List.getElem?_eq_getElem ht, Option.getD_some]
       have : (vs.toArray ++ Array.replicate (fn.ntmps - vs.toArray.size) undef).getD t undef = vs[t]'(by omega) := by
        rw [Array.getD_eq_getD_getElem?, Array.getElem?_append_left (by simp; omega)]
        simp [List.getElem?_eq_getElem (show t < vs.length by omega)]
       rw [this]
       exact hr t _ _ (List.getElem?_eq_getElem (by omega)) (List.getElem?_eq_getElem ht)
      ·rw [List.getElem?_eq_none ht]; exact .top _)
    rw [← henter] at q6
    exact ⟨.returned v, w', fr, ⟨v, r, φ', H', rfl, q1, q2, q3, q4, q5⟩, q6, q7, q8⟩
   ·simp at hc
  ·simp at hc
end Go.Abs
namespace Go.Abs
theorem e3e (P : Program) (n0 : Nat) (K : Env → Heap → Prop) (env : Env) (H : Heap) : aops P n0 [] K env H = K env H := rfl
theorem e0k (P : Program) (n0 : Nat) (d : Option Nat) (o : AOp) (l : List AIns) (K : Env → Heap → Prop) (env : Env) (H : Heap) :
  aops P n0 (⟨d, none, o⟩ :: l) K env H = a3a P n0 o d (aops P n0 l K) env H := rfl
theorem e0j (P : Program) (n0 : Nat) (d : Option Nat) (t : Nat) (want : Bool) (o : AOp) (l : List AIns) (K : Env → Heap → Prop) (env : Env) (H : Heap) :
  aops P n0 (⟨d, some (t, want), o⟩ :: l) K env H = a9y want (look env t) fun c => if c = want then a3a P n0 o d (aops P n0 l K) env H else aops P n0 l K (put d (.tup []) env) H := rfl
theorem e6o (P : Program) (n0 : Nat) (o : POp) (d : Option Nat) (K : Env → Heap → Prop) (env : Env) (H : Heap) : a3a P n0 (.p o) d K env H = c1g (pv o env H) fun v => K (put d v env) H := rfl
theorem e6p (P : Program) (n0 : Nat) (o : EOp) (d : Option Nat) (K : Env → Heap → Prop) (env : Env) (H : Heap) : a3a P n0 (.e o) d K env H = b8Y (ev n0 o env H) fun v env' H' => K (put d v env') H' := rfl
def ares (K : Env → Heap → Prop) (d : Option Nat) (env : Env) : AV → Heap → Prop := fun r H' => K (put d r env) H'
theorem e6r (K : Env → Heap → Prop) (d : Option Nat) (env : Env) (r : AV) (H' : Heap) : ares K d env r H' = K (put d r env) H' := rfl
theorem d6F (P : Program) (n0 : Nat) (f : FuncId) (args : List Src) (d : Option Nat) (K : Env → Heap → Prop) (env : Env) (H : Heap) :
  a3a P n0 (.call f args) d K env H = a0h P f (args.map (·.ev env)) H (ares K d env) := rfl
def d0O (P : Program) (g : AV) (args : List AV) (H : Heap) (R : AV → Heap → Prop) : Prop := match g with
 | .fn f caps => a0h P f (args ++ caps) H R
 | .bfn f bs => a0h P f (bs ++ args) H R
 | _ => False
theorem d3d (P : Program) (n0 : Nat) (g : Src) (args : List Src) (d : Option Nat) (K : Env → Heap → Prop) (env : Env) (H : Heap) :
  a3a P n0 (.callv g args) d K env H = d0O P (g.ev env) (args.map (·.ev env)) H (ares K d env) := by
 simp only [a3a, d0O, ares]; cases g.ev env <;> rfl
theorem d9U (P : Program) (f : FuncId) (caps args : List AV) (H : Heap) (R : AV → Heap → Prop) : d0O P (.fn f caps) args H R = a0h P f (args ++ caps) H R := rfl
theorem d5s (v : AV) (k : AV → Prop) : c1g (some v) k = k v := rfl
theorem d5t (k : AV → Prop) : c1g none k = False := rfl
theorem c7m (v : AV) (e : Env) (h : Heap) (k : AV → Env → Heap → Prop) : b8Y (some (v, e, h)) k = k v e h := rfl
theorem d6t (k : AV → Env → Heap → Prop) : b8Y none k = False := rfl
theorem d2A (want b : Bool) (k : Bool → Prop) : a9y want (.bool b) k = k b := rfl
theorem d0w (want : Bool) (k : Bool → Prop) : a9y want (.tup []) k = k (!want) := rfl
theorem d6o (b : Bool) (k : Bool → Prop) : c1m (.bool b) k = k b := rfl
theorem e8i (env : Env) (n : Nat) : (Src.t n).ev env = look env n := rfl
theorem e8j (env : Env) (a : AV) : (Src.c a).ev env = a := rfl
theorem c4r (k : Nat) (v : AV) (r : Env) (t : Nat) : look ((k, v) :: r) t = if k = t then v else look r t := rfl
theorem e1T (t : Nat) : look [] t = .top := rfl
theorem e1m (d : Nat) (v : AV) (env : Env) : put (some d) v env = (d, v) :: env := rfl
theorem e1n (v : AV) (env : Env) : put none v env = env := rfl
theorem d9r (k : Nat) : b2o k [] = [] := rfl
theorem d6s (k : Nat) (a : AV) (aXs : List AV) : b2o k (a :: aXs) = (k, a) :: b2o (k + 1) aXs := rfl
@[congr] theorem e4S {x y : Option AV} {k : AV → Prop} (h : x = y) : c1g x k = c1g y k := by rw [h]
@[congr] theorem e5J {x y : Option (AV × Env × Heap)} {k : AV → Env → Heap → Prop} (h : x = y) : b8Y x k = b8Y y k := by rw [h]
@[congr] theorem e3z {want : Bool} {x y : AV} {k : Bool → Prop} (h : x = y) : a9y want x k = a9y want y k := by rw [h]
@[congr] theorem e5p {x y : AV} {k : Bool → Prop} (h : x = y) : c1m x k = c1m y k := by rw [h]
@[congr] theorem e6B {P : Program} {n0 : Nat} {l : List AIns} {K : Env → Heap → Prop} {env env' : Env} {H H' : Heap} (h : env = env') (h' : H = H') : aops P n0 l K env H = aops P n0 l K env' H' := by rw [h, h']
@[congr] theorem e6q {P : Program} {n0 : Nat} {o : AOp} {d : Option Nat} {K : Env → Heap → Prop} {env env' : Env} {H H' : Heap} (h : env = env') (h' : H = H') : a3a P n0 o d K env H = a3a P n0 o d K env' H' := by rw [h, h']
@[congr] theorem e6y {x : Cx} {todo : List AItem} {env env' : Env} {H H' : Heap} {R : AV → Heap → Prop} (h : env = env') (h' : H = H') : Safe x todo env H R = Safe x todo env' H' R := by rw [h, h']
@[congr] theorem e3I {P : Program} {f : FuncId} {aXs as' : List AV} {H H' : Heap} {R : AV → Heap → Prop} (h : aXs = as') (h' : H = H') : a0h P f aXs H R = a0h P f as' H' R := by rw [h, h']
@[congr] theorem e3F {P : Program} {g g' : AV} {aXs as' : List AV} {H H' : Heap} {R : AV → Heap → Prop} (h : g = g') (h2 : aXs = as') (h' : H = H') : d0O P g aXs H R = d0O P g' as' H' R := by rw [h, h2, h']
section
variable (env : Env) (H : Heap)
theorem e8m (a : Src) : pv (.mv a) env H = some (a.ev env) := rfl
def d7P (c a b : AV) : Option AV := match c with
 | .bool c => if c then some a else some b
 | _ => none
theorem e4B (c a b : Src) : pv (.pick c a b) env H = d7P (c.ev env) (a.ev env) (b.ev env) := by simp only [pv, d7P]; split <;> simp_all
theorem d5q (c : Bool) (a b : AV) : d7P (.bool c) a b = if c then some a else some b := rfl
theorem c9I (c d : Bool) : d7P (.bool c) (.bool d) (.bool false) = some (.bool (c && d)) := by cases c <;> rfl
theorem e1s (c d : Bool) : d7P (.bool c) (.bool true) (.bool d) = some (.bool (c || d)) := by cases c <;> rfl
theorem e7a (a : Src) : pv (.len a) env H = lenV H (a.ev env) := rfl
def lenS : AV → Option AV
 | .str s => some (.int .i64 s.size)
 | _ => none
theorem e4E (a : Src) : pv (.lens a) env H = lenS (a.ev env) := by simp only [pv, lenS]; split <;> simp_all
theorem d3R (s : ByteArray) : lenS (.str s) = some (.int .i64 s.size) := rfl
theorem e7d (op : BinOp) (a b : Src) : pv (.bin op a b) env H = binV op (a.ev env) (b.ev env) := rfl
def beqV (neg : Bool) (a b : AV) : Option AV := match a, b with
 | .bool x, .bool y => some (.bool (if neg then !(x == y) else (x == y)))
 | _, _ => none
theorem e7e (neg : Bool) (a b : Src) : pv (.beq neg a b) env H = beqV neg (a.ev env) (b.ev env) := by simp only [pv, beqV]; split <;> simp_all
theorem e7S (x y : Bool) : beqV false (.bool x) (.bool y) = some (.bool (x == y)) := rfl
theorem e7R (x y : Bool) : beqV true (.bool x) (.bool y) = some (.bool !(x == y)) := rfl
def unV (op : UnOp) (a : AV) : Option AV := match op, a with
 | .neg, .int k n => some (.int k (k.wrap (0 - n)))
 | .not, .bool b => some (.bool !b)
 | _, _ => none
theorem e8l (op : UnOp) (a : Src) : pv (.un op a) env H = unV op (a.ev env) := by simp only [pv, unV]; cases op <;> cases a.ev env <;> rfl
theorem e3R (k : IntKind) (n : Int) : unV .neg (.int k n) = some (.int k (k.wrap (0 - n))) := rfl
theorem e3Q (b : Bool) : unV .not (.bool b) = some (.bool !b) := rfl
def e5V (k : IntKind) (a : AV) : Option AV := match a with
 | .int _ n => some (.int k (k.wrap n))
 | _ => none
theorem e4I (k : IntKind) (a : Src) : pv (.conv k a) env H = e5V k (a.ev env) := by simp only [pv, e5V]; split <;> simp_all
theorem d9L (k k' : IntKind) (n : Int) : e5V k (.int k' n) = some (.int k (k.wrap n)) := rfl
def extV (a : AV) (i : Nat) : Option AV := match a with
 | .tup vs => vs[i]?
 | _ => none
theorem e7b (a : Src) (i : Nat) : pv (.ext a i) env H = extV (a.ev env) i := by simp only [pv, extV]; split <;> simp_all
theorem e2q (vs : List AV) (i : Nat) : extV (.tup vs) i = vs[i]? := rfl
def fldV (a : AV) (off : Nat) : Option AV := match a with
 | .ro x o => some (.ro x (o + off))
 | .loc id i o => if (hrow H id).isSome then some (.loc id i (o + off)) else none
 | _ => none
theorem e4H (a : Src) (off : Nat) : pv (.fldp a off) env H = fldV H (a.ev env) off := by simp only [pv, fldV]; split <;> simp_all
theorem e5y (x : AV) (o off : Nat) : fldV H (.ro x o) off = some (.ro x (o + off)) := rfl
theorem e2k (id i o off : Nat) : fldV H (.loc id i o) off = if (hrow H id).isSome then some (.loc id i (o + off)) else none := rfl
theorem e4G (wd : Nat) (a i : Src) : pv (.idxp wd a i) env H = idxV H wd (a.ev env) (i.ev env) := rfl
def idxS (a i : AV) : Option AV := match a, i with
 | .str s, .int _ i => if 0 ≤ i ∧ i < s.size then some (.int .u8 (s.data.toList.getD i.toNat 0).toNat) else none
 | _, _ => none
theorem e4F (a i : Src) : pv (.idxs a i) env H = idxS (a.ev env) (i.ev env) := by simp only [pv, idxS]; split <;> simp_all
theorem d3V (s : ByteArray) (k : IntKind) (i : Int) : idxS (.str s) (.int k i) = if 0 ≤ i ∧ i < s.size then some (.int .u8 (s.data.toList.getD i.toNat 0).toNat) else none := rfl
theorem e4D (n : Option Nat) (a : Src) : pv (.load n a) env H = c4s H n (a.ev env) := rfl
theorem e6Y (wd : Nat) (x : Src) (lo hi mx : Option Src) : pv (.slc wd x lo hi mx) env H = slcV H wd (x.ev env) (lo.map (·.ev env)) (hi.map (·.ev env)) (mx.map (·.ev env)) := rfl
theorem e4A (x : Src) (lo hi : Option Src) : pv (.slcs x lo hi) env H = slcS (x.ev env) (lo.map (·.ev env)) (hi.map (·.ev env)) := rfl
theorem e7c (z : List AV) (ps : List (Nat × Nat × Src)) : pv (.bld z ps) env H = (bldV env z ps).map .agg := rfl
theorem d1J (f : FuncId) (bs : List Src) : pv (.mkbf f bs) env H = some (.bfn f (bs.map (·.ev env))) := rfl
theorem e4C (f : FuncId) (caps : List Src) : pv (.mkfn f caps) env H = some (.fn f (caps.map (·.ev env))) := rfl
theorem e6Z (mx : Bool) (a b : Src) : pv (.mnx mx a b) env H = mnxV mx (a.ev env) (b.ev env) := rfl
theorem d3N (mx : Bool) (k k' : IntKind) (x y : Int) : mnxV mx (.int k x) (.int k' y) = some (.int k (if mx then (if y > x then y else x) else (if y < x then y else x))) := rfl
theorem e7f (a : Src) : pv (.b2s a) env H = b2sV H (a.ev env) := rfl
theorem e3b (xs : List AV) : b2sV H (.sl 1 xs) = strB xs := rfl
theorem e6n (id off len : Nat) (oc : Option Nat) : b2sV H (.mu id off len oc) = (hrow H id).bind fun b => if b.wd = 1 ∧ off + len ≤ b.xs.length then strB ((b.xs.drop off).take len) else none := rfl
theorem c8g (wd : Nat) (xs : List AV) : lenV H (.sl wd xs) = some (.int .i64 xs.length) := rfl
theorem e1V : lenV H .nil = some (.int .i64 0) := rfl
theorem c8h (id off len : Nat) (oc : Option Nat) : lenV H (.mu id off len oc) = if (hrow H id).isSome then some (.int .i64 len) else none := rfl
theorem e2Q (k k' : IntKind) (x y : Int) : binV .shl (.int k x) (.int k' y) = b2n .shl k x y := rfl
theorem e2P (k k' : IntKind) (x y : Int) : binV .shr (.int k x) (.int k' y) = b2n .shr k x y := rfl
theorem d4t (k : IntKind) (x y : Int) : binV .add (.int k x) (.int k y) = some (.int k (k.wrap (x + y))) := by simp [binV, a6J]
theorem e2O (k : IntKind) (x y : Int) : binV .sub (.int k x) (.int k y) = some (.int k (k.wrap (x - y))) := by simp [binV, a6J]
theorem e2S (k : IntKind) (x y : Int) : binV .mul (.int k x) (.int k y) = some (.int k (k.wrap (x * y))) := by simp [binV, a6J]
theorem c2a (k : IntKind) (x y : Int) (h : y ≠ 0) : binV .quo (.int k x) (.int k y) = some (.int k (k.wrap (x.tdiv y))) := by simp [binV, a6J, h]
theorem c1Z (k : IntKind) (x y : Int) (h : y ≠ 0) : binV .rem (.int k x) (.int k y) = some (.int k (x.tmod y)) := by simp [binV, a6J, h]
theorem e6l (k : IntKind) (x y : Int) : binV .or (.int k x) (.int k y) = some (.int k (k.wrap (BitVec.ofInt k.bits x ||| BitVec.ofInt k.bits y).toNat)) := by simp [binV, a6J]
theorem e2Y (k : IntKind) (x y : Int) : binV .and (.int k x) (.int k y) = some (.int k (k.wrap (BitVec.ofInt k.bits x &&& BitVec.ofInt k.bits y).toNat)) := by simp [binV, a6J]
theorem e2N (k : IntKind) (x y : Int) : binV .xor (.int k x) (.int k y) = some (.int k (k.wrap (BitVec.ofInt k.bits x ^^^ BitVec.ofInt k.bits y).toNat)) := by simp [binV, a6J]
theorem e2X (k : IntKind) (x y : Int) : binV .eql (.int k x) (.int k y) = some (.bool (decide (x = y))) := by simp [binV, a6J]; rfl
theorem e2R (k : IntKind) (x y : Int) : binV .neq (.int k x) (.int k y) = some (.bool (decide (x ≠ y))) := by
 simp only [binV, a6J, if_true]; congr 2; by_cases h : x = y <;> simp [h]
theorem e2T (k : IntKind) (x y : Int) : binV .lss (.int k x) (.int k y) = some (.bool (decide (x < y))) := by simp [binV, a6J]
theorem e2U (k : IntKind) (x y : Int) : binV .leq (.int k x) (.int k y) = some (.bool (decide (x ≤ y))) := by simp [binV, a6J]
theorem e2V (k : IntKind) (x y : Int) : binV .gtr (.int k x) (.int k y) = some (.bool (decide (y < x))) := by simp [binV, a6J]
theorem e2W (k : IntKind) (x y : Int) : binV .geq (.int k x) (.int k y) = some (.bool (decide (y ≤ x))) := by simp [binV, a6J]
theorem e0a (x y : ByteArray) (h : x.size + y.size ≤ 9223372036854775807) : binV .add (.str x) (.str y) = some (.str (x ++ y)) := by
 simp only [binV]; rw [if_neg]; have : IntKind.i64.max = 9223372036854775807 := rfl; rw [this]; omega
theorem d0Y (x y : ByteArray) : binV .eql (.str x) (.str y) = some (.bool (x.toList == y.toList)) := rfl
theorem d0X (x y : ByteArray) : binV .neq (.str x) (.str y) = some (.bool !(x.toList == y.toList)) := rfl
theorem d7w (k : IntKind) (x y : Int) (h : 0 ≤ y) : b2n .shl k x y = some (.int k (k.wrap (x * 2 ^ (min y.toNat k.bits)))) := by simp [b2n, show ¬ y < 0 by omega]
theorem a6h (k : IntKind) (x y : Int) (h : 0 ≤ y) : b2n .shr k x y = some (.int k (x.fdiv (2 ^ (min y.toNat k.bits)))) := by simp [b2n, show ¬ y < 0 by omega]
theorem d8Q (wd : Nat) (xs : List AV) (k : IntKind) (i : Int) (h0 : 0 ≤ i) (h1 : i < xs.length) : idxV H wd (.sl wd xs) (.int k i) = some (.ro (xs.getD i.toNat .top) 0) := by simp [idxV, h0, h1]
theorem c8r (wd id off len : Nat) (oc : Option Nat) (k : IntKind) (i : Int) (h0 : 0 ≤ i) (h1 : i < len) :
  idxV H wd (.mu id off len oc) (.int k i) = (hrow H id).bind fun b => if b.wd = wd then some (.loc id (off + i.toNat) 0) else none := by simp [idxV, h0, h1]
theorem d8s (n : Option Nat) (p : AV) : c4s H n p = (atV H p).bind fun cs => match n with
  | none => cs[0]?
  | some n => if n ≤ cs.length then some (.agg (cs.take n)) else none := rfl
theorem e7W (x : AV) (off : Nat) : atV H (.ro x off) = some (x.cells.drop off) := rfl
theorem b3U (id i off : Nat) : atV H (.loc id i off) = (hrow H id).bind fun b => if i < b.xs.length then some ((b.xs.getD i .top).cells.drop off) else none := rfl
end
theorem d9T (cs : List AV) : (AV.agg cs).cells = cs := rfl
theorem d9S (k : IntKind) (n : Int) : (AV.int k n).cells = [.int k n] := rfl
theorem d6A (b : Bool) : (AV.bool b).cells = [.bool b] := rfl
theorem d9O (s : ByteArray) : (AV.str s).cells = [.str s] := rfl
theorem d9Q : AV.nil.cells = [.nil] := rfl
theorem d9R (v : Value) : (AV.lit v).cells = [.lit v] := rfl
theorem e2D (wd : Nat) (xs : List AV) : (AV.sl wd xs).cells = [.sl wd xs] := rfl
theorem d4m (id off len : Nat) (oc : Option Nat) : (AV.mu id off len oc).cells = [.mu id off len oc] := rfl
theorem d0N (id i off : Nat) : (AV.loc id i off).cells = [.loc id i off] := rfl
theorem e2F (f : FuncId) (cs : List AV) : (AV.fn f cs).cells = [.fn f cs] := rfl
def hap (H L : Heap) : Heap := H ++ L
def lid (H : Heap) (i : Nat) : Nat := H.length + i
theorem a1Y (H : Heap) : hap H [] = H := List.append_nil H
theorem a0Q (H L : Heap) (i : Nat) : hrow (hap H L) (lid H i) = (L[i]?).join := by unfold hrow hap lid; rw [List.getElem?_append_right (by omega), Nat.add_sub_cancel_left]
theorem c8s (H L : Heap) (id : Nat) (h : id < H.length) : hrow (hap H L) id = hrow H id := by simp [hrow, hap, List.getElem?_append_left h]
theorem b8M (H L : Heap) : (hap H L).length = lid H L.length := by simp [hap, lid]
theorem a2Q (H L : Heap) (i : Nat) (x : Option Blk) : (hap H L).set (lid H i) x = hap H (L.set i x) := by simp [hap, lid]
theorem b9k (H L M : Heap) : hap H L ++ M = hap H (L ++ M) := by simp [hap]
theorem a5g (H : Heap) (i : Nat) : H.length ≤ lid H i := by simp [lid]
theorem e7u (H : Heap) (i j : Nat) : (lid H i = lid H j) = (i = j) := by simp [lid]
theorem d6E {α β : Type} (a : α) (f : α → Option β) : (some a).bind f = f a := rfl
theorem join_some {α : Type} (a : Option α) : (some a).join = a := rfl
theorem Safe.weaken {x : Cx} {todo : List AItem} {env env' : Env} {H : Heap} {R : AV → Heap → Prop} (he : ∀ t, look env' t = look env t ∨ look env' t = .top) (h : Safe x todo env' H R) : Safe x todo env H R := by
 intro φ w tmps b k cs hg hn hb hk ht hsz hok hr
 refine h φ w tmps b k cs hg hn hb hk ht hsz hok (fun t => ?_)
 rcases he t with e | e
 ·rw [e]; exact hr t
 ·rw [e]; exact .top _
def keep (env : Env) (ts : List Nat) : Env := ts.map fun t => (t, look env t)
theorem c4q (env : Env) (ts : List Nat) (t : Nat) : look (keep env ts) t = look env t ∨ look (keep env ts) t = .top := by
 induction ts with
 | nil => exact .inr rfl
 | cons a ts ih =>
  simp only [keep, List.map_cons, look]
  split
  ·rename_i h; subst h; exact .inl rfl
  ·exact ih
theorem Safe.keep (ts : List Nat) {x : Cx} {todo : List AItem} {env : Env} {H : Heap} {R : AV → Heap → Prop} (h : Safe x todo (keep env ts) H R) : Safe x todo env H R := Safe.weaken (c4q env ts) h
theorem e1W (env : Env) : keep env [] = [] := rfl
theorem d8B (env : Env) (t : Nat) (ts : List Nat) : keep env (t :: ts) = (t, look env t) :: keep env ts := rfl
theorem Safe.mono {x : Cx} {todo : List AItem} {env : Env} {H : Heap} {R R' : AV → Heap → Prop} (h : Safe x todo env H R) (hr : ∀ r H', R r H' → R' r H') : Safe x todo env H R' := by
 intro φ w tmps b k cs hg hn hb hk ht hsz hok he
 obtain ⟨v, w', fr, r, φ', H', q1, q⟩ := h φ w tmps b k cs hg hn hb hk ht hsz hok he
 exact ⟨v, w', fr, r, φ', H', hr _ _ q1, q⟩
end Go.Abs
namespace Go.Abs
def a2y (e e' : Env) : Prop := ∀ t, look e t = look e' t
theorem a2y.refl (e : Env) : a2y e e := fun _ => rfl
theorem a2y.symm {e e' : Env} (h : a2y e e') : a2y e' e := fun t => (h t).symm
theorem a2y.trans {a b c : Env} (h : a2y a b) (k : a2y b c) : a2y a c := fun t => (h t).trans (k t)
theorem a0p {s : Src} {e e' : Env} (h : ∀ t ∈ s.tmps, look e t = look e' t) : s.ev e = s.ev e' := by
 cases s with
 | t n => exact h n (by simp [Src.tmps])
 | c a => rfl
theorem b0t {ss : List Src} {e e' : Env} (h : ∀ t ∈ ss.flatMap Src.tmps, look e t = look e' t) : ss.map (·.ev e) = ss.map (·.ev e') :=
 List.map_congr_left fun s hs => a0p fun t ht => h t (List.mem_flatMap.2 ⟨s, hs, ht⟩)
theorem b3K {s : Option Src} {e e' : Env} (h : ∀ t ∈ d5u s, look e t = look e' t) : s.map (·.ev e) = s.map (·.ev e') := by
 cases s with
 | none => rfl
 | some s => simp only [Option.map_some]; rw [a0p (s := s) h]
theorem d0U {e e' : Env} : ∀ (ps : List (Nat × Nat × Src)) (cs : List AV), (∀ t ∈ ps.flatMap (fun p => p.2.2.tmps), look e t = look e' t) → bldV e cs ps = bldV e' cs ps
 | [], cs, h => rfl
 | (off, n, s) :: ps, cs, h => by
  have hs : s.ev e = s.ev e' := a0p fun t ht => h t (by simp [ht])
  simp only [bldV, hs]
  split
  ·exact d0U ps _ fun t ht => h t (by simp only [List.flatMap_cons, List.mem_append]; exact .inr ht)
  ·rfl
theorem c1H {o : POp} {e e' : Env} {H : Heap} (h : ∀ t ∈ o.reads, look e t = look e' t) : pv o e H = pv o e' H := by
 cases o <;> simp only [POp.reads, List.mem_append] at h <;> simp only [pv]
 case mv a => rw [a0p h]
 case pick c a b => rw [a0p (s := c) fun t ht => h t (.inl ht), a0p (s := a) fun t ht => h t (.inr (.inl ht)), a0p (s := b) fun t ht => h t (.inr (.inr ht))]
 case lens a => rw [a0p h]
 case len a => rw [a0p h]
 case bin op a b => rw [a0p (s := a) fun t ht => h t (.inl ht), a0p (s := b) fun t ht => h t (.inr ht)]
 case beq n a b => rw [a0p (s := a) fun t ht => h t (.inl ht), a0p (s := b) fun t ht => h t (.inr ht)]
 case un op a => rw [a0p h]
 case conv k a => rw [a0p h]
 case ext a i => rw [a0p h]
 case fldp a off => rw [a0p h]
 case idxp wd a b => rw [a0p (s := a) fun t ht => h t (.inl ht), a0p (s := b) fun t ht => h t (.inr ht)]
 case idxs a b => rw [a0p (s := a) fun t ht => h t (.inl ht), a0p (s := b) fun t ht => h t (.inr ht)]
 case load n a => rw [a0p h]
 case slc wd x lo hi mx => rw [a0p (s := x) fun t ht => h t (.inl ht), b3K (s := lo) fun t ht => h t (.inr (.inl ht)), b3K (s := hi) fun t ht => h t (.inr (.inr (.inl ht))), b3K (s := mx) fun t ht => h t (.inr (.inr (.inr ht)))]
 case slcs x lo hi => rw [a0p (s := x) fun t ht => h t (.inl ht), b3K (s := lo) fun t ht => h t (.inr (.inl ht)), b3K (s := hi) fun t ht => h t (.inr (.inr ht))]
 case bld z ps => rw [d0U ps z h]
 case mkfn f cs => rw [b0t h]
 case mkbf f cs => rw [b0t h]
 case mnx mx a b => rw [a0p (s := a) fun t ht => h t (.inl ht), a0p (s := b) fun t ht => h t (.inr ht)]
 case b2s a => rw [a0p h]
 case mlook a b => rw [a0p (s := a) fun t ht => h t (.inl ht), a0p (s := b) fun t ht => h t (.inr ht)]
 case ment a => rw [a0p h]
 case smap q a b => rw [a0p (s := a) fun t ht => h t (.inl ht), a0p (s := b) fun t ht => h t (.inr ht)]
 case isn p q a => rw [a0p h]
inductive St (P : Program) (n0 : Nat) : AIns → Env → Heap → Env → Heap → Prop where
 | skip {d t want o e H} (h : NotW (look e t) want) : St P n0 ⟨d, some (t, want), o⟩ e H (put d (.tup []) e) H
 | pure {d g o e H v} (hg : ∀ t want, g = some (t, want) → look e t = .bool want) (h : pv o e H = some v) : St P n0 ⟨d, g, .p o⟩ e H (put d v e) H
 | bsl {d g wd ps e H v} (hg : ∀ t want, g = some (t, want) → look e t = .bool want) (h : ev n0 (.bsl wd ps) e H = some (v, e, H)) : St P n0 ⟨d, g, .e (.bsl wd ps)⟩ e H (put d v e) H
 | call {d g f aXs e H r} (hg : ∀ t want, g = some (t, want) → look e t = .bool want) (h : ∀ L, a0h P f (aXs.map (·.ev e)) (H ++ L) fun r' H' => r' = r ∧ H' = H ++ L) : St P n0 ⟨d, g, .call f aXs⟩ e H (put d r e) H
 | callv {d g s aXs e H r f caps} (hg : ∀ t want, g = some (t, want) → look e t = .bool want) (hs : s.ev e = .fn f caps) (h : ∀ L, a0h P f (aXs.map (·.ev e) ++ caps) (H ++ L) fun r' H' => r' = r ∧ H' = H ++ L) : St P n0 ⟨d, g, .callv s aXs⟩ e H (put d r e) H
 | gcall {d g f aXs e H r L} (hg : ∀ t want, g = some (t, want) → look e t = .bool want) (h : a0h P f (aXs.map (·.ev e)) H fun r' H' => r' = r ∧ H' = H ++ L) : St P n0 ⟨d, g, .gcall f aXs⟩ e H (put d r e) (H ++ L)
 | gcallv {d g s aXs e H r L f caps} (hg : ∀ t want, g = some (t, want) → look e t = .bool want) (hs : s.ev e = .fn f caps) (h : a0h P f (aXs.map (·.ev e) ++ caps) H fun r' H' => r' = r ∧ H' = H ++ L) : St P n0 ⟨d, g, .gcallv s aXs⟩ e H (put d r e) (H ++ L)
 | eff {d g o e H v e' H'} (hg : ∀ t want, g = some (t, want) → look e t = .bool want) (h : ev n0 o e H = some (v, e', H')) (hn : ∀ wd ps, o ≠ .bsl wd ps) : St P n0 ⟨d, g, .e o⟩ e H (put d v e') H'
inductive Sts (P : Program) (n0 : Nat) : List AIns → Env → Heap → Env → Heap → Prop where
 | nil {e H} : Sts P n0 [] e H e H
 | cons {i l e H e1 H1 e2 H2} (h : St P n0 i e H e1 H1) (t : Sts P n0 l e1 H1 e2 H2) : Sts P n0 (i :: l) e H e2 H2
theorem a1K (d : Option Nat) (v : AV) (e : Env) (t : Nat) : look (put d v e) t = if d = some t then v else look e t := by
 cases d with
 | none => simp [put]
 | some d =>
  simp only [put, look, Option.some.injEq]
theorem b9W {d : Option Nat} {v : AV} {e e' : Env} (h : a2y e e') : a2y (put d v e) (put d v e') := fun t => by rw [a1K, a1K, h t]
theorem d3E {id : Nat} {e e' : Env} (h : a2y e e') : a2y (scrub id e) (scrub id e') := fun t => by rw [a3f, a3f, h t]
theorem e7I {n0 : Nat} {o : EOp} {e e' : Env} {H : Heap} (h : a2y e e') {v : AV} {e1 : Env} {H1 : Heap} (he : ev n0 o e H = some (v, e1, H1)) : ∃ e2, ev n0 o e' H = some (v, e2, H1) ∧ a2y e1 e2 := by
 have hs : ∀ s : Src, s.ev e = s.ev e' := fun s => a0p fun t _ => h t
 have hm : ∀ ss : List Src, ss.map (·.ev e) = ss.map (·.ev e') := fun ss => List.map_congr_left fun s _ => hs s
 cases o with
 | store n a v' =>
  simp only [ev, hs] at he ⊢
  split at he
  ·rename_i id i off heq
   simp only [Option.bind_eq_some_iff] at he ⊢
   obtain ⟨b, hb, he⟩ := he
   split at he
   ·rename_i hc; cases he; exact ⟨e', ⟨b, hb, by rw [if_pos hc]⟩, h⟩
   ·simp at he
  ·simp at he
 | box n v' =>
  simp only [ev, hs] at he ⊢
  split at he
  ·rename_i hc; cases he; exact ⟨e', by rw [if_pos hc], h⟩
  ·simp at he
 | bsl wd ps =>
  simp only [ev, hs, hm] at he ⊢
  split at he
  ·rename_i hc; cases he; exact ⟨e', by rw [if_pos hc], h⟩
  ·simp at he
 | bslm wd ps =>
  simp only [ev, hs, hm] at he ⊢
  split at he
  ·rename_i hc; cases he; exact ⟨e', by rw [if_pos hc], h⟩
  ·simp at he
 | mksl wd bytes z l c =>
  simp only [ev, hs] at he ⊢
  split at he
  ·rename_i kl l' kc c' heq1 heq2
   split at he
   ·rename_i hc; cases he; exact ⟨e', by rw [if_pos hc], h⟩
   ·simp at he
  ·simp at he
 | app wd bytes str a b =>
  simp only [ev, hs, Option.bind_eq_some_iff] at he ⊢
  obtain ⟨ys, hy, he⟩ := he
  split at he
  ·rename_i heq
   split at he
   ·rename_i hc; cases he; exact ⟨e', ⟨ys, hy, by rw [if_pos hc]⟩, h⟩
   ·simp at he
  ·rename_i id off len oc heq
   simp only [Option.bind_eq_some_iff] at he
   obtain ⟨r, hr, he⟩ := he
   split at he
   ·rename_i hc; cases he
    refine ⟨e', ⟨ys, hy, ?_⟩, h⟩
    simp only [Option.bind_eq_some_iff]
    exact ⟨r, hr, by rw [if_pos hc]⟩
   split at he
   ·rename_i hn hc; cases he
    refine ⟨scrub id e', ⟨ys, hy, ?_⟩, d3E h⟩
    simp only [Option.bind_eq_some_iff]
    exact ⟨r, hr, by rw [if_neg hn, if_pos hc]⟩
   split at he
   ·rename_i hn hn2 hc; cases he
    refine ⟨e', ⟨ys, hy, ?_⟩, h⟩
    simp only [Option.bind_eq_some_iff]
    exact ⟨r, hr, by rw [if_neg hn, if_neg hn2, if_pos hc]⟩
   split at he
   ·rename_i hn hn2 hn3 hc; cases he
    refine ⟨scrub id e', ⟨ys, hy, ?_⟩, d3E h⟩
    simp only [Option.bind_eq_some_iff]
    exact ⟨r, hr, by rw [if_neg hn, if_neg hn2, if_neg hn3, if_pos hc]⟩
   ·simp at he
  ·simp at he
 | cpy wd a b =>
  simp only [ev, hs, Option.bind_eq_some_iff] at he ⊢
  obtain ⟨ys, hy, he⟩ := he
  split at he
  ·rename_i id off len oc heq
   simp only [Option.bind_eq_some_iff] at he
   obtain ⟨r, hr, he⟩ := he
   split at he
   ·rename_i hc; cases he
    refine ⟨e', ⟨ys, hy, ?_⟩, h⟩
    simp only [Option.bind_eq_some_iff]
    exact ⟨r, hr, by rw [if_pos hc]⟩
   ·simp at he
  ·simp at he
 | mkmap => simp only [ev] at he ⊢; cases he; exact ⟨e', rfl, h⟩
 | mset m k v' =>
  simp only [ev, hs] at he ⊢
  split at he
  ·rename_i id x y heq1 heq2 heq3
   simp only [Option.bind_eq_some_iff] at he
   obtain ⟨L, hL, he⟩ := he
   split at he
   ·rename_i hc; cases he
    refine ⟨e', ?_, h⟩
    simp only [Option.bind_eq_some_iff]
    exact ⟨L, hL, by rw [if_pos hc]⟩
   ·cases he
  ·cases he
 | mrng m =>
  simp only [ev, hs] at he ⊢
  split at he
  ·rename_i id heq1
   simp only [Option.bind_eq_some_iff] at he
   obtain ⟨L, hL, he⟩ := he
   cases he
   refine ⟨e', ?_, h⟩
   simp only [Option.bind_eq_some_iff]
   exact ⟨L, hL, rfl⟩
  ·cases he
 | smut q m k v' =>
  simp only [ev, hs] at he ⊢
  unfold b6A at he ⊢
  split at he
  ·cases he; exact ⟨e', rfl, h⟩
  ·split at he
   ·cases he; exact ⟨e', rfl, h⟩
   ·cases he
  ·split at he
   ·split at he
    ·rename_i hc; cases he
     exact ⟨e', by rw [if_pos hc], h⟩
    ·cases he
   ·cases he
  ·split at he
   ·cases he; exact ⟨e', rfl, h⟩
   ·cases he
  ·cases he
theorem St.eqv {P : Program} {n0 : Nat} {i : AIns} {e e' : Env} {H : Heap} {e1 : Env} {H1 : Heap} (s : St P n0 i e H e1 H1) (h : a2y e e') : ∃ e2, St P n0 i e' H e2 H1 ∧ a2y e1 e2 := by
 have hs : ∀ s : Src, s.ev e = s.ev e' := fun s => a0p fun t _ => h t
 have hm : ∀ ss : List Src, ss.map (·.ev e) = ss.map (·.ev e') := fun ss => List.map_congr_left fun s _ => hs s
 cases s with
 | skip hl => exact ⟨_, .skip (by rw [← h]; exact hl), b9W h⟩
 | pure hg hp => exact ⟨_, .pure (fun t w hw => by rw [← h]; exact hg t w hw) (by rw [← c1H (fun t _ => h t)]; exact hp), b9W h⟩
 | bsl hg hp =>
  obtain ⟨e2, q1, q2⟩ := e7I h hp
  have : e2 = e' := by
   simp only [ev] at q1
   split at q1
   ·cases q1; rfl
   ·simp at q1
  subst this
  exact ⟨_, .bsl (fun t w hw => by rw [← h]; exact hg t w hw) q1, b9W h⟩
 | call hg hp => exact ⟨_, .call (fun t w hw => by rw [← h]; exact hg t w hw) (by rw [← hm]; exact hp), b9W h⟩
 | callv hg hf hp => exact ⟨_, .callv (fun t w hw => by rw [← h]; exact hg t w hw) (by rw [← hs]; exact hf) (by rw [← hm]; exact hp), b9W h⟩
 | gcall hg hp => exact ⟨_, .gcall (fun t w hw => by rw [← h]; exact hg t w hw) (by rw [← hm]; exact hp), b9W h⟩
 | gcallv hg hf hp => exact ⟨_, .gcallv (fun t w hw => by rw [← h]; exact hg t w hw) (by rw [← hs]; exact hf) (by rw [← hm]; exact hp), b9W h⟩
 | eff hg hp hn =>
  obtain ⟨e2, q1, q2⟩ := e7I h hp
  exact ⟨_, .eff (fun t w hw => by rw [← h]; exact hg t w hw) q1 hn, b9W q2⟩
theorem Sts.eqv {P : Program} {n0 : Nat} {l : List AIns} {e : Env} {H : Heap} {e1 : Env} {H1 : Heap} (s : Sts P n0 l e H e1 H1) : ∀ {e' : Env}, a2y e e' → ∃ e2, Sts P n0 l e' H e2 H1 ∧ a2y e1 e2 := by
 induction s with
 | nil => exact fun h => ⟨_, .nil, h⟩
 | cons st _ ih =>
  intro e' h
  obtain ⟨e2, q1, q2⟩ := st.eqv h
  obtain ⟨e3, r1, r2⟩ := ih q2
  exact ⟨e3, .cons q1 r1, r2⟩
end Go.Abs

/- Part 2 of the proof of WholeDual: A8, A9, A10, A11, A12, A20, A13. -/
import Derived.Test.YtidemmcbjiccfaaWholeDualK1
set_option linter.unusedVariables false
set_option linter.unusedSimpArgs false
namespace Go.Abs
section
variable {P : Program} {E : Emb} {env : Env} {tmps : Array Value}
theorem d0r (hok : HOk E) {v : Value} {id : Nat} (hr : Rep E v (.mp true id)) {L : List (Int × Int)} (h : b1Q E.H (.mp true id) = some L) :
  ∃ b, v = .map (some b) ∧ E.w.heap[b]? = some (.map (a6o L) L.length) ∧ E.H[id]? = some (some ⟨0, [.mo L]⟩) ∧ E.φ id = some b := by
 unfold b1Q at h
 simp only at h
 split at h
 ·rename_i L' hrw
  cases h
  have hl := a1h hrw
  cases hr with
  | mp blk _ _ b hlive hb hw =>
   rw [hl] at hlive; cases hlive
   rcases hok.obj id _ b hl rfl hb with ⟨L', q1, q2⟩ | ⟨_, _, _, _, q1, _⟩
   ·simp at q1; subst q1; exact ⟨b, rfl, q2, hl, hb⟩
   ·simp at q1
  | dead v a id' hr hd h1 => simp [AV.ref] at hr; subst hr; rw [hl] at hd; cases hd
 ·cases h
theorem e3i (L : List (Int × Int)) (x y : Int) : ∀ i, mapE i (L ++ [(x, y)]) = mapE i L ++ [{ key := .int .i64 x, val := .int .i64 y, born := i + L.length }] := by
 induction L with
 | nil => intro i; rfl
 | cons p L ih => intro i; simp only [List.cons_append, mapE, ih]; simp; omega
theorem e8I {t : TypeId} (ht : mapT P t = true) {w : World} {b : Nat} {L : List (Int × Int)} (hb : w.heap[b]? = some (.map (a6o L) L.length)) {x : Int} (hx : mget L x = none) (y : Int) :
  (Instr.mapUpdate t (.map (some b)) (.int .i64 x) (.int .i64 y)).run P w = .ok () { w with heap := w.heap.setIfInBounds b (.map (a6o (L ++ [(x, y)])) (L ++ [(x, y)]).length) } := by
 obtain ⟨kt, vt, i, h1, h2, h3, h4, h5⟩ := d1W ht
 obtain ⟨r, q1, q2⟩ := d2k .i64 x L 0 0
 have hr : r = none := by cases r <;> simp [hx] at q2 ⊢
 subst hr
 unfold Instr.mapUpdate
 simp only [Sem.run_bind, run_underlying h1, Result.andThen_ok, a3t hb, Sem.run_pure, c3v h2, Instr.findKey, run_underlying h2]
 rw [show (Instr.findNow (.int .i64) (.int .i64 x) (a6o L).toList 0) = some none from by simpa [a6o] using q1]
 simp only [Sem.run_pure, Result.andThen_ok, d3l _ hb]
 simp [a6o, e3i]
theorem e0V {n0 : Nat} (hn : n0 ≤ E.H.length) (hok : HOk E) (he : a0B E env tmps) (t : TypeId) :
  Left P n0 E tmps (do pure (Next.value (← Instr.makeMap t none))) (.mp true E.H.length) env (E.H ++ [some ⟨0, [.mo []]⟩]) := by
 have hob : (E.w.alloc (.map #[] 0)).heap[E.w.heap.size]? = some (.map #[] 0) := heap_alloc_new ..
 obtain ⟨h1, h2⟩ := hok.oalloc (w := E.w.alloc (.map #[] 0)) rfl rfl rfl (by simp) E.w.heap.size (Nat.le_refl _) (a2n _ _) [.mo []] (.inl ⟨[], rfl, hob⟩)
 refine ⟨_, _, _, .map (some E.w.heap.size), a3d (by simp [Instr.makeMap, run_newObj_alloc]), .inl rfl, h1, ?_, he.mono h2, h2.sub (fun i hi => Nat.lt_of_lt_of_le hi hn)⟩
 exact .mp ⟨0, [.mo []]⟩ true _ E.w.heap.size (by simp) (by simp) rfl
theorem e3b {n0 : Nat} (hn : n0 ≤ E.H.length) (hok : HOk E) (he : a0B E env tmps) {t : TypeId} (ht : mapT P t = true) {v : Value} {id : Nat} (hr : Rep E v (.mp true id)) {L : List (Int × Int)} (h : b1Q E.H (.mp true id) = some L) :
  Left P n0 E tmps (do pure (Next.value (← Instr.range t v))) (.mp false E.H.length) env (E.H ++ [some ⟨0, [.io id L.length []]⟩]) := by
 obtain ⟨b, rfl, hb, hz, hφ⟩ := d0r hok hr h
 obtain ⟨kt, vt, i, h1, h2, h3, h4, h5⟩ := d1W ht
 have hid : id < E.H.length := by have := hr.ref; cases this; assumption
 have hob : (E.w.alloc (.mapIter (some b) L.length #[] L.length)).heap[E.w.heap.size]? = some (.mapIter (some b) L.length #[] L.length) := heap_alloc_new ..
 obtain ⟨q1, q2⟩ := hok.oalloc (w := E.w.alloc (.mapIter (some b) L.length #[] L.length)) rfl rfl rfl (by simp) E.w.heap.size (Nat.le_refl _) (a2n _ _) [.io id L.length []]
  (.inr ⟨id, L.length, [], b, rfl, hob, hid, fun blk hl => by
   simp only [a2M] at hl ⊢
   have hne : id ≠ E.H.length := by omega
   simp only [hne, if_false] at hl ⊢
   rw [hz] at hl; cases hl; exact ⟨rfl, hφ⟩⟩)
 refine ⟨_, _, _, .pointer (some ⟨E.w.heap.size, 0, none⟩), a3d ?_, .inl rfl, q1, ?_, he.mono q2, q2.sub (fun i hi => Nat.lt_of_lt_of_le hi hn)⟩
 ·unfold Instr.range
  simp only [Sem.run_bind, run_underlying h1, Result.andThen_ok, a3t hb, Sem.run_pure, run_newObj_alloc]
 ·exact .mp ⟨0, [.io id L.length []]⟩ false _ E.w.heap.size (by simp) (by simp) rfl
theorem e3a {n0 : Nat} (hn : n0 ≤ E.H.length) (hok : HOk E) (he : a0B E env tmps) {t : TypeId} (ht : mapT P t = true) {v : Value} {id : Nat} (hr : Rep E v (.mp true id)) {L : List (Int × Int)} (h : b1Q E.H (.mp true id) = some L) {x y : Int} (hx : mget L x = none) :
  Left P n0 E tmps (do Instr.mapUpdate t v (.int .i64 x) (.int .i64 y); pure .skip) .top env (E.H.set id (some ⟨0, [.mo (L ++ [(x, y)])]⟩)) := by
 obtain ⟨b, rfl, hb, hz, hφ⟩ := d0r hok hr h
 have hlt := hok.lt hz hφ
 obtain ⟨q1, q2⟩ := hok.owrite (w := { E.w with heap := E.w.heap.setIfInBounds b (.map (a6o (L ++ [(x, y)])) (L ++ [(x, y)]).length) }) rfl rfl rfl (by simp) hz rfl hφ
  (fun b' hb' hne => by simp [Array.getElem?_setIfInBounds, Ne.symm hne]) [.mo (L ++ [(x, y)])] (.inl ⟨_, rfl, by simp [Array.getElem?_setIfInBounds, hlt]⟩)
 refine ⟨_, _, .skip, undef, ?_, .inr ⟨rfl, rfl⟩, q1, .top _, he.mono q2, q2.sub (fun i hi => Nat.lt_of_lt_of_le hi hn)⟩
 simp only [Sem.run_bind, e8I ht hb hx, Result.andThen_ok, Sem.run_pure]
theorem e6K {n0 : Nat} (hn : n0 ≤ E.H.length) {mutable : Bool} {o : Oper} {eo : EOp} (hc : ceff P mutable o.op = some eo) (hok : HOk E) (he : a0B E env tmps) {a : AV} {env' : Env} {H' : Heap}
  (hp : ev n0 eo env E.H = some (a, env', H')) : Left P n0 E tmps (execOp (Act.eval ⟨tmps, []⟩) o) a env' H' := by
 obtain ⟨dst, op, type, pos, after, guard⟩ := o
 simp only at hc
 cases op with
 | store t p v =>
  simp only [ceff, Option.bind_eq_bind, Option.bind_eq_some_iff] at hc
  obtain ⟨n, h0, hc⟩ := hc
  split at hc
  case isFalse => cases hc
  rename_i hn0
  simp only [Option.bind_eq_bind, Option.bind_eq_some_iff] at hc
  obtain ⟨sa, h1, sv, h2, h3⟩ := hc
  cases h3
  simp only [ev] at hp
  split at hp
  ·rename_i id i off e
   simp only [Option.bind_eq_some_iff] at hp
   obtain ⟨b, hb, hp⟩ := hp
   split at hp
   ·rename_i hcond
    cases hp
    obtain ⟨c1, c2, c3, c4⟩ := hcond
    have r1 := a0t he h1
    rw [e] at r1
    exact d9R hn hok he r1 (a0t he h2) h0 hn0 hb c1 c2 c3 c4
   ·simp at hp
  ·simp at hp
 | box t v =>
  simp only [ceff, Option.bind_eq_bind, Option.bind_eq_some_iff] at hc
  obtain ⟨n, h0, sv, h2, h3⟩ := hc
  cases h3
  simp only [ev] at hp
  split at hp
  ·rename_i hcond
   cases hp
   exact d9l hn hok he t (a0t he h2) hcond.1 hcond.2.1 hcond.2.2
  ·simp at hp
 | alloc t =>
  simp only [ceff, Option.bind_eq_bind, Option.bind_eq_some_iff] at hc
  obtain ⟨i, hi, z, hz, hc⟩ := hc
  split at hc
  ·rename_i hzo
   rw [Bool.and_eq_true, decide_eq_true_eq] at hzo
   cases hc
   simp only [ev] at hp
   by_cases hcond : ((Src.c (a3i z)).ev env).fit = true ∧ ((Src.c (a3i z)).ev env).cells.length = i.size ∧ 0 < i.size
   ·rw [if_pos hcond] at hp
    cases hp
    have := d9l (P := P) hn hok he t (d8t E hzo.1).1 hcond.1 hcond.2.1 hcond.2.2
    have heq : execOp (Act.eval ⟨tmps, []⟩) ⟨dst, .alloc t, type, pos, after, guard⟩ = (do let z ← zeroValue t; pure (Next.value (← Instr.box t z))) := by
     simp [execOp, Instr.alloc, Instr.box]
    obtain ⟨φ', w', nx, v, h1, h2⟩ := this
    refine ⟨φ', w', nx, v, ?_, h2⟩
    rw [heq]
    have hzr : (zeroValue t).run P E.w = .ok z E.w := by simp [zeroValue, typeInfo, hi, hz]
    simp only [Sem.run_bind, hzr, Result.andThen_ok] at h1 ⊢
    exact h1
   ·rw [if_neg hcond] at hp; simp at hp
  ·simp at hc
 | buildSlice t len a1Q =>
  simp only [ceff] at hc
  split at hc
  ·rename_i e ht
   simp only [Option.bind_eq_bind, Option.bind_eq_some_iff] at hc
   obtain ⟨i, hi, z, hz, ps, hps, hc⟩ := hc
   split at hc
   ·rename_i hcond
    obtain ⟨c1, c2, rfl, c4⟩ := hcond
    cases hc
    have bl := fun hpos hfit => e7a (P := P) hn hok he ht hi hz c1 hps c4 hpos hfit
    cases mutable
    ·simp only [Bool.false_eq_true, if_false, ev] at hp
     split at hp
     ·rename_i hcond
      cases hp
      obtain ⟨hpos, hall⟩ := hcond
      rw [List.all_eq_true] at hall
      have hall' : ∀ s ∈ ps, ((s.ev env).fit = true ∧ (s.ev env).cells.length = i.size) ∧ ∀ c ∈ (s.ev env).cells, Cl c := by
       intro s hs
       have := hall s hs
       simp only [Bool.and_eq_true, decide_eq_true_eq, List.all_eq_true] at this
       exact ⟨⟨this.1.1, this.1.2⟩, fun c hc => c7G.1 (this.2 c hc)⟩
      exact (bl hpos (fun s hs => (hall' s hs).1)).2 (fun s hs => (hall' s hs).2)
     ·simp at hp
    ·simp only [if_true, ev] at hp
     split at hp
     ·rename_i hcond
      cases hp
      obtain ⟨hpos, hall⟩ := hcond
      rw [List.all_eq_true] at hall
      exact (bl hpos (fun s hs => by simpa using hall s hs)).1
     ·simp at hp
   ·simp at hc
  ·simp at hc
 | makeSlice t l c =>
  simp only [ceff] at hc
  split at hc
  ·rename_i e ht
   simp only [Option.bind_eq_bind, Option.bind_eq_some_iff] at hc
   obtain ⟨i, hi, z, hz, hc⟩ := hc
   split at hc
   ·rename_i hcond
    simp only [Option.bind_eq_bind, Option.bind_eq_some_iff] at hc
    obtain ⟨sl, h1, sc, h2, h3⟩ := hc
    cases h3
    simp only [ev] at hp
    split at hp
    ·rename_i kl l' kc c' e1 e2
     split at hp
     ·rename_i hc'
      cases hp
      obtain ⟨g1, g2, g3, g4, g5⟩ := hc'
      have r1 := a0t he h1
      have r2 := a0t he h2
      rw [e1] at r1
      rw [e2] at r2
      have v1 := a0U r1
      have v2 := a0U r2
      have := e3e (P := P) hn hok he ht hi hz hcond.1 hcond.2 g1 (kl := kl) (kc := kc) g2 g3 g4 g5
      rw [← v1, ← v2] at this
      exact this
     ·simp at hp
    ·simp at hp
   ·simp at hc
  ·simp at hc
 | call c =>
  obtain ⟨callee, args, argTypes⟩ := c
  simp only [ceff] at hc
  split at hc
  ·rename_i x y t u hargs htys
   have ha : args = #[x, y] := by rw [← Array.toArray_toList (xs := args), hargs]
   have ht : argTypes = #[t, u] := by rw [← Array.toArray_toList (xs := argTypes), htys]
   subst ha ht
   split at hc
   ·rename_i e hu
    simp only [Option.bind_eq_bind, Option.bind_eq_some_iff] at hc
    obtain ⟨i, hi, z, hz, hc⟩ := hc
    split at hc
    ·rename_i hzs
     obtain ⟨hzs, hpz⟩ := hzs
     have main : ∀ (str : Bool) (sx sy : Src), a0O x = some sx → a0O y = some sy → ((str = false ∧ ∃ e', P.underlying u = some (.slice e')) ∨ (str = true ∧ P.underlying u = some .string ∧ i.size = 1)) →
       ev n0 (.app i.size i.bytes str sx sy) env E.H = some (a, env', H') →
       Left P n0 E tmps (execOp (Act.eval ⟨tmps, []⟩) ⟨dst, .call ⟨.builtin .append, #[x, y], #[t, u]⟩, type, pos, after, guard⟩) a env' H' := by
      intro str sx sy h1 h2 hk hp
      simp only [ev, Option.bind_eq_some_iff] at hp
      obtain ⟨ys, hys, hp⟩ := hp
      obtain ⟨news, n1, n2, n3, n4⟩ := e2d (tx := u) hok hk (a0t he h2) hys
      rw [d7V]
      have r1 := a0t he h1
      split at hp
      ·rename_i e1
       rw [e1] at r1
       split at hp
       ·rename_i hcond
        cases hp
        have hv : Act.eval ⟨tmps, []⟩ x = .slice none 0 0 := by
         generalize Act.eval ⟨tmps, []⟩ x = xv at r1
         cases r1 with
         | nil => rfl
         | dead v a id hr hd h1 => simp [AV.ref] at hr
        rw [hv]
        exact d5Y hn hok he hu hi hz hzs hcond.1 n1 n2 n3 n4 hcond.2.1 hcond.2.2
       ·simp at hp
      ·rename_i id off len oc e1
       rw [e1] at r1
       simp only [Option.bind_eq_some_iff] at hp
       obtain ⟨r, hr, hp⟩ := hp
       split at hp
       ·rename_i hcond
        cases hp
        obtain ⟨c1, rfl, c3, c4, c5, c6⟩ := hcond
        exact d2H hok he hu hi hpz n1 n2 n3 n4 r1 (a1h hr) c1 c3 c4 c5 c6
       split at hp
       ·rename_i hcond
        cases hp
        obtain ⟨c1, rfl, c3, c4, c5, c6, c7, c8, c9⟩ := hcond
        rw [List.all_eq_true] at c6 c7
        exact c7M hok he hu hi hz hzs hpz n1 n2 n3 n4 r1 (a1h hr) c1 c3 c4 (c3V.1 c5) (fun a ha => a0j.1 (c6 a ha)) (fun a ha => a0j.1 (c7 a ha)) c8 c9
       split at hp
       ·rename_i hcond
        cases hp
        obtain ⟨c1, c2, c3, c4, c5, c6⟩ := hcond
        obtain ⟨d, rfl, hd⟩ : ∃ d, oc = some d ∧ d < len + ys.length := by
         cases oc with
         | none => simp at c4
         | some d => exact ⟨d, rfl, by simpa using c4⟩
        exact d2I hn hok he hu hi hz hzs hpz n1 n2 n3 n4 r1 (a1h hr) c1 c2 c3 hd c5 c6
       split at hp
       ·rename_i hcond
        cases hp
        obtain ⟨c1, rfl, c3, c4, c6, c7, c8, c9⟩ := hcond
        rw [List.all_eq_true] at c6 c7
        obtain ⟨k1, k2⟩ := e3F hok id
        have hrs := d9X (a1h hr) fun a ha => c7 a ha
        have hm := c7M (ty := type) (E := ⟨E.φ, a1C id E.H, E.w⟩) k1 (he.mono (k2.sub fun _ _ => trivial)) hu hi hz hzs hpz n1 n2 n3 (fun k u b h1 h2 => (n4 k u b h1 h2).mono' (k2.sub fun _ _ => trivial)) (r1.mono' (k2.sub fun _ _ => trivial)) hrs c1 c3 c4 (d9V E.H id) (fun a ha => a0j.1 (c6 a ha))
         (fun a ha => by
          obtain ⟨y, hy, ha⟩ := List.mem_flatMap.1 ha
          exact a0j.1 (b9p (c7 y hy) a ha)) c8 c9
        obtain ⟨φ', w', nx, u, q1, q2, q3, q4, q5, q6⟩ := hm
        exact ⟨φ', w', nx, u, q1, q2, q3, q4, q5, (k2.sub fun _ _ => trivial).trans q6⟩
       ·simp at hp
      ·simp at hp
     split at hc
     ·rename_i e' hk
      simp only [Option.bind_eq_bind, Option.bind_eq_some_iff] at hc
      obtain ⟨sx, h1, sy, h2, h3⟩ := hc
      cases h3
      exact main false sx sy h1 h2 (.inl ⟨rfl, e', hk⟩) hp
     ·rename_i hk
      split at hc
      ·rename_i h1s
       simp only [Option.bind_eq_bind, Option.bind_eq_some_iff] at hc
       obtain ⟨sx, h1, sy, h2, h3⟩ := hc
       cases h3
       exact main true sx sy h1 h2 (.inr ⟨rfl, hk, h1s⟩) hp
      ·first | (simp at hc; done) | cases hc
     ·first | (simp at hc; done) | cases hc
    ·first | (simp at hc; done) | cases hc
   ·first | (simp at hc; done) | cases hc
  ·rename_i x y t u hargs htys
   have ha : args = #[x, y] := by rw [← Array.toArray_toList (xs := args), hargs]
   have ht : argTypes = #[t, u] := by rw [← Array.toArray_toList (xs := argTypes), htys]
   subst ha ht
   split at hc
   ·rename_i e hu
    simp only [Option.bind_eq_bind, Option.bind_eq_some_iff] at hc
    obtain ⟨n, hsz, hc⟩ := hc
    split at hc
    case isFalse => cases hc
    rename_i hpz
    simp only [Option.bind_eq_bind, Option.bind_eq_some_iff] at hc
    obtain ⟨sx, h1, sy, h2, h3⟩ := hc
    cases h3
    unfold a3y at hsz
    simp only [Option.map_eq_some_iff] at hsz
    obtain ⟨i, hi, rfl⟩ := hsz
    simp only [ev, Option.bind_eq_some_iff] at hp
    obtain ⟨ys, hys, hp⟩ := hp
    rw [e3U]
    have r1 := a0t he h1
    split at hp
    ·rename_i id off len oc e1
     rw [e1] at r1
     simp only [Option.bind_eq_some_iff] at hp
     obtain ⟨r, hr, hp⟩ := hp
     split at hp
     ·rename_i hcond
      cases hp
      exact e6S hn hok he hu hi hpz (a0t he h2) hys r1 (a1h hr) hcond.1 hcond.2
     ·simp at hp
    ·simp at hp
   ·first | (simp at hc; done) | cases hc
  ·first | (simp at hc; done) | cases hc
 | makeMap t r =>
  cases r with
  | some r => simp [ceff] at hc
  | none =>
   simp only [ceff] at hc
   split at hc
   ·cases hc
    simp only [ev] at hp
    cases hp
    exact e0V hn hok he t
   ·cases hc
 | mapUpdate t m k v =>
  simp only [ceff] at hc
  split at hc
  ·rename_i ht
   simp only [Option.bind_eq_bind, Option.bind_eq_some_iff] at hc
   obtain ⟨sm, h1, sk, h2, sv, h3, h4⟩ := hc
   cases h4
   have r1 := a0t he h1
   have r2 := a0t he h2
   have r3 := a0t he h3
   simp only [ev] at hp
   split at hp
   ·rename_i id x y e1 e2 e3
    simp only [Option.bind_eq_some_iff] at hp
    obtain ⟨L, hL, hp⟩ := hp
    split at hp
    ·rename_i hx
     cases hp
     rw [e1] at r1; rw [e2] at r2; rw [e3] at r3
     have v2 := a0U r2
     have v3 := a0U r3
     have := e3a (P := P) hn hok he ht r1 hL hx (y := y)
     rw [← v2, ← v3] at this
     exact this
    ·cases hp
   ·cases hp
  ·cases hc
 | range t x =>
  simp only [ceff] at hc
  split at hc
  ·rename_i ht
   simp only [Option.bind_eq_bind, Option.bind_eq_some_iff] at hc
   obtain ⟨sm, h1, h4⟩ := hc
   cases h4
   have r1 := a0t he h1
   simp only [ev] at hp
   split at hp
   ·rename_i id e1
    simp only [Option.bind_eq_some_iff] at hp
    obtain ⟨L, hL, hp⟩ := hp
    cases hp
    rw [e1] at r1
    exact e3b (P := P) hn hok he ht r1 hL
   ·cases hp
  ·cases hc
 | _ => simp [ceff] at hc
end
inductive AOp where
 | p (o : POp)
 | e (o : EOp)
 | call (f : FuncId) (args : List Src)
 | callv (g : Src) (args : List Src)
 | gcall (f : FuncId) (args : List Src)
 | gcallv (g : Src) (args : List Src)
 | nxt (a : Src)
structure AIns where
 dst : Option Nat
 guard : Option (Nat × Bool)
 op : AOp
inductive ACode where
 | skip
 | region (l : List AIns) (draw : Bool)
 | seq (a b : ACode)
 | cond (c : Src) (a b : ACode)
 | block (id : Nat) (c : ACode)
 | loop (c : ACode)
 | exit (id : Nat)
 | ret
 | scope (c : ACode)
 | regionX (p s1 s2 : List AIns) (sd : List (Nat × Nat))
 | label (l : Nat)
 | goto (l : Nat)
 | bad
 | raw (id : Nat) (ops : Array Oper) (draw : Bool)
def d9u (P : Program) (f : FuncId) : Prop := ∃ fn, P.funcs[f]? = some fn ∧ (fn.name == "runtime.NumGoroutine") = false ∧ fn.body.isSome = true
def a0m (P : Program) (f : FuncId) (args : List AV) (H : Heap) (R : AV → Heap → Prop) : Prop :=
 d9u P f ∧ ∀ (φ : Nat → Option Nat) (w : World) (vs : List Value), HOk ⟨φ, H, w⟩ → vs.length = args.length → (∀ (k : Nat) v a, vs[k]? = some v → args[k]? = some a → Rep ⟨φ, H, w⟩ v a) →
  Calls P f vs.toArray w fun e w' => ∃ v r φ' H', e = .returned v ∧ R r H' ∧ HOk ⟨φ', H', w'⟩ ∧ Rep ⟨φ', H', w'⟩ v r ∧ H.length ≤ H'.length ∧ Ext (· < H.length) ⟨φ, H, w⟩ ⟨φ', H', w'⟩
theorem a0m.mono {P : Program} {f : FuncId} {args : List AV} {H : Heap} {R R' : AV → Heap → Prop} (h : a0m P f args H R) (hr : ∀ r H', R r H' → R' r H') : a0m P f args H R' :=
 ⟨h.1, fun φ w vs h1 h2 h3 => (h.2 φ w vs h1 h2 h3).mono fun e w' ⟨v, r, φ', H', a, b, c⟩ => ⟨v, r, φ', H', a, hr _ _ b, c⟩⟩
def a9a (x : Option AV) (k : AV → Prop) : Prop := match x with
 | some v => k v
 | none => False
def b5q (x : Option (AV × Env × Heap)) (k : AV → Env → Heap → Prop) : Prop := match x with
 | some (v, env, H) => k v env H
 | none => False
def e1n (x : AV) (k : Bool → Prop) : Prop := match x with
 | .bool b => k b
 | _ => False
def b0b (want : Bool) (x : AV) (k : Bool → Prop) : Prop := match x with
 | .bool b => k b
 | .tup [] => k (!want)
 | _ => False
def NotW (x : AV) (want : Bool) : Prop := (∃ c, x = .bool c ∧ c ≠ want) ∨ x = .tup []
def e9j (a : AV) (H : Heap) (K : AV → Heap → Prop) : Prop := match a with
 | .mp false id => match b7S H (.mp false id) with
  | some (mid, n, seen) => match b1Q H (.mp true mid) with
   | some L => L.length = n ∧ (∀ i p, i ∉ seen → L[i]? = some p → K (.tup [.bool true, .int .i64 p.1, .int .i64 p.2]) (H.set id (some ⟨0, [.io mid n (seen ++ [i])]⟩))) ∧
     ((∀ i, i < n → i ∈ seen) → K (.tup [.bool false]) H)
   | none => False
  | none => False
 | _ => False
def put (d : Option Nat) (v : AV) (env : Env) : Env := match d with
 | some d => (d, v) :: env
 | none => env
def a3W (P : Program) (n0 : Nat) (o : AOp) (d : Option Nat) (K : Env → Heap → Prop) (env : Env) (H : Heap) : Prop :=
 match o with
 | .p o => a9a (pv o env H) fun v => K (put d v env) H
 | .e o => b5q (ev n0 o env H) fun v env' H' => K (put d v env') H'
 | .call f args | .gcall f args => a0m P f (args.map (·.ev env)) H fun r H' => K (put d r env) H'
 | .callv g args | .gcallv g args => match g.ev env with
  | .fn f caps => a0m P f (args.map (·.ev env) ++ caps) H fun r H' => K (put d r env) H'
  | .bfn f bs => a0m P f (bs ++ args.map (·.ev env)) H fun r H' => K (put d r env) H'
  | _ => False
 | .nxt a => e9j (a.ev env) H fun r H' => K (put d r env) H'
def aops (P : Program) (n0 : Nat) : List AIns → (Env → Heap → Prop) → Env → Heap → Prop
 | [], K, env, H => K env H
 | i :: l, K, env, H =>
  match i.guard with
  | none => a3W P n0 i.op i.dst (aops P n0 l K) env H
  | some (t, want) => b0b want (look env t) fun c => if c = want then a3W P n0 i.op i.dst (aops P n0 l K) env H else aops P n0 l K (put i.dst (.tup []) env) H
def Src.tmps : Src → List Nat
 | .t n => [n]
 | .c _ => []
def e0p : Option Src → List Nat
 | some s => s.tmps
 | none => []
def POp.reads : POp → List Nat
 | .mv a | .len a | .lens a | .un _ a | .conv _ a | .ext a _ | .fldp a _ | .load _ a | .b2s a | .ment a => a.tmps
 | .pick c a b => c.tmps ++ (a.tmps ++ b.tmps)
 | .bin _ a b | .beq _ a b | .idxp _ a b | .idxs a b | .mnx _ a b | .mlook a b => a.tmps ++ b.tmps
 | .slc _ x lo hi mx => x.tmps ++ (e0p lo ++ (e0p hi ++ e0p mx))
 | .slcs x lo hi => x.tmps ++ (e0p lo ++ e0p hi)
 | .bld _ ps => ps.flatMap (fun p => p.2.2.tmps)
 | .mkfn _ cs | .mkbf _ cs => cs.flatMap Src.tmps
def EOp.reads : EOp → List Nat
 | .store _ a v => a.tmps ++ v.tmps
 | .box _ v => v.tmps
 | .bsl _ ps | .bslm _ ps => ps.flatMap Src.tmps
 | .mksl _ _ _ l c => l.tmps ++ c.tmps
 | .app _ _ _ a b => a.tmps ++ b.tmps
 | .cpy _ a b => a.tmps ++ b.tmps
 | .mkmap => []
 | .mset m k v => m.tmps ++ (k.tmps ++ v.tmps)
 | .mrng m => m.tmps
def AOp.reads : AOp → List Nat
 | .p o => o.reads
 | .e o => o.reads
 | .call _ aXs | .gcall _ aXs => aXs.flatMap Src.tmps
 | .callv g aXs | .gcallv g aXs => g.tmps ++ aXs.flatMap Src.tmps
 | .nxt a => a.tmps
def AIns.reads (i : AIns) : List Nat := (match i.guard with | some (t, _) => [t] | none => []) ++ i.op.reads
def AOp.quiet : AOp → Bool
 | .p _ | .e (.bsl ..) | .call .. | .callv .. => true
 | _ => false
def POp.hfree : POp → Bool
 | .mv _ | .pick .. | .lens _ | .bin .. | .beq .. | .un .. | .conv .. | .ext .. | .idxs .. | .slcs .. | .bld .. | .mkfn .. | .mkbf .. | .mnx .. => true
 | _ => false
def AOp.hfree : AOp → Bool
 | .p o => o.hfree
 | _ => false
def AOp.isStore : AOp → Bool
 | .e (.store ..) => true
 | _ => false
def AOp.isBox : AOp → Bool
 | .e (.box ..) | .e (.bslm ..) | .gcall .. | .gcallv .. => true
 | _ => false
def AOp.isApp : AOp → Bool
 | .e (.app ..) => true
 | _ => false
def AOp.isMv : AOp → Bool
 | .p (.mv (.t _)) => true
 | _ => false
def a8f (x y : AIns) : Bool :=
 (match x.dst with | some d => !y.reads.contains d && y.dst != some d | none => true) && (match y.dst with | some d => !x.reads.contains d | none => true)
def c7N (x y : AIns) : Bool := (x.op.quiet && y.op.quiet) || (x.op.isStore && y.op.hfree) || (x.op.hfree && y.op.isStore) || (x.op.quiet && y.op.isBox) || (x.op.isMv && y.op.isApp)
def tcOf (T : List Nat) (o : Oper) : Nat :=
 o.after.toList.foldl (fun acc e => if Region.binds .any e then (acc ||| ((1 <<< e.on) ||| T.getD e.on 0)) else acc) 0
def a8s : List Oper → List Nat → List Nat
 | [], T => T
 | o :: r, T => a8s r (T ++ [tcOf T o])
def d2v (m : Nat) (y : AIns) : Nat → List AIns → Bool
 | _, [] => true
 | a, x :: r => (m.testBit a || (a8f x y && c7N x y)) && d2v m y (a + 1) r
def c7E (T : List Nat) : Nat → List AIns → List AIns → Bool
 | _, _, [] => true
 | i, pre, y :: r => d2v (T.getD i 0) y 0 pre && c7E T (i + 1) (pre ++ [y]) r
def b4K : Nat → List Oper → Bool
 | _, [] => true
 | i, o :: r => o.after.toList.all (fun e => !Region.binds .any e || decide (e.on < i)) && b4K (i + 1) r
def dchk (P : Program) (ops : Array Oper) (l : List AIns) : Bool :=
 P.follows .mixedOrders && (b4K 0 ops.toList && c7E (a8s ops.toList []) 0 [] l)
def Src.okc : Src → Bool
 | .t _ | .c (.int ..) | .c .nil | .c (.bool _) => true
 | _ => false
def POp.clq : POp → Bool
 | .mv a | .len a | .load _ a => a.okc
 | .bin _ a b | .idxp _ a b => a.okc && b.okc
 | .slc _ x lo hi mx => x.okc && (lo.all Src.okc && (hi.all Src.okc && mx.all Src.okc))
 | _ => false
def clI (sd : List (Nat × Nat)) (x : AIns) : Bool := (match x.op with | .p o => o.clq | _ => false) && x.reads.all fun t => sd.contains (t, t)
def ldst (x y : AIns) : Option (Nat × Nat) := match x.op, y.op with
 | .p (.load _ (.t a)), .e (.store _ (.t b) _) => some (a, b)
 | _, _ => none
def okX (m : Nat) (sd : List (Nat × Nat)) (a : Nat) (x y : AIns) : Bool := m.testBit a || (a8f x y && (c7N x y || ((match ldst x y with | some p => p.1 != p.2 && sd.contains p | none => false) || ((x.op.isApp && clI sd y) || (clI sd x && y.op.isApp)))))
def d0R (m k i : Nat) (sd : List (Nat × Nat)) (y : AIns) : Nat → List AIns → Bool
 | _, [] => true
 | a, x :: r => (okX m sd a x y || (a == k && i == k + 1)) && d0R m k i sd y (a + 1) r
def c4x (T : List Nat) (k : Nat) (sd : List (Nat × Nat)) : Nat → List AIns → List AIns → Bool
 | _, _, [] => true
 | i, pre, y :: r => d0R (T.getD i 0) k i sd y 0 pre && c4x T k sd (i + 1) (pre ++ [y]) r
def f0T (T : List Nat) (k n : Nat) : Bool := (List.range n).all fun j => decide (j < k + 2) || (T.getD j 0).testBit k || (T.getD j 0).testBit (k + 1)
def xchk (P : Program) (ops : Array Oper) (l : List AIns) (k : Nat) (sd : List (Nat × Nat)) : Bool :=
 P.follows .mixedOrders && (b4K 0 ops.toList && (c4x (a8s ops.toList []) k sd 0 [] l && (f0T (a8s ops.toList []) k ops.toList.length &&
  sd.all fun p => if p.1 = p.2 then l.all fun x => x.dst != some p.1 || clI sd x else (l.all fun x => !x.op.isApp) && l.all fun x => x.dst != some p.1 && x.dst != some p.2)))
def e4H (m i : Nat) (y : AIns) : Nat → List AIns → List (Nat × Nat × AIns × AIns)
 | _, [] => []
 | a, x :: r => if m.testBit a || (a8f x y && c7N x y) then e4H m i y (a + 1) r else (a, i, x, y) :: e4H m i y (a + 1) r
def e4I (T : List Nat) : Nat → List AIns → List AIns → List (Nat × Nat × AIns × AIns)
 | _, _, [] => []
 | i, pre, y :: r => e4H (T.getD i 0) i y 0 pre ++ e4I T (i + 1) (pre ++ [y]) r
def e7K (n : Nat) : List (Nat × Nat × AIns × AIns) → Nat
 | [] => n
 | (a, i, x, y) :: r => if i == a + 1 && (x.op.isBox && y.op.isBox) then a else e7K n r
def sdOf : List (Nat × Nat × AIns × AIns) → List (Nat × Nat)
 | [] => []
 | (_, _, x, y) :: r => match ldst x y with
  | some p => p :: sdOf r
  | none => sdOf r
def clS0 : List (Nat × Nat × AIns × AIns) → List Nat
 | [] => []
 | (_, _, x, y) :: r => (if x.op.isApp then (match y.op with | .p o => if o.clq then y.reads else [] | _ => []) else if y.op.isApp then (match x.op with | .p o => if o.clq then x.reads else [] | _ => []) else []) ++ clS0 r
def clS : List AIns → List Nat → List Nat
 | [], S => S
 | x :: r, S => match x.dst with
  | some d => if S.contains d then clS r (S ++ x.reads) else clS r S
  | none => clS r S
def d9J : List AIns → List AIns
 | x :: y :: r => y :: x :: r
 | l => l
def f1R (P : Program) (ops : Array Oper) (l : List AIns) (k : Nat) (sd : List (Nat × Nat)) : Option ACode :=
 if xchk P ops l k sd then some (.regionX (l.take k) (l.drop k) (d9J (l.drop k)) sd) else none
def e6R (P : Program) (ops : Array Oper) (l : List AIns) (b : List (Nat × Nat × AIns × AIns)) : Option ACode := f1R P ops l (e7K l.length b) (sdOf b ++ ((clS l.reverse (clS0 b)).eraseDups.map fun t => (t, t)))
def caop (P : Program) (mutable : Bool) (o : Op) : Option AOp :=
 match a6q P o with
 | some p => some (.p p)
 | none => match ceff P mutable o with
  | some e => some (.e e)
  | none => match o with
   | .call c => match c.callee with
    | .value (.func f) => (srcs c.args.toList).map fun aXs => if mutable then .gcall f aXs else .call f aXs
    | .value (.tmp t) => (srcs c.args.toList).map fun aXs => if mutable then .gcallv (.t t) aXs else .callv (.t t) aXs
    | _ => none
   | .next x str => if str then none else (a0O x).map .nxt
   | _ => none
def e4t (ops : Array Oper) (g : Option (Nat × Bool)) : Option (Option (Nat × Bool)) :=
 match g with
 | none => some none
 | some (j, want) => match (ops[j]?).bind (·.dst) with
  | some t => some (some (t, want))
  | none => none
def d8e (nt : Nat) (d : Option Tmp) : Bool := match d with
 | some d => decide (d < nt)
 | none => true
def cins (P : Program) (mutable : Bool) (nt : Nat) (ops : Array Oper) (o : Oper) : Option AIns :=
 if d8e nt o.dst then
  match e4t ops o.guard, caop P mutable o.op with
  | some g, some a => some ⟨o.dst, g, a⟩
  | _, _ => none
 else none
def a2C (P : Program) (mu : Nat → Nat → Bool) (nt rid : Nat) (ops : Array Oper) : Nat → List Oper → Option (List AIns)
 | _, [] => some []
 | k, o :: r => match cins P (mu rid k) nt ops o, a2C P mu nt rid ops (k + 1) r with
  | some i, some l => some (i :: l)
  | _, _ => none
def a0Z (P : Program) (mu : Nat → Nat → Bool) (nt : Nat) : Code → Option ACode
 | .skip => some .skip
 | .region id ops draw => if mu id 1000000 then some (.raw id ops draw) else match a2C P mu nt id ops 0 ops.toList with
  | some l => if draw then (if dchk P ops l then some (.region l true) else some ((e6R P ops l (e4I (a8s ops.toList []) 0 [] l)).getD .bad)) else some (.region l false)
  | none => some (.raw id ops draw)
 | .seq a b => match a0Z P mu nt a, a0Z P mu nt b with
  | some a, some b => some (.seq a b)
  | _, _ => none
 | .cond c a b => match a0O c, a0Z P mu nt a, a0Z P mu nt b with
  | some c, some a, some b => some (.cond c a b)
  | _, _, _ => none
 | .block id c => (a0Z P mu nt c).map (.block id)
 | .loop c => (a0Z P mu nt c).map .loop
 | .exit id => some (.exit id)
 | .ret => some .ret
 | .label l => some (.label l)
 | .goto l => some (.goto l)
 | .scope c => (a0Z P mu nt c).map .scope
 | _ => none
section
variable {P : Program} {nt : Nat}
theorem d7G {E : Emb} (hok : HOk E) {v : Value} {id : Nat} (hr : Rep E v (.mp false id)) {mid n : Nat} {seen : List Nat} (h : b7S E.H (.mp false id) = some (mid, n, seen)) :
  ∃ b m, v = .pointer (some ⟨b, 0, none⟩) ∧ E.w.heap[b]? = some (.mapIter (some m) n seen.toArray n) ∧ E.H[id]? = some (some ⟨0, [.io mid n seen]⟩) ∧ E.φ id = some b ∧ mid < id ∧ (∀ blk, E.H[mid]? = some (some blk) → blk.wd = 0 ∧ E.φ mid = some m) ∧
   ∀ L, b1Q E.H (.mp true mid) = some L → E.w.heap[m]? = some (.map (a6o L) L.length) := by
 obtain ⟨b0, m0, hv0, hb0, hL0⟩ := d0u hok hr h
 unfold b7S at h
 simp only at h
 split at h
 ·rename_i m1 n1 seen1 hrw
  cases h
  have hl := a1h hrw
  generalize hvv : v = vv at hr
  cases hr with
  | mp blk _ _ b hlive hb hw =>
   rw [hl] at hlive; cases hlive
   rw [hvv] at hv0
   simp only [f1t, Value.pointer.injEq, Option.some.injEq, Addr.mk.injEq] at hv0
   obtain ⟨rfl, _⟩ := hv0
   rcases hok.obj id _ b hl rfl hb with ⟨L', q1, q2⟩ | ⟨_, _, _, m, q1, q2, q3, q4⟩
   ·simp at q1
   ·simp at q1; obtain ⟨rfl, rfl, rfl⟩ := q1
    rw [hb0] at q2
    simp only [Option.some.injEq, Obj.mapIter.injEq] at q2
    obtain ⟨rfl, _⟩ := q2
    exact ⟨b, m0, rfl, hb0, hl, hb, q3, q4, hL0⟩
  | dead v a id' hr hd h1 => simp [AV.ref] at hr; subst hr; rw [hl] at hd; cases hd
 ·cases h
theorem c3O : ∀ {L : List (Int × Int)} {b : Nat} {e : MapEntry}, e ∈ mapE b L → ∃ i p, L[i]? = some p ∧ e = { key := .int .i64 p.1, val := .int .i64 p.2, born := b + i }
 | [], b, e, h => by simp [mapE] at h
 | p :: L, b, e, h => by
  simp only [mapE, List.mem_cons] at h
  rcases h with rfl | h
  ·exact ⟨0, p, rfl, rfl⟩
  ·obtain ⟨i, q, h1, h2⟩ := c3O h
   exact ⟨i + 1, q, h1, by rw [h2]; congr 1; omega⟩
theorem d8Q : ∀ {L : List (Int × Int)} {b i : Nat} {p : Int × Int}, L[i]? = some p → { key := .int .i64 p.1, val := .int .i64 p.2, born := b + i } ∈ mapE b L
 | [], b, i, p, h => by simp at h
 | q :: L, b, 0, p, h => by simp at h; subst h; simp [mapE]
 | q :: L, b, i + 1, p, h => by
  have := d8Q (b := b + 1) (show L[i]? = some p by simpa using h)
  simp only [mapE, List.mem_cons]
  right
  rw [show b + (i + 1) = b + 1 + i by omega]; exact this
theorem e5S {w : World} {b m n : Nat} {seen : List Nat} {L : List (Int × Int)} (hi : w.heap[b]? = some (.mapIter (some m) n seen.toArray n)) (hm : w.heap[m]? = some (.map (a6o L) L.length)) (hn : L.length = n) (ty : TypeId) :
  ((∀ i, i < n → i ∈ seen) ∧ (Instr.next (.pointer (some ⟨b, 0, none⟩)) false ty).run P w = .ok (.tuple #[.bool false]) w) ∨
  ∃ i p d, i ∉ seen ∧ L[i]? = some p ∧ (Instr.next (.pointer (some ⟨b, 0, none⟩)) false ty).run P w = .ok (.tuple #[.bool true, .int .i64 p.1, .int .i64 p.2]) { w with heap := w.heap.setIfInBounds b (.mapIter (some m) n (seen ++ [i]).toArray n), drawn := d } := by
 subst hn
 have hall : (!seen.toArray.isEmpty && !(a6o L).isEmpty && (a6o L).all (fun e => decide (e.born ≥ L.length))) = false := by
  cases L with
  | nil => simp [a6o, mapE]
  | cons p L => simp [a6o, mapE]
 generalize hF : (mapE 0 L).filter (fun e => !seen.toArray.contains e.born) = F
 have hin : ∀ e ∈ F, e ∈ mapE 0 L ∧ (!seen.toArray.contains e.born) = true := fun e he => by
  rw [← hF] at he; exact List.mem_filter.1 he
 have hleft : (a6o L).filter (fun e => !seen.toArray.contains e.born) = F.toArray := by rw [a6o, List.filter_toArray, hF]
 have hold : F.toArray.filter (fun e => decide (e.born < L.length)) = F.toArray := by
  rw [List.filter_toArray, List.filter_eq_self.2]
  intro e he
  obtain ⟨i, p, h1, h2⟩ := c3O (hin e he).1
  rw [h2]; simpa using a0h h1
 have hnew : F.toArray.filter (fun e => decide (e.born ≥ L.length)) = #[] := by
  rw [List.filter_toArray, List.filter_eq_nil_iff.2]
  intro e he
  obtain ⟨i, p, h1, h2⟩ := c3O (hin e he).1
  rw [h2]; have := a0h h1; simpa using this
 cases hF0 : F with
 | nil =>
  left
  subst hF0
  refine ⟨fun i hi => ?_, ?_⟩
  ·have := d8Q (b := 0) (List.getElem?_eq_getElem hi)
   have hf := List.filter_eq_nil_iff.1 hF _ this
   simpa using hf
  ·unfold Instr.next
   simp only [Sem.run_bind, b0M hi, Result.andThen_ok, a3t hm, hall, Bool.false_eq_true, if_false, hleft, hold, hnew]
   simp [Sem.run_bind, run_choose_drew, Question.forced]
 | cons e0 F' =>
  right
  have key : ∀ t, t < F.length → ∃ i p, i ∉ seen ∧ L[i]? = some p ∧ F[t]? = some { key := .int .i64 p.1, val := .int .i64 p.2, born := i } := by
   intro t ht
   have hmem : F[t] ∈ F := List.getElem_mem ht
   obtain ⟨i, p, h1, h2⟩ := c3O (hin _ hmem).1
   have h3 := (hin _ hmem).2
   refine ⟨i, p, ?_, h1, ?_⟩
   ·rw [h2] at h3; simpa using h3
   ·rw [List.getElem?_eq_getElem ht, h2]; simp
  have hlen : 0 < F.length := by rw [hF0]; simp
  have hne : F.toArray.isEmpty = false := by rw [hF0]; rfl
  have run : ∀ t (d : Nat), t < F.length → (choose (.mapNext F.length)).run P w = .ok t { w with drawn := d } → ∃ i p d, i ∉ seen ∧ L[i]? = some p ∧ (Instr.next (.pointer (some ⟨b, 0, none⟩)) false ty).run P w = .ok (.tuple #[.bool true, .int .i64 p.1, .int .i64 p.2]) { w with heap := w.heap.setIfInBounds b (.mapIter (some m) L.length (seen ++ [i]).toArray L.length), drawn := d } := by
   intro t d ht hch
   obtain ⟨i, p, h1, h2, h3⟩ := key t ht
   refine ⟨i, p, d, h1, h2, ?_⟩
   unfold Instr.next
   simp only [Sem.run_bind, b0M hi, Result.andThen_ok, a3t hm, hall, Bool.false_eq_true, if_false, hleft, hold, hnew, hne]
   have hsz : (#[] ++ (F.toArray ++ #[]).map some).size = F.length := by simp
   rw [hsz, hch]
   simp only [Result.andThen_ok]
   have hg : (#[] ++ (F.toArray ++ #[]).map some)[t]? = some (some { key := .int .i64 p.1, val := .int .i64 p.2, born := i }) := by simp [h3]
   rw [hg]
   simp only [Sem.run_bind]
   rw [d3m (w := { w with drawn := d }) _ (show ({ w with drawn := d } : World).heap[b]? = _ from hi)]
   simp
  by_cases hf : (Question.mapNext F.length).forced = true
  ·exact run 0 w.drawn hlen (by rw [run_choose_drew, if_pos hf])
  ·refine run ((Question.mapNext F.length).cut (w.tape w.drawn (.mapNext F.length))) (w.drawn + 1) (Nat.mod_lt _ hlen) (by rw [run_choose_drew, if_neg hf]; rfl)
theorem e0q {E : Emb} {env : Env} {tmps : Array Value} {n0 : Nat} (hn : n0 ≤ E.H.length) (hok : HOk E) (he : a0B E env tmps) {v : Value} {a : AV} (hr : Rep E v a) (ty : TypeId) {K : AV → Heap → Prop} (h : e9j a E.H K) :
  ∃ φ' w' u r H', (Instr.next v false ty).run P E.w = .ok u w' ∧ K r H' ∧ HOk ⟨φ', H', w'⟩ ∧ Rep ⟨φ', H', w'⟩ u r ∧ a0B ⟨φ', H', w'⟩ env tmps ∧ E.H.length ≤ H'.length ∧ Ext (· < n0) E ⟨φ', H', w'⟩ := by
 unfold e9j at h
 split at h
 ·rename_i id
  split at h
  ·rename_i mid n seen e1
   split at h
   ·rename_i L e2
    obtain ⟨hL, hk, hend⟩ := h
    obtain ⟨b, m, rfl, hb, hl, hφ, hmid, hcl, hm⟩ := d7G hok hr e1
    rcases e5S (P := P) hb (hm L e2) hL ty with ⟨q1, q2⟩ | ⟨i, p, d, q1, q2, q3⟩
    ·exact ⟨E.φ, E.w, _, _, E.H, q2, hend q1, hok, .tup [_] [_] rfl (fun k v a hk ha => by
      rcases k with _ | k
      ·simp at hk ha; subst hk; subst ha; exact .bool _
      ·simp at hk), he, Nat.le_refl _, Ext.refl _ _⟩
    ·have hlt := hok.lt hl hφ
     obtain ⟨g1, g2⟩ := hok.owrite (w := { E.w with heap := E.w.heap.setIfInBounds b (.mapIter (some m) n (seen ++ [i]).toArray n), drawn := d }) rfl rfl rfl (by simp) hl rfl hφ
      (fun b' hb' hne => by simp [Array.getElem?_setIfInBounds, Ne.symm hne]) [.io mid n (seen ++ [i])]
      (.inr ⟨mid, n, seen ++ [i], m, rfl, by simp [Array.getElem?_setIfInBounds, hlt], hmid, fun blk hb' => by
       have hne : id ≠ mid := by omega
       simp only [a6S _ _ _ (a0o hl), hne, if_false] at hb'
       exact hcl blk hb'⟩)
     refine ⟨E.φ, _, _, _, _, q3, hk i p q1 q2, g1, .tup [_, _, _] [_, _, _] rfl (fun k v a hk ha => by
      rcases k with _ | _ | _ | k
      ·simp at hk ha; subst hk; subst ha; exact .bool _
      ·simp at hk ha; subst hk; subst ha; exact .int _ _
      ·simp at hk ha; subst hk; subst ha; exact .int _ _
      ·simp at hk), he.mono g2, by simp, g2.sub (fun i hi => Nat.lt_of_lt_of_le hi hn)⟩
   ·exact h.elim
  ·exact h.elim
 ·exact h.elim
theorem a4d {E : Emb} {env : Env} {tmps : Array Value} (he : a0B E env tmps) {d : Option Nat} (hd : d8e tmps.size d = true) {v : Value} {a : AV} (hr : Rep E v a) :
  a0B E (put d a env) ((Act.mk tmps []).put d v).tmps := by
 cases d with
 | none => exact he
 | some d =>
  simp only [d8e, decide_eq_true_eq] at hd
  intro t
  simp only [put, look, Act.put]
  by_cases ht : d = t
  ·subst ht
   simp only [if_true]
   rw [Array.getD_eq_getD_getElem?, Array.getElem?_setIfInBounds]
   simp [hd]; exact hr
  ·rw [if_neg ht]
   rw [Array.getD_eq_getD_getElem?, Array.getElem?_setIfInBounds_ne ht, ← Array.getD_eq_getD_getElem?]
   exact he t
theorem b7x (tmps : Array Value) (d : Option Nat) (v : Value) : ((Act.mk tmps []).put d v).tmps.size = tmps.size := by cases d <;> simp [Act.put]
def Kc (n0 nt : Nat) (E : Emb) (K : Env → Heap → Prop) (a : Act) (w : World) : Prop :=
 ∃ φ env H, K env H ∧ HOk ⟨φ, H, w⟩ ∧ a0B ⟨φ, H, w⟩ env a.tmps ∧ a.defers = [] ∧ a.tmps.size = nt ∧ n0 ≤ H.length ∧ Ext (· < n0) E ⟨φ, H, w⟩
theorem e3V {o : Oper} {c : Call} {tmps : Array Value} {w : World} {f : FuncId} {caps : Array Value} (ho : o.op = .call c) {g : Operand} (hc : c.callee = .value g) {bs : Array Value} (hg : Act.eval ⟨tmps, []⟩ g = .func (.func f) bs caps) (hf : d9u P f) :
  (execOp (Act.eval ⟨tmps, []⟩) o).run P w = .ok (.enter f (bs ++ c.args.map (Act.eval ⟨tmps, []⟩) ++ caps)) w := by
 obtain ⟨fn, h1, h2, h3⟩ := hf
 have hb : fn.body.isNone = false := by cases hx : fn.body <;> simp_all
 have h2' : (fn.name == "runtime.NumGoroutine") = false := h2
 simp only [execOp, ho, resolve, hc, hg, Deferred.ofValue, Sem.run_bind, Sem.run_pure, Result.andThen_ok, invoke, callFunc, run_program, h1, h2', hb, Bool.false_eq_true, if_false]
theorem a9H {n0 : Nat} {E : Emb} {env : Env} {tmps : Array Value} {o : Oper} {mutable : Bool} {ao : AOp} (hc : caop P mutable o.op = some ao) (hd : d8e nt o.dst = true) (hsz : tmps.size = nt)
  (hok : HOk E) (he : a0B E env tmps) (hn : n0 ≤ E.H.length) {K : Env → Heap → Prop} (h : a3W P n0 ao o.dst K env E.H) {Q : Exit → Act → World → Prop} {next : Act → World → Prop} (hnext : ∀ a w, Kc n0 nt E K a w → next a w) :
  o.wp P ⟨tmps, []⟩ E.w next Q := by
 subst hsz
 have fin : ∀ (φ' : Nat → Option Nat) (env' : Env) (H' : Heap) (w' : World) (v : Value) (a : AV), K (put o.dst a env') H' → HOk ⟨φ', H', w'⟩ → Rep ⟨φ', H', w'⟩ v a → a0B ⟨φ', H', w'⟩ env' tmps → n0 ≤ H'.length → Ext (· < n0) E ⟨φ', H', w'⟩ →
   next ((Act.mk tmps []).put o.dst v) w' := by
  intro φ' env' H' w' v a h1 h2 h3 h4 h5 h6
  refine hnext _ _ ⟨φ', _, H', h1, h2, a4d h4 hd h3, ?_, b7x _ _ _, h5, h6⟩
  cases o.dst <;> rfl
 unfold caop at hc
 split at hc
 ·rename_i p hp
  cases hc
  simp only [a3W, a9a] at h
  split at h
  ·rename_i a ha
   obtain ⟨v, hv, hr⟩ := e5B hp hok he ha
   simp only [Oper.wp, hv, Oper.upon]
   exact fin E.φ env E.H E.w v a h hok hr he hn (Ext.refl _ _)
  ·exact h.elim
 ·split at hc
  ·rename_i e' hp
   cases hc
   simp only [a3W, b5q] at h
   split at h
   ·rename_i v env' H' ha
    obtain ⟨φ', w', nx, u, g1, g2, g3, g4, g5, g6⟩ := e6K hn hp hok he ha
    have hlen : n0 ≤ H'.length := by
     rcases Nat.eq_zero_or_pos n0 with rfl | hpos
     ·omega
     ·have := g6.len (n0 - 1) (by show n0 - 1 < n0; omega) (by omega)
      have : n0 - 1 < H'.length := this
      omega
    simp only [Oper.wp, g1]
    rcases g2 with rfl | ⟨rfl, rfl⟩
    ·exact fin φ' env' H' w' u v h g3 g4 g5 hlen g6
    ·exact fin φ' env' H' w' undef v h g3 g4 g5 hlen g6
   ·exact h.elim
  ·have callb : ∀ (c : Call) (g : Operand) (f : FuncId) (bs caps : List Value) (aXs : List AV) (vs : List Value), o.op = .call c → c.callee = .value g → Act.eval ⟨tmps, []⟩ g = .func (.func f) bs.toArray caps.toArray →
     vs = bs ++ c.args.toList.map (Act.eval ⟨tmps, []⟩) ++ caps → vs.length = aXs.length → (∀ (k : Nat) v a, vs[k]? = some v → aXs[k]? = some a → Rep E v a) →
     a0m P f aXs E.H (fun r H' => K (put o.dst r env) H') → o.wp P ⟨tmps, []⟩ E.w next Q := by
    intro c g f bs caps aXs vs ho hcal hg hvs hl hr ha
    have hx := e3V (w := E.w) ho hcal hg ha.1
    simp only [Oper.wp, hx, Oper.upon]
    have harr : bs.toArray ++ c.args.map (Act.eval ⟨tmps, []⟩) ++ caps.toArray = vs.toArray := by
     rw [hvs]
     apply Array.ext'
     simp
    rw [harr]
    refine (ha.2 E.φ E.w vs hok hl hr).mono ?_
    rintro e w' ⟨v, r, φ', H', rfl, q1, q2, q3, q4, q5⟩
    exact fin φ' env H' w' v r q1 q2 q3 (he.mono q5) (Nat.le_trans hn q4) (q5.sub (fun i hi => Nat.lt_of_lt_of_le hi hn))
   have callc : ∀ (c : Call) (g : Operand) (f : FuncId) (caps : List Value) (aXs : List AV) (vs : List Value), o.op = .call c → c.callee = .value g → Act.eval ⟨tmps, []⟩ g = .func (.func f) #[] caps.toArray →
     vs = c.args.toList.map (Act.eval ⟨tmps, []⟩) ++ caps → vs.length = aXs.length → (∀ (k : Nat) v a, vs[k]? = some v → aXs[k]? = some a → Rep E v a) →
     a0m P f aXs E.H (fun r H' => K (put o.dst r env) H') → o.wp P ⟨tmps, []⟩ E.w next Q := fun c g f caps aXs vs ho hcal hg hvs => callb c g f [] caps aXs vs ho hcal hg (by rw [hvs]; rfl)
   split at hc
   ·rename_i c ho
    split at hc
    ·rename_i f hcal
     simp only [Option.map_eq_some_iff] at hc
     obtain ⟨ss, hs, rfl⟩ := hc
     obtain ⟨hl, hr⟩ := b2D he hs
     have h : a3W P n0 (.call f ss) o.dst K env E.H := by cases mutable <;> exact h
     simp only [a3W] at h
     exact callc c (.func f) f [] _ _ ho hcal rfl rfl (by simp [hl]) (by simpa using hr) h
    ·rename_i t hcal
     simp only [Option.map_eq_some_iff] at hc
     obtain ⟨ss, hs, rfl⟩ := hc
     obtain ⟨hl, hr⟩ := b2D he hs
     have h : a3W P n0 (.callv (.t t) ss) o.dst K env E.H := by cases mutable <;> exact h
     simp only [a3W, Src.ev] at h
     have hg := he t
     split at h
     ·rename_i f caps hcap
      rw [hcap] at hg
      generalize hgv : tmps.getD t undef = gv at hg
      cases hg with
      | fn _ vs cs hlen hrep =>
       exact callc c (.tmp t) f vs _ _ ho hcal hgv rfl (by simp [hl, hlen]) (a6x (Q := fun u b => Rep E u b) (by simp [hl]) hr hrep) h
      | dead v a id hr hd h1 => simp [AV.ref] at hr
     ·rename_i f bs hcap
      rw [hcap] at hg
      generalize hgv : tmps.getD t undef = gv at hg
      cases hg with
      | bfn _ vs cs hlen hrep =>
       exact callb c (.tmp t) f vs [] _ (vs ++ c.args.toList.map (Act.eval ⟨tmps, []⟩)) ho hcal hgv (by simp) (by simp [hl, hlen]) (a6x (Q := fun u b => Rep E u b) hlen hrep hr) h
      | dead v a id hr hd h1 => simp [AV.ref] at hr
     ·exact h.elim
    ·simp at hc
   ·rename_i x str ho
    cases str with
    | true => simp at hc
    | false =>
     simp only [Bool.false_eq_true, if_false, Option.map_eq_some_iff] at hc
     obtain ⟨s, hs, rfl⟩ := hc
     simp only [a3W] at h
     obtain ⟨φ', w', u, r, H', g1, g2, g3, g4, g5, g6, g7⟩ := e0q (P := P) (tmps := tmps) hn hok he (a0t he hs) o.type h
     have hx : (execOp (Act.eval ⟨tmps, []⟩) o).run P E.w = .ok (.value u) w' := by
      obtain ⟨dst, op, type, pos, after, guard⟩ := o
      simp only at ho; subst ho
      simp only [execOp, Sem.run_bind, g1, Result.andThen_ok, Sem.run_pure]
     simp only [Oper.wp, hx, Oper.upon]
     exact fin φ' env H' w' u r g2 g3 g4 g5 (Nat.le_trans hn g6) g7
   ·simp at hc
theorem d3t {E : Emb} {v : Value} (h : Rep E v (.tup [])) : v = undef := by
 cases h with
 | tup vs _ hlen _ =>
  have : vs = [] := List.length_eq_zero_iff.1 (by simpa using hlen)
  subst this; rfl
 | dead v a i hr hd h1 => simp [AV.ref] at hr
theorem b6b {E : Emb} : Rep E undef (.tup []) := .tup [] [] rfl (fun k v a h => by simp at h)
theorem b5U {ops : Array Oper} {o : Oper} {tmps : Array Value} {E : Emb} {env : Env} (he : a0B E env tmps) {g : Option (Nat × Bool)} (hg : e4t ops o.guard = some g) :
  match g with
  | none => Region.wanted o (yielded ops tmps) = true
  | some (t, want) => (∀ c, look env t = .bool c → Region.wanted o (yielded ops tmps) = (c == want)) ∧ (look env t = .tup [] → Region.wanted o (yielded ops tmps) = false) := by
 unfold e4t at hg
 split at hg
 ·rename_i hgd
  cases hg
  simp [Region.wanted, hgd]
 ·rename_i j want hgd
  split at hg
  ·rename_i t ht
   cases hg
   have hj := Option.bind_eq_some_iff.1 ht
   obtain ⟨oj, h1, h2⟩ := hj
   have get : ∀ {v}, tmps.getD t undef = v → v ≠ undef → tmps[t]? = some v := by
    intro v hv hne
    rw [Array.getD_eq_getD_getElem?] at hv
    cases hx : tmps[t]? with
    | none => simp [hx] at hv; exact absurd hv.symm hne
    | some u => simp [hx] at hv; rw [hv]
   refine ⟨fun c hc => ?_, fun hc => ?_⟩
   ·have hr := he t
    rw [hc] at hr
    have hv' := get (a2u hr) (by simp [undef])
    simp [Region.wanted, hgd, yielded, h1, h2, hv']
   ·have hr := he t
    rw [hc] at hr
    have hv := d3t hr
    have hy : yielded ops tmps j = none := by
     rw [Array.getD_eq_getD_getElem?] at hv
     simp only [yielded, h1, h2, Option.bind_some]
     cases hx : tmps[t]? with
     | none => rfl
     | some u => simp [hx, undef] at hv; subst hv; rfl
    simp [Region.wanted, hgd, hy]
  ·simp at hg
theorem d0H {mu : Nat → Nat → Bool} {rid : Nat} {ops : Array Oper} {n0 : Nat} {K : Env → Heap → Prop} {Q : Exit → Act → World → Prop} {E0 : Emb} (hQ : ∀ a w, Kc n0 nt E0 K a w → Q .normal a w) :
  ∀ (l0 : List Oper) (k : Nat) (l : List AIns), a2C P mu nt rid ops k l0 = some l → ∀ (E : Emb) (env : Env) (tmps : Array Value), tmps.size = nt → HOk E → a0B E env tmps → n0 ≤ E.H.length → Ext (· < n0) E0 E →
   aops P n0 l K env E.H → wpList P ops Q l0 ⟨tmps, []⟩ E.w
 | [], k, l, hl, E, env, tmps, hsz, hok, he, hn, hx, h => by
  simp [a2C] at hl; subst hl
  exact hQ _ _ ⟨E.φ, env, E.H, h, hok, he, rfl, hsz, hn, hx⟩
 | o :: l0, k, l, hl, E, env, tmps, hsz, hok, he, hn, hx, h => by
  simp only [a2C] at hl
  split at hl
  ·rename_i i l' hi hl'
   cases hl
   unfold cins at hi
   split at hi
   ·rename_i hd
    split at hi
    ·rename_i g a hg ha
     cases hi
     have next : ∀ a w, Kc n0 nt E (aops P n0 l' K) a w → wpList P ops Q l0 a w := by
      intro a w ⟨φ, env', H', q1, q2, q3, q4, q5, q6, q7⟩
      have : a = ⟨a.tmps, []⟩ := by cases a; simp at q4; simp [q4]
      rw [this]
      exact d0H hQ l0 (k + 1) l' hl' ⟨φ, H', w⟩ env' a.tmps q5 q2 q3 q6 (hx.trans q7) q1
     have hw := b5U (o := o) he hg
     simp only [aops] at h
     unfold wpList
     split at h
     ·simp only at hw
      rw [if_pos hw]
      exact .inl (a9H ha hd hsz hok he hn h next)
     ·rename_i t want _
      simp only at hw
      simp only [b0b] at h
      have pass : Region.wanted o (yielded ops tmps) = false → aops P n0 l' K (put o.dst (.tup []) env) E.H → wpList P ops Q (o :: l0) ⟨tmps, []⟩ E.w := by
       intro hf h
       unfold wpList
       rw [if_neg (by rw [hf]; simp)]
       refine next _ _ ⟨E.φ, _, E.H, h, hok, ?_, ?_, ?_, hn, Ext.refl _ _⟩
       ·subst hsz; exact a4d he hd b6b
       ·cases o.dst <;> rfl
       ·rw [b7x]; exact hsz
      split at h
      ·rename_i c hc
       have hw' := hw.1 c hc
       split at h
       ·rename_i hcw
        rw [if_pos (by rw [hw', hcw]; simp)]
        exact .inl (a9H ha hd hsz hok he hn h next)
       ·rename_i hcw
        have := pass (by rw [hw']; simpa using hcw) h
        unfold wpList at this
        exact this
      ·rename_i hc
       have hw' := hw.2 hc
       rw [if_neg (by cases want <;> simp)] at h
       have := pass hw' h
       unfold wpList at this
       exact this
      ·exact h.elim
    ·simp at hi
   ·simp at hi
  ·simp at hl
end
end Go.Abs
namespace Go.Abs
inductive AItem where
 | code (c : ACode)
 | inBlock (id : Nat)
 | inLoop (c : ACode)
 | inScope (c : ACode)
inductive ResV where
 | tmp (t : Nat)
 | cell (t : Nat) (n : Option Nat)
structure Cx where
 P : Program
 mu : Nat → Nat → Bool
 f : FuncId
 nt : Nat
 rs : List ResV
 n0 : Nat
def a6k (x : Cx) : AItem → Item → Prop
 | .code ac, .code c => a0Z x.P x.mu x.nt c = some ac
 | .inBlock i, .inBlock j => i = j
 | .inLoop ac, .inLoop c => a0Z x.P x.mu x.nt c = some ac
 | .inScope ac, .inScope c => a0Z x.P x.mu x.nt c = some ac
 | _, _ => False
def a4h (x : Cx) : List AItem → List Item → Prop
 | [], [] => True
 | a :: aXs, b :: bs => a6k x a b ∧ a4h x aXs bs
 | _, _ => False
def cres (P : Program) : List ResultVar → Option (List ResV)
 | [] => some []
 | .tmp t :: r => (cres P r).map (.tmp t :: ·)
 | .cell a t :: r => match P.underlying t with
  | some d => if b4c d then (match a3y P t with
    | some n => (cres P r).map (.cell a (some n) :: ·)
    | none => none) else (cres P r).map (.cell a none :: ·)
  | none => none
def resL (env : Env) (H : Heap) : List ResV → Option (List AV)
 | [] => some []
 | .tmp t :: r => (resL env H r).map (look env t :: ·)
 | .cell t n :: r => (a7p H n (look env t)).bind fun a => (resL env H r).map (a :: ·)
def b9m : List AV → AV
 | [a] => a
 | aXs => .tup aXs
def Cx.Good (x : Cx) : Prop := ∃ fn, x.P.funcs[x.f]? = some fn ∧ cres x.P fn.results.toList = some x.rs
def Safe (x : Cx) (todo : List AItem) (env : Env) (H : Heap) (R : AV → Heap → Prop) : Prop :=
 ∀ (φ : Nat → Option Nat) (w : World) (tmps : Array Value) (b : Frame) (k : List Item) (cs : List Frame), x.Good → x.n0 ≤ H.length → b.fn = x.f → b.kind = .normal → a4h x todo k → tmps.size = x.nt →
  HOk ⟨φ, H, w⟩ → a0B ⟨φ, H, w⟩ env tmps →
  ∃ v w' fr r φ' H', R r H' ∧ HOk ⟨φ', H', w'⟩ ∧ Rep ⟨φ', H', w'⟩ v r ∧ x.n0 ≤ H'.length ∧ Ext (· < x.n0) ⟨φ, H, w⟩ ⟨φ', H', w'⟩ ∧
   Steps x.P (lone (b.at ⟨tmps, []⟩ k) cs w) (lone fr cs w') ∧ fr.fn = x.f ∧ fr.leaving x.P w' (.returned v)
section
variable {x : Cx} {todo : List AItem} {env : Env} {H : Heap} {R : AV → Heap → Prop}
theorem a1e {a : AItem} {k : List Item} (h : a4h x (a :: todo) k) : ∃ b k', k = b :: k' ∧ a6k x a b ∧ a4h x todo k' := by
 cases k with
 | nil => simp [a4h] at h
 | cons b k' => exact ⟨b, k', rfl, h.1, h.2⟩
theorem Safe.one {todo' : List AItem} (hs : ∀ k, a4h x todo k → ∃ k', a4h x todo' k' ∧ ∀ (b : Frame) (tmps : Array Value) (cs : List Frame) (w : World), step x.P (lone (b.at ⟨tmps, []⟩ k) cs w) = .next (lone (b.at ⟨tmps, []⟩ k') cs w))
  (h : Safe x todo' env H R) : Safe x todo env H R := by
 intro φ w tmps b k cs hg hn hb hk ht hsz hok he
 obtain ⟨k', ht', hst⟩ := hs k ht
 obtain ⟨v, w', fr, r, φ', H', q1, q2, q3, q4, q5, q6, q7⟩ := h φ w tmps b k' cs hg hn hb hk ht' hsz hok he
 exact ⟨v, w', fr, r, φ', H', q1, q2, q3, q4, q5, .head (hst b tmps cs w) q6, q7⟩
section inv
variable {P : Program} {mu : Nat → Nat → Bool} {nt : Nat} {c : Code}
theorem e1B {ops : Array Oper} {l : List AIns} {b : List (Nat × Nat × AIns × AIns)} {a : ACode} (h : e6R P ops l b = some a) : ∃ k sd, xchk P ops l k sd = true ∧ a = .regionX (l.take k) (l.drop k) (d9J (l.drop k)) sd := by
 unfold e6R f1R at h
 split at h
 ·rename_i hk; cases h; exact ⟨_, _, hk, rfl⟩
 ·cases h
theorem d2b {id : Nat} {ops : Array Oper} {draw : Bool} {a : ACode} (h : a0Z P mu nt (.region id ops draw) = some a) : (a = .bad ∨ a = .raw id ops draw) ∨ ∃ l, a2C P mu nt id ops 0 ops.toList = some l ∧
  ((a = .region l draw ∧ (draw = true → dchk P ops l = true)) ∨ (draw = true ∧ ∃ k sd, xchk P ops l k sd = true ∧ a = .regionX (l.take k) (l.drop k) (d9J (l.drop k)) sd)) := by
 simp only [a0Z] at h
 split at h
 ·cases h; exact .inl (.inr rfl)
 split at h
 ·rename_i l' h1
  split at h
  ·rename_i hd
   subst hd
   split at h
   ·rename_i hk
    cases h
    exact .inr ⟨l', h1, .inl ⟨rfl, fun _ => hk⟩⟩
   ·cases hB : e6R P ops l' (e4I (a8s ops.toList []) 0 [] l') with
    | none =>
     rw [hB] at h
     cases h
     exact .inl (.inl rfl)
    | some a' =>
     rw [hB] at h
     cases h
     obtain ⟨k, sd, h2, h3⟩ := e1B hB
     exact .inr ⟨l', h1, .inr ⟨rfl, k, sd, h2, h3⟩⟩
  ·rename_i hd
   cases h
   cases draw
   ·exact .inr ⟨l', h1, .inl ⟨rfl, by simp⟩⟩
   ·simp at hd
 ·cases h; exact .inl (.inr rfl)
theorem b3b {id : Nat} {ops : Array Oper} {draw : Bool} {a : ACode} (h : a0Z P mu nt (.region id ops draw) = some a) (hr : ∀ l d, a ≠ .region l d) (hx : ∀ p s1 s2 sd, a ≠ .regionX p s1 s2 sd) (hb : a ≠ .bad ∧ ∀ i o d, a ≠ .raw i o d) : False := by
 rcases d2b h with (h1 | h1) | ⟨l, _, ⟨h1, _⟩ | ⟨_, k, sd, _, h1⟩⟩
 ·exact hb.1 h1
 ·exact hb.2 _ _ _ h1
 ·exact hr _ _ h1
 ·exact hx _ _ _ _ h1
theorem e6l (h : a0Z P mu nt c = some .skip) : c = .skip := by
 cases c
 case region => exact (b3b h (by simp) (by simp) (by simp)).elim
 case skip => rfl
 all_goals simp only [a0Z] at h <;> first | (exfalso; revert h; (repeat' split) <;> simp; done) | (exfalso; simp at h; done)
theorem e3B {l : Nat} (h : a0Z P mu nt c = some (.label l)) : c = .label l := by
 cases c
 case region => exact (b3b h (by simp) (by simp) (by simp)).elim
 all_goals simp only [a0Z] at h <;> first | (cases h; rfl) | (exfalso; revert h; (repeat' split) <;> simp; done) | (exfalso; simp at h; done)
theorem e6n {l : Nat} (h : a0Z P mu nt c = some (.goto l)) : c = .goto l := by
 cases c
 case region => exact (b3b h (by simp) (by simp) (by simp)).elim
 all_goals simp only [a0Z] at h <;> first | (cases h; rfl) | (exfalso; revert h; (repeat' split) <;> simp; done) | (exfalso; simp at h; done)
theorem e9n (h : a0Z P mu nt c = some .ret) : c = .ret := by
 cases c
 case region => exact (b3b h (by simp) (by simp) (by simp)).elim
 all_goals simp only [a0Z] at h <;> first | rfl | (exfalso; revert h; (repeat' split) <;> simp; done) | (exfalso; simp at h; done)
theorem e6p {id : Nat} (h : a0Z P mu nt c = some (.exit id)) : c = .exit id := by
 cases c
 case region => exact (b3b h (by simp) (by simp) (by simp)).elim
 all_goals simp only [a0Z] at h <;> first | (cases h; rfl) | (exfalso; revert h; (repeat' split) <;> simp; done) | (exfalso; simp at h; done)
theorem e9m {a b : ACode} (h : a0Z P mu nt c = some (.seq a b)) : ∃ a' b', c = .seq a' b' ∧ a0Z P mu nt a' = some a ∧ a0Z P mu nt b' = some b := by
 cases c
 case region => exact (b3b h (by simp) (by simp) (by simp)).elim
 case seq a' b' =>
  simp only [a0Z] at h
  split at h
  ·rename_i h1 h2; cases h; exact ⟨_, _, rfl, h1, h2⟩
  ·simp at h
 all_goals simp only [a0Z] at h <;> first | (exfalso; revert h; (repeat' split) <;> simp; done) | (exfalso; simp at h; done)
theorem e6q {s : Src} {a b : ACode} (h : a0Z P mu nt c = some (.cond s a b)) : ∃ o a' b', c = .cond o a' b' ∧ a0O o = some s ∧ a0Z P mu nt a' = some a ∧ a0Z P mu nt b' = some b := by
 cases c
 case region => exact (b3b h (by simp) (by simp) (by simp)).elim
 case cond o a' b' =>
  simp only [a0Z] at h
  split at h
  ·rename_i h0 h1 h2; cases h; exact ⟨_, _, _, rfl, h0, h1, h2⟩
  ·simp at h
 all_goals simp only [a0Z] at h <;> first | (exfalso; revert h; (repeat' split) <;> simp; done) | (exfalso; simp at h; done)
theorem e3C {id : Nat} {a : ACode} (h : a0Z P mu nt c = some (.block id a)) : ∃ a', c = .block id a' ∧ a0Z P mu nt a' = some a := by
 cases c
 case region => exact (b3b h (by simp) (by simp) (by simp)).elim
 case block i a' =>
  simp only [a0Z, Option.map_eq_some_iff] at h
  obtain ⟨a1, h1, h2⟩ := h
  cases h2; exact ⟨_, rfl, h1⟩
 all_goals simp only [a0Z] at h <;> first | (exfalso; revert h; (repeat' split) <;> simp; done) | (exfalso; simp at h; done)
theorem e6m {a : ACode} (h : a0Z P mu nt c = some (.loop a)) : ∃ a', c = .loop a' ∧ a0Z P mu nt a' = some a := by
 cases c
 case region => exact (b3b h (by simp) (by simp) (by simp)).elim
 case loop a' =>
  simp only [a0Z, Option.map_eq_some_iff] at h
  obtain ⟨a1, h1, h2⟩ := h
  cases h2; exact ⟨_, rfl, h1⟩
 all_goals simp only [a0Z] at h <;> first | (exfalso; revert h; (repeat' split) <;> simp; done) | (exfalso; simp at h; done)
theorem e3z {a : ACode} (h : a0Z P mu nt c = some (.scope a)) : ∃ a', c = .scope a' ∧ a0Z P mu nt a' = some a := by
 cases c
 case region => exact (b3b h (by simp) (by simp) (by simp)).elim
 case scope a' =>
  simp only [a0Z, Option.map_eq_some_iff] at h
  obtain ⟨a1, h1, h2⟩ := h
  cases h2; exact ⟨_, rfl, h1⟩
 all_goals simp only [a0Z] at h <;> first | (exfalso; revert h; (repeat' split) <;> simp; done) | (exfalso; simp at h; done)
theorem d0v {l : List AIns} {d : Bool} (h : a0Z P mu nt c = some (.region l d)) : ∃ id ops, c = .region id ops d ∧ a2C P mu nt id ops 0 ops.toList = some l ∧ (d = true → dchk P ops l = true) := by
 cases c
 case region id ops draw =>
  rcases d2b h with (h1 | h1) | ⟨l', h0, ⟨h1, h2⟩ | ⟨_, k, sd, _, h1⟩⟩
  ·cases h1
  ·cases h1
  ·cases h1; exact ⟨_, _, rfl, h0, h2⟩
  ·cases h1
 all_goals simp only [a0Z] at h <;> first | (exfalso; revert h; (repeat' split) <;> simp; done) | (exfalso; simp at h; done)
theorem d7I {p s1 s2 : List AIns} {sd : List (Nat × Nat)} (h : a0Z P mu nt c = some (.regionX p s1 s2 sd)) : ∃ id ops l k, c = .region id ops true ∧ a2C P mu nt id ops 0 ops.toList = some l ∧ xchk P ops l k sd = true ∧ p = l.take k ∧ s1 = l.drop k ∧ s2 = d9J (l.drop k) := by
 cases c
 case region id ops draw =>
  rcases d2b h with (h1 | h1) | ⟨l', h0, ⟨h1, h2⟩ | ⟨rfl, k, sd', h2, h1⟩⟩
  ·cases h1
  ·cases h1
  ·cases h1
  ·cases h1; exact ⟨_, _, _, _, rfl, h0, h2, rfl, rfl, rfl⟩
 all_goals simp only [a0Z] at h <;> first | (exfalso; revert h; (repeat' split) <;> simp; done) | (exfalso; simp at h; done)
end inv
theorem a1A {c : ACode} {b : Item} (h : a6k x (.code c) b) : ∃ c', b = .code c' ∧ a0Z x.P x.mu x.nt c' = some c := by
 cases b <;> first | exact ⟨_, rfl, h⟩ | (simp [a6k] at h; done)
theorem c6z {c : ACode} {b : Item} (h : a6k x (.inLoop c) b) : ∃ c', b = .inLoop c' ∧ a0Z x.P x.mu x.nt c' = some c := by
 cases b <;> first | exact ⟨_, rfl, h⟩ | (simp [a6k] at h; done)
theorem c0d {i : Nat} {b : Item} (h : a6k x (.inBlock i) b) : b = .inBlock i := by
 cases b <;> first | (simp only [a6k] at h; subst h; rfl) | (simp [a6k] at h; done)
theorem Safe.skip (h : Safe x todo env H R) : Safe x (.code .skip :: todo) env H R := by
 refine Safe.one (fun k hk => ?_) h
 obtain ⟨b, k', rfl, h1, h2⟩ := a1e hk
 obtain ⟨c, rfl, h1⟩ := a1A h1
 obtain rfl := e6l h1
 exact ⟨k', h2, fun _ _ _ _ => step_skip⟩
theorem Safe.label {l : Nat} (h : Safe x todo env H R) : Safe x (.code (.label l) :: todo) env H R := by
 refine Safe.one (fun k hk => ?_) h
 obtain ⟨b, k', rfl, h1, h2⟩ := a1e hk
 obtain ⟨c, rfl, h1⟩ := a1A h1
 obtain rfl := e3B h1
 exact ⟨k', h2, fun _ _ _ _ => step_label⟩
theorem d9S {P : Program} {b : Frame} {a : Act} {cs : List Frame} {w : World} {c : Code} {k : List Item} : step P (lone (b.at a (.code (.scope c) :: k)) cs w) = .next (lone (b.at a (.code c :: .inScope c :: k)) cs w) :=
 step_lone_go (by simp [stepG, stepG.exec, Frame.at])
theorem d3g {P : Program} {b : Frame} {a : Act} {cs : List Frame} {w : World} {c : Code} {k : List Item} : step P (lone (b.at a (.inScope c :: k)) cs w) = .next (lone (b.at a k) cs w) :=
 step_lone_go (by simp [stepG, stepG.exec, Frame.at])
theorem b9f {c : ACode} {b : Item} (h : a6k x (.inScope c) b) : ∃ c', b = .inScope c' ∧ a0Z x.P x.mu x.nt c' = some c := by
 cases b <;> first | exact ⟨_, rfl, h⟩ | (simp [a6k] at h; done)
theorem Safe.scope {a : ACode} (h : Safe x (.code a :: .inScope a :: todo) env H R) : Safe x (.code (.scope a) :: todo) env H R := by
 refine Safe.one (fun k hk => ?_) h
 obtain ⟨i, k', rfl, h1, h2⟩ := a1e hk
 obtain ⟨c, rfl, h1⟩ := a1A h1
 obtain ⟨a', rfl, g1⟩ := e3z h1
 exact ⟨.code a' :: .inScope a' :: k', ⟨g1, g1, h2⟩, fun _ _ _ _ => d9S⟩
theorem Safe.inScope {a : ACode} (h : Safe x todo env H R) : Safe x (.inScope a :: todo) env H R := by
 refine Safe.one (fun k hk => ?_) h
 obtain ⟨i, k', rfl, h1, h2⟩ := a1e hk
 obtain ⟨a', rfl, h1⟩ := b9f h1
 exact ⟨k', h2, fun _ _ _ _ => d3g⟩
theorem Safe.seq {a b : ACode} (h : Safe x (.code a :: .code b :: todo) env H R) : Safe x (.code (.seq a b) :: todo) env H R := by
 refine Safe.one (fun k hk => ?_) h
 obtain ⟨i, k', rfl, h1, h2⟩ := a1e hk
 obtain ⟨c, rfl, h1⟩ := a1A h1
 obtain ⟨a', b', rfl, g1, g2⟩ := e9m h1
 exact ⟨.code a' :: .code b' :: k', ⟨g1, g2, h2⟩, fun _ _ _ _ => step_seq⟩
theorem Safe.block {id : Nat} {a : ACode} (h : Safe x (.code a :: .inBlock id :: todo) env H R) : Safe x (.code (.block id a) :: todo) env H R := by
 refine Safe.one (fun k hk => ?_) h
 obtain ⟨i, k', rfl, h1, h2⟩ := a1e hk
 obtain ⟨c, rfl, h1⟩ := a1A h1
 obtain ⟨a', rfl, g1⟩ := e3C h1
 exact ⟨.code a' :: .inBlock id :: k', ⟨g1, rfl, h2⟩, fun _ _ _ _ => step_block⟩
theorem Safe.inBlock {id : Nat} (h : Safe x todo env H R) : Safe x (.inBlock id :: todo) env H R := by
 refine Safe.one (fun k hk => ?_) h
 obtain ⟨i, k', rfl, h1, h2⟩ := a1e hk
 obtain rfl := c0d h1
 exact ⟨k', h2, fun _ _ _ _ => step_inBlock⟩
theorem Safe.loop {a : ACode} (h : Safe x (.inLoop a :: todo) env H R) : Safe x (.code (.loop a) :: todo) env H R := by
 intro φ w tmps b k cs hg hn hb hk ht hsz hok he
 obtain ⟨i, k', rfl, h1, h2⟩ := a1e ht
 obtain ⟨c, rfl, h1⟩ := a1A h1
 obtain ⟨a', rfl, g1⟩ := e6m h1
 obtain ⟨v, w', fr, r, φ', H', q1, q2, q3, q4, q5, q6, q7⟩ := h φ w tmps b (.inLoop a' :: k') cs hg hn hb hk ⟨g1, h2⟩ hsz hok he
 refine ⟨v, w', fr, r, φ', H', q1, q2, q3, q4, q5, ?_, q7⟩
 -- both begin with the same state behind one step
 obtain ⟨n, hn'⟩ := q6
 cases n with
 | zero =>
  simp only [runN] at hn'
  cases hn'
  exfalso
  obtain ⟨_, hl⟩ := q7
  simp [Frame.leaving, Frame.at] at hl
 | succ n =>
  simp only [runN, step_inLoop] at hn'
  exact .head step_loop ⟨n, hn'⟩
theorem Safe.inLoop {a : ACode} (h : Safe x (.code a :: .inLoop a :: todo) env H R) : Safe x (.inLoop a :: todo) env H R := by
 refine Safe.one (fun k hk => ?_) h
 obtain ⟨i, k', rfl, h1, h2⟩ := a1e hk
 obtain ⟨a', rfl, h1⟩ := c6z h1
 exact ⟨.code a' :: .inLoop a' :: k', ⟨h1, h1, h2⟩, fun _ _ _ _ => step_inLoop⟩
theorem Safe.cond {s : Src} {a b : ACode} (h : e1n (s.ev env) fun c => if c then Safe x (.code a :: todo) env H R else Safe x (.code b :: todo) env H R) : Safe x (.code (.cond s a b) :: todo) env H R := by
 intro φ w tmps bf k cs hg hn hb hk ht hsz hok he
 obtain ⟨i, k', rfl, h1, h2⟩ := a1e ht
 obtain ⟨c, rfl, h1⟩ := a1A h1
 obtain ⟨o, a', b', rfl, g0, g1, g2⟩ := e6q h1
 simp only [e1n] at h
 split at h
 ·rename_i c hc
  have hr := a0t he g0
  rw [hc] at hr
  have hv := a2u hr
  cases c
  ·simp only [Bool.false_eq_true, if_false] at h
   obtain ⟨v, w', fr, r, φ', H', q1, q2, q3, q4, q5, q6, q7⟩ := h φ w tmps bf (.code b' :: k') cs hg hn hb hk ⟨g2, h2⟩ hsz hok he
   exact ⟨v, w', fr, r, φ', H', q1, q2, q3, q4, q5, .head (step_cond hv) (by simpa using q6), q7⟩
  ·simp only [if_true] at h
   obtain ⟨v, w', fr, r, φ', H', q1, q2, q3, q4, q5, q6, q7⟩ := h φ w tmps bf (.code a' :: k') cs hg hn hb hk ⟨g1, h2⟩ hsz hok he
   exact ⟨v, w', fr, r, φ', H', q1, q2, q3, q4, q5, .head (step_cond hv) (by simpa using q6), q7⟩
 ·exact h.elim
def c8H (id : Nat) : List AItem → Option (List AItem)
 | .inBlock i :: k => if i = id then some k else c8H id k
 | _ :: k => c8H id k
 | [] => none
theorem b2w {id : Nat} : ∀ {todo : List AItem} {k : List Item} {todo' : List AItem}, a4h x todo k → c8H id todo = some todo' → ∃ k', exitTo id k = some k' ∧ a4h x todo' k'
 | [], _, _, _, h => by simp [c8H] at h
 | a :: todo, k, todo', hr, h => by
  obtain ⟨b, k', rfl, h1, h2⟩ := a1e hr
  cases a with
  | code c =>
   obtain ⟨c', rfl, _⟩ := a1A h1
   obtain ⟨k2, g1, g2⟩ := b2w h2 (by simpa [c8H] using h)
   exact ⟨k2, by simpa [exitTo] using g1, g2⟩
  | inLoop c =>
   obtain ⟨c', rfl, _⟩ := c6z h1
   obtain ⟨k2, g1, g2⟩ := b2w h2 (by simpa [c8H] using h)
   exact ⟨k2, by simpa [exitTo] using g1, g2⟩
  | inScope c =>
   obtain ⟨c', rfl, _⟩ := b9f h1
   obtain ⟨k2, g1, g2⟩ := b2w h2 (by simpa [c8H] using h)
   exact ⟨k2, by simpa [exitTo] using g1, g2⟩
  | inBlock i =>
   obtain rfl := c0d h1
   simp only [c8H] at h
   split at h
   ·rename_i hi
    cases h
    exact ⟨k', by simp [exitTo, hi], h2⟩
   ·rename_i hi
    obtain ⟨k2, g1, g2⟩ := b2w h2 h
    exact ⟨k2, by simp [exitTo, hi]; exact g1, g2⟩
theorem Safe.exit {id : Nat} {todo' : List AItem} (he : c8H id todo = some todo') (h : Safe x todo' env H R) : Safe x (.code (.exit id) :: todo) env H R := by
 refine Safe.one (fun k hk => ?_) h
 obtain ⟨i, k', rfl, h1, h2⟩ := a1e hk
 obtain ⟨c, rfl, h1⟩ := a1A h1
 obtain rfl := e6p h1
 obtain ⟨k2, g1, g2⟩ := b2w h2 he
 exact ⟨k2, g2, fun _ _ _ _ => step_exit g1⟩
def c8G : ACode → Nat → Option ACode
 | .seq a b, l => match c8G a l with
  | some r => some (.seq r b)
  | none => c8G b l
 | .label m, l => if m == l then some .skip else none
 | _, _ => none
def c8F (l : Nat) : List AItem → Option (List AItem)
 | .inScope a :: k => match c8G a l with
  | some r => some (.code r :: .inScope a :: k)
  | none => c8F l k
 | _ :: k => c8F l k
 | [] => none
theorem e4O {P : Program} {mu : Nat → Nat → Bool} {nt : Nat} (l : Nat) : ∀ {c : Code} {a : ACode}, a0Z P mu nt c = some a →
  (∃ r r', findLabel c l = some r ∧ c8G a l = some r' ∧ a0Z P mu nt r = some r') ∨ (findLabel c l = none ∧ c8G a l = none) := by
 intro c
 induction c with
 | seq c d ih1 ih2 =>
  intro a h
  simp only [a0Z] at h
  split at h
  ·rename_i a1 b1 h1 h2
   cases h
   rcases ih1 h1 with ⟨r, r', f1, f2, f3⟩ | ⟨f1, f2⟩
   ·exact .inl ⟨.seq r d, .seq r' b1, by simp only [findLabel, f1], by simp only [c8G, f2], by simp only [a0Z, f3, h2]⟩
   ·rcases ih2 h2 with ⟨r, r', g1, g2, g3⟩ | ⟨g1, g2⟩
    ·exact .inl ⟨r, r', by simp only [findLabel, f1]; exact g1, by simp only [c8G, f2]; exact g2, g3⟩
    ·exact .inr ⟨by simp only [findLabel, f1]; exact g1, by simp only [c8G, f2]; exact g2⟩
  ·simp at h
 | label m =>
  intro a h
  simp only [a0Z, Option.some.injEq] at h
  subst h
  by_cases e : (m == l) = true
  ·exact .inl ⟨.skip, .skip, by simp only [findLabel]; rw [if_pos e], by simp only [c8G]; rw [if_pos e], rfl⟩
  ·exact .inr ⟨by simp only [findLabel]; rw [if_neg e], by simp only [c8G]; rw [if_neg e]⟩
 | region id ops draw =>
  intro a h
  refine .inr ⟨rfl, ?_⟩
  rcases d2b h with (h1 | h1) | ⟨l, _, ⟨h1, _⟩ | ⟨_, k, sd, _, h1⟩⟩ <;> subst h1 <;> rfl
 | _ =>
  intro a h
  refine .inr ⟨rfl, ?_⟩
  simp only [a0Z] at h
  first
   | (cases h; rfl)
   | (split at h <;> first | (cases h; rfl) | (simp at h; done))
   | (rw [Option.map_eq_some_iff] at h; obtain ⟨_, _, rfl⟩ := h; rfl)
   | (simp at h; done)
theorem b2v {l : Nat} : ∀ {todo : List AItem} {k : List Item} {todo' : List AItem}, a4h x todo k → c8F l todo = some todo' → ∃ k', gotoIn l k = some k' ∧ a4h x todo' k'
 | [], _, _, _, h => by simp [c8F] at h
 | a :: todo, k, todo', hr, h => by
  obtain ⟨b, k', rfl, h1, h2⟩ := a1e hr
  cases a with
  | code c =>
   obtain ⟨c', rfl, _⟩ := a1A h1
   obtain ⟨k2, g1, g2⟩ := b2v h2 (by simpa [c8F] using h)
   exact ⟨k2, by simpa [gotoIn] using g1, g2⟩
  | inLoop c =>
   obtain ⟨c', rfl, _⟩ := c6z h1
   obtain ⟨k2, g1, g2⟩ := b2v h2 (by simpa [c8F] using h)
   exact ⟨k2, by simpa [gotoIn] using g1, g2⟩
  | inBlock i =>
   obtain rfl := c0d h1
   obtain ⟨k2, g1, g2⟩ := b2v h2 (by simpa [c8F] using h)
   exact ⟨k2, by simpa [gotoIn] using g1, g2⟩
  | inScope c =>
   obtain ⟨c', rfl, hc⟩ := b9f h1
   simp only [c8F] at h
   rcases e4O l hc with ⟨r, r', f1, f2, f3⟩ | ⟨f1, f2⟩
   ·rw [f2] at h
    cases h
    exact ⟨.code r :: .inScope c' :: k', by simp only [gotoIn, f1], ⟨f3, hc, h2⟩⟩
   ·rw [f2] at h
    obtain ⟨k2, g1, g2⟩ := b2v h2 h
    exact ⟨k2, by simp only [gotoIn, f1]; exact g1, g2⟩
theorem e2c {P : Program} {b : Frame} {a : Act} {cs : List Frame} {w : World} {l : Nat} {k k' : List Item} (h : gotoIn l k = some k') : step P (lone (b.at a (.code (.goto l) :: k)) cs w) = .next (lone (b.at a k') cs w) :=
 step_lone_go (by simp [stepG, stepG.exec, Frame.at, h])
theorem Safe.goto {l : Nat} {todo' : List AItem} (he : c8F l todo = some todo') (h : Safe x todo' env H R) : Safe x (.code (.goto l) :: todo) env H R := by
 refine Safe.one (fun k hk => ?_) h
 obtain ⟨i, k', rfl, h1, h2⟩ := a1e hk
 obtain ⟨c, rfl, h1⟩ := a1A h1
 obtain rfl := e6n h1
 obtain ⟨k2, g1, g2⟩ := b2v h2 he
 exact ⟨k2, g2, fun _ _ _ _ => e2c g1⟩
theorem Safe.region {l : List AIns} (h : aops x.P x.n0 l (fun env' H' => Safe x todo env' H' R) env H) : Safe x (.code (.region l false) :: todo) env H R := by
 intro φ w tmps b k cs hg hn hb hk ht hsz hok he
 obtain ⟨i, k', rfl, h1, h2⟩ := a1e ht
 obtain ⟨c, rfl, h1⟩ := a1A h1
 obtain ⟨id, ops, rfl, g1, _⟩ := d0v h1
 have hw := d0H (P := x.P) (nt := x.nt) (rid := id) (ops := ops) (n0 := x.n0) (K := fun env' H' => Safe x todo env' H' R) (E0 := ⟨φ, H, w⟩)
  (Q := fun e a w' => e = .normal ∧ Kc x.n0 x.nt ⟨φ, H, w⟩ (fun env' H' => Safe x todo env' H' R) a w') (fun a w h => ⟨rfl, h⟩) ops.toList 0 l g1 ⟨φ, H, w⟩ env tmps hsz hok he hn (Ext.refl _ _) h
 obtain ⟨e, a', w', ⟨rfl, φ1, env1, H1, s1, s2, s3, s4, s5, s6, s7⟩, harr⟩ := wp_region_list hw b k' cs
 have ha : a' = ⟨a'.tmps, []⟩ := by cases a'; simp at s4; simp [s4]
 rw [ha] at harr
 obtain ⟨v, w2, fr, r, φ', H', q1, q2, q3, q4, q5, q6, q7⟩ := s1 φ1 w' a'.tmps b k' cs hg s6 hb hk h2 s5 s2 s3
 exact ⟨v, w2, fr, r, φ', H', q1, q2, q3, q4, s7.trans q5, Steps.trans harr q6, q7⟩
theorem c4R {P : Program} {E : Emb} {tmps : Array Value} {env : Env} (hok : HOk E) (he : a0B E env tmps) : ∀ {rv : List ResultVar} {rs : List ResV} {aXs : List AV}, cres P rv = some rs → resL env E.H rs = some aXs →
  ∃ vs : List Value, (rv.mapM fun (r : ResultVar) => match r with
   | .tmp t => (pure (tmps.getD t undef) : Sem Value)
   | .cell a t => do loadVar t (← asAddr (tmps.getD a undef))).run P E.w = .ok vs E.w ∧ vs.length = aXs.length ∧ ∀ (k : Nat) v a, vs[k]? = some v → aXs[k]? = some a → Rep E v a
 | [], rs, aXs, h1, h2 => by
  simp [cres] at h1; subst h1
  simp [resL] at h2; subst h2
  exact ⟨[], rfl, rfl, fun k v a h => by simp at h⟩
 | .tmp t :: rv, rs, aXs, h1, h2 => by
  simp only [cres, Option.map_eq_some_iff] at h1
  obtain ⟨rs', g1, rfl⟩ := h1
  simp only [resL, Option.map_eq_some_iff] at h2
  obtain ⟨as', g2, rfl⟩ := h2
  obtain ⟨vs, q1, q2, q3⟩ := c4R hok he g1 g2
  refine ⟨tmps.getD t undef :: vs, by simp only [List.mapM_cons, Sem.run_bind, Sem.run_pure, Result.andThen_ok, q1], by simp [q2], fun k v a hk ha => ?_⟩
  cases k with
  | zero => simp only [List.getElem?_cons_zero, Option.some.injEq] at hk ha; subst hk; subst ha; exact he t
  | succ k => exact q3 k v a (by simpa using hk) (by simpa using ha)
 | .cell p t :: rv, rs, aXs, h1, h2 => by
  simp only [cres] at h1
  have main : ∀ (n : Option Nat) (d : TypeDesc) (rs' : List ResV), P.underlying t = some d → ((n = none ∧ b4c d = false) ∨ ∃ m, n = some m ∧ b4c d = true ∧ a3y P t = some m) → cres P rv = some rs' → rs = .cell p n :: rs' →
    ∃ vs : List Value, ((ResultVar.cell p t :: rv).mapM fun (r : ResultVar) => match r with
     | .tmp t => (pure (tmps.getD t undef) : Sem Value)
     | .cell a t => do loadVar t (← asAddr (tmps.getD a undef))).run P E.w = .ok vs E.w ∧ vs.length = aXs.length ∧ ∀ (k : Nat) v a, vs[k]? = some v → aXs[k]? = some a → Rep E v a := by
   intro n d rs' hd hn g1 hrs
   subst hrs
   simp only [resL, Option.bind_eq_some_iff, Option.map_eq_some_iff] at h2
   obtain ⟨a, ha, as', g2, rfl⟩ := h2
   obtain ⟨vs, q1, q2, q3⟩ := c4R hok he g1 g2
   obtain ⟨v, hv, hr⟩ := b9I (P := P) hok (he p) hd hn ha
   have hl : (do loadVar t (← asAddr (tmps.getD p undef)) : Sem Value).run P E.w = .ok v E.w := by
    simp only [a7p, Option.bind_eq_some_iff] at ha
    obtain ⟨cs, hat, _⟩ := ha
    obtain ⟨b, o, us, hp, _⟩ := d9r hok (he p) hat
    rw [hp] at hv ⊢
    simpa [Instr.loadAt, Instr.sureAddr, asAddr] using hv
   refine ⟨v :: vs, by simp only [List.mapM_cons, Sem.run_bind]; rw [← Sem.run_bind, hl]; simp only [Result.andThen_ok, q1, Sem.run_pure], by simp [q2], fun k v a hk ha => ?_⟩
   cases k with
   | zero => simp only [List.getElem?_cons_zero, Option.some.injEq] at hk ha; subst hk; subst ha; exact hr
   | succ k => exact q3 k v a (by simpa using hk) (by simpa using ha)
  split at h1
  ·rename_i d hd
   split at h1
   ·rename_i hag
    split at h1
    ·rename_i n hn
     simp only [Option.map_eq_some_iff] at h1
     obtain ⟨rs', g1, rfl⟩ := h1
     exact main (some n) d rs' hd (.inr ⟨n, rfl, hag, hn⟩) g1 rfl
    ·simp at h1
   ·rename_i hag
    simp only [Option.map_eq_some_iff] at h1
    obtain ⟨rs', g1, rfl⟩ := h1
    exact main none d rs' hd (.inl ⟨rfl, by simpa using hag⟩) g1 rfl
  ·simp at h1
theorem b6a {E : Emb} {tmps : Array Value} {env : Env} (hok : HOk E) (he : a0B E env tmps) {fn : Func} {P : Program} {rs : List ResV} {aXs : List AV} (h1 : cres P fn.results.toList = some rs) (h2 : resL env E.H rs = some aXs) :
  ∃ v, (results fn tmps).run P E.w = .ok v E.w ∧ Rep E v (b9m aXs) := by
 obtain ⟨vs, q1, q2, q3⟩ := c4R hok he h1 h2
 have hm : (fn.results.mapM fun (r : ResultVar) => match r with
   | .tmp t => (pure (tmps.getD t undef) : Sem Value)
   | .cell a t => do loadVar t (← asAddr (tmps.getD a undef))).run P E.w = .ok vs.toArray E.w := by
  rw [Array.mapM_eq_mapM_toList, Sem.run_map, q1]; rfl
 refine ⟨if h : vs.toArray.size = 1 then vs.toArray[0] else .tuple vs.toArray, ?_, ?_⟩
 ·unfold results
  rw [Sem.run_bind]
  exact (congrArg (fun r => Result.andThen r _) hm).trans rfl
 ·cases vs with
  | nil =>
   cases aXs with
   | nil => exact .tup [] [] rfl (fun k v a h => by simp at h)
   | cons a aXs => simp at q2
  | cons v vs =>
   cases vs with
   | nil =>
    cases aXs with
    | nil => simp at q2
    | cons a aXs =>
     cases aXs with
     | nil => exact q3 0 v a rfl rfl
     | cons b aXs => simp at q2
   | cons u vs =>
    cases aXs with
    | nil => simp at q2
    | cons a aXs =>
     cases aXs with
     | nil => simp at q2
     | cons b aXs =>
      rw [dif_neg (by simp)]
      exact .tup _ _ q2 q3
theorem Safe.fin (hr : ∀ (k : List Item), a4h x todo k → k = [] ∨ ∃ k', k = .code .ret :: k') {aXs : List AV} (h1 : resL env H x.rs = some aXs) (h : R (b9m aXs) H) : Safe x todo env H R := by
 intro φ w tmps b k cs hg hn hb hk ht hsz hok he
 obtain ⟨fn, hf, hc⟩ := hg
 obtain ⟨v, q1, q2⟩ := b6a (E := ⟨φ, H, w⟩) hok he hc h1
 rcases hr k ht with rfl | ⟨k', rfl⟩
 ·exact ⟨v, w, _, b9m aXs, φ, H, h, hok, q2, hn, Ext.refl _ _, .one step_end, hb, rfl, rfl, hk, fn, hb ▸ hf, q1⟩
 ·exact ⟨v, w, _, b9m aXs, φ, H, h, hok, q2, hn, Ext.refl _ _, .one step_ret, hb, rfl, rfl, hk, fn, hb ▸ hf, q1⟩
theorem Safe.ret {aXs : List AV} (h1 : resL env H x.rs = some aXs) (h : R (b9m aXs) H) : Safe x (.code .ret :: todo) env H R := by
 refine Safe.fin (fun k hk => ?_) h1 h
 obtain ⟨i, k', rfl, g1, g2⟩ := a1e hk
 obtain ⟨c, rfl, g1⟩ := a1A g1
 obtain rfl := e9n g1
 exact .inr ⟨k', rfl⟩
theorem Safe.done {aXs : List AV} (h1 : resL env H x.rs = some aXs) (h : R (b9m aXs) H) : Safe x [] env H R := by
 refine Safe.fin (fun k hk => ?_) h1 h
 cases k with
 | nil => exact .inl rfl
 | cons b k => simp [a4h] at hk
end
def fchk (P : Program) (mu : Nat → Nat → Bool) (fn : Func) : Option (ACode × List ResV × Nat) :=
 if fn.name == "runtime.NumGoroutine" then none else
 match fn.body with
 | some c => match a0Z P mu fn.ntmps c, cres P fn.results.toList with
  | some ac, some rs => some (ac, rs, fn.ntmps)
  | _, _ => none
 | none => none
def b8k (k : Nat) : List AV → Env
 | [] => []
 | a :: aXs => (k, a) :: b8k (k + 1) aXs
theorem b9H : ∀ (aXs : List AV) (k t : Nat), look (b8k k aXs) t = if k ≤ t then (aXs[t - k]?).getD .top else .top
 | [], k, t => by simp [b8k, look]
 | a :: aXs, k, t => by
  simp only [b8k, look]
  by_cases h : k = t
  ·subst h; simp
  ·rw [if_neg h, b9H aXs (k + 1) t]
   by_cases h' : k ≤ t
   ·rw [if_pos h', if_pos (by omega)]
    obtain ⟨m, hm⟩ : ∃ m, t - k = m + 1 := ⟨t - k - 1, by omega⟩
    rw [hm, show t - (k + 1) = m by omega]; simp
   ·rw [if_neg h', if_neg (by omega)]
def a0C (H : Heap) : Prop := ∀ (id : Nat) blk, H[id]? = some (some blk) → ∀ a ∈ blk.flat, Ref (· < H.length) a
theorem a0m.intro {P : Program} {mu : Nat → Nat → Bool} {f : FuncId} {fn : Func} (hf : P.funcs[f]? = some fn) {ac : ACode} {rs : List ResV} {nt : Nat} (hc : fchk P mu fn = some (ac, rs, nt))
  {args : List AV} {H : Heap} {R : AV → Heap → Prop} (ha : args.length ≤ nt) (h : a0C H → Safe ⟨P, mu, f, nt, rs, H.length⟩ [.code ac] (b8k 0 args) H R) : a0m P f args H R := by
 unfold fchk at hc
 split at hc
 ·simp at hc
 ·rename_i hname
  split at hc
  ·rename_i c hb
   split at hc
   ·rename_i ac' rs' h1 h2
    cases hc
    refine ⟨⟨fn, hf, by simpa using hname, by simp [hb]⟩, fun φ w vs hok hl hr => ?_⟩
    intro cs
    let b : Frame := { (default : Frame) with fn := f, kind := .normal }
    have henter : Frame.enter P f vs.toArray .normal = b.at ⟨vs.toArray ++ Array.replicate (fn.ntmps - vs.toArray.size) undef, []⟩ [.code c] := by
     simp [Frame.enter, Frame.at, hf, hb, b]
    obtain ⟨v, w', fr, r, φ', H', q1, q2, q3, q4, q5, q6, q7, q8⟩ := h (fun id blk hl => hok.refs hl) φ w (vs.toArray ++ Array.replicate (fn.ntmps - vs.toArray.size) undef) b [.code c] cs
     ⟨fn, hf, h2⟩ (Nat.le_refl _) rfl rfl ⟨h1, trivial⟩ (by simp; omega) hok (by
      intro t
      rw [b9H]
      simp only [Nat.zero_le, if_true, Nat.sub_zero]
      rcases Nat.lt_or_ge t args.length with ht | ht
      ·rw [List.getElem?_eq_getElem ht, Option.getD_some]
       have : (vs.toArray ++ Array.replicate (fn.ntmps - vs.toArray.size) undef).getD t undef = vs[t]'(by omega) := by
        rw [Array.getD_eq_getD_getElem?, Array.getElem?_append_left (by simp; omega)]
        simp [List.getElem?_eq_getElem (show t < vs.length by omega)]
       rw [this]
       exact hr t _ _ (List.getElem?_eq_getElem (by omega)) (List.getElem?_eq_getElem ht)
      ·rw [List.getElem?_eq_none ht]; exact .top _)
    rw [← henter] at q6
    exact ⟨.returned v, w', fr, ⟨v, r, φ', H', rfl, q1, q2, q3, q4, q5⟩, q6, q7, q8⟩
   ·simp at hc
  ·simp at hc
end Go.Abs
namespace Go.Abs
theorem e7u (P : Program) (n0 : Nat) (K : Env → Heap → Prop) (env : Env) (H : Heap) : aops P n0 [] K env H = K env H := rfl
theorem e4M (P : Program) (n0 : Nat) (d : Option Nat) (o : AOp) (l : List AIns) (K : Env → Heap → Prop) (env : Env) (H : Heap) :
  aops P n0 (⟨d, none, o⟩ :: l) K env H = a3W P n0 o d (aops P n0 l K) env H := rfl
theorem e4L (P : Program) (n0 : Nat) (d : Option Nat) (t : Nat) (want : Bool) (o : AOp) (l : List AIns) (K : Env → Heap → Prop) (env : Env) (H : Heap) :
  aops P n0 (⟨d, some (t, want), o⟩ :: l) K env H = b0b want (look env t) fun c => if c = want then a3W P n0 o d (aops P n0 l K) env H else aops P n0 l K (put d (.tup []) env) H := rfl
theorem f0u (P : Program) (n0 : Nat) (o : POp) (d : Option Nat) (K : Env → Heap → Prop) (env : Env) (H : Heap) : a3W P n0 (.p o) d K env H = a9a (pv o env H) fun v => K (put d v env) H := rfl
theorem f0v (P : Program) (n0 : Nat) (o : EOp) (d : Option Nat) (K : Env → Heap → Prop) (env : Env) (H : Heap) : a3W P n0 (.e o) d K env H = b5q (ev n0 o env H) fun v env' H' => K (put d v env') H' := rfl
def ares (K : Env → Heap → Prop) (d : Option Nat) (env : Env) : AV → Heap → Prop := fun r H' => K (put d r env) H'
theorem f0x (K : Env → Heap → Prop) (d : Option Nat) (env : Env) (r : AV) (H' : Heap) : ares K d env r H' = K (put d r env) H' := rfl
theorem e1F (P : Program) (n0 : Nat) (f : FuncId) (args : List Src) (d : Option Nat) (K : Env → Heap → Prop) (env : Env) (H : Heap) :
  a3W P n0 (.call f args) d K env H = a0m P f (args.map (·.ev env)) H (ares K d env) := rfl
def d5R (P : Program) (g : AV) (args : List AV) (H : Heap) (R : AV → Heap → Prop) : Prop := match g with
 | .fn f caps => a0m P f (args ++ caps) H R
 | .bfn f bs => a0m P f (bs ++ args) H R
 | _ => False
theorem d8l (P : Program) (n0 : Nat) (g : Src) (args : List Src) (d : Option Nat) (K : Env → Heap → Prop) (env : Env) (H : Heap) :
  a3W P n0 (.callv g args) d K env H = d5R P (g.ev env) (args.map (·.ev env)) H (ares K d env) := by
 simp only [a3W, d5R, ares]; cases g.ev env <;> rfl
theorem e4z (P : Program) (f : FuncId) (caps args : List AV) (H : Heap) (R : AV → Heap → Prop) : d5R P (.fn f caps) args H R = a0m P f (args ++ caps) H R := rfl
theorem e0n (v : AV) (k : AV → Prop) : a9a (some v) k = k v := rfl
theorem e0o (k : AV → Prop) : a9a none k = False := rfl
theorem e1t (v : AV) (e : Env) (h : Heap) (k : AV → Env → Heap → Prop) : b5q (some (v, e, h)) k = k v e h := rfl
theorem e1u (k : AV → Env → Heap → Prop) : b5q none k = False := rfl
theorem d7P (want b : Bool) (k : Bool → Prop) : b0b want (.bool b) k = k b := rfl
theorem d5p (want : Bool) (k : Bool → Prop) : b0b want (.tup []) k = k (!want) := rfl
theorem e1m (b : Bool) (k : Bool → Prop) : e1n (.bool b) k = k b := rfl
theorem f2h (env : Env) (n : Nat) : (Src.t n).ev env = look env n := rfl
theorem f2i (env : Env) (a : AV) : (Src.c a).ev env = a := rfl
theorem e3m (k : Nat) (v : AV) (r : Env) (t : Nat) : look ((k, v) :: r) t = if k = t then v else look r t := rfl
theorem e6e (t : Nat) : look [] t = .top := rfl
theorem e5D (d : Nat) (v : AV) (env : Env) : put (some d) v env = (d, v) :: env := rfl
theorem e5E (v : AV) (env : Env) : put none v env = env := rfl
theorem e3W (k : Nat) : b8k k [] = [] := rfl
theorem e1q (k : Nat) (a : AV) (aXs : List AV) : b8k k (a :: aXs) = (k, a) :: b8k (k + 1) aXs := rfl
@[congr] theorem e9g {x y : Option AV} {k : AV → Prop} (h : x = y) : a9a x k = a9a y k := by rw [h]
@[congr] theorem e9U {x y : Option (AV × Env × Heap)} {k : AV → Env → Heap → Prop} (h : x = y) : b5q x k = b5q y k := by rw [h]
@[congr] theorem e7R {want : Bool} {x y : AV} {k : Bool → Prop} (h : x = y) : b0b want x k = b0b want y k := by rw [h]
@[congr] theorem e9z {x y : AV} {k : Bool → Prop} (h : x = y) : e1n x k = e1n y k := by rw [h]
@[congr] theorem f0K {P : Program} {n0 : Nat} {l : List AIns} {K : Env → Heap → Prop} {env env' : Env} {H H' : Heap} (h : env = env') (h' : H = H') : aops P n0 l K env H = aops P n0 l K env' H' := by rw [h, h']
@[congr] theorem f0w {P : Program} {n0 : Nat} {o : AOp} {d : Option Nat} {K : Env → Heap → Prop} {env env' : Env} {H H' : Heap} (h : env = env') (h' : H = H') : a3W P n0 o d K env H = a3W P n0 o d K env' H' := by rw [h, h']
@[congr] theorem f0H {x : Cx} {todo : List AItem} {env env' : Env} {H H' : Heap} {R : AV → Heap → Prop} (h : env = env') (h' : H = H') : Safe x todo env H R = Safe x todo env' H' R := by rw [h, h']
@[congr] theorem e8i {P : Program} {f : FuncId} {aXs as' : List AV} {H H' : Heap} {R : AV → Heap → Prop} (h : aXs = as') (h' : H = H') : a0m P f aXs H R = a0m P f as' H' R := by rw [h, h']
@[congr] theorem e8h {P : Program} {g g' : AV} {aXs as' : List AV} {H H' : Heap} {R : AV → Heap → Prop} (h : g = g') (h2 : aXs = as') (h' : H = H') : d5R P g aXs H R = d5R P g' as' H' R := by rw [h, h2, h']
section
variable (env : Env) (H : Heap)
theorem f2l (a : Src) : pv (.mv a) env H = some (a.ev env) := rfl
def e2I (c a b : AV) : Option AV := match c with
 | .bool c => if c then some a else some b
 | _ => none
theorem e8S (c a b : Src) : pv (.pick c a b) env H = e2I (c.ev env) (a.ev env) (b.ev env) := by simp only [pv, e2I]; split <;> simp_all
theorem e0l (c : Bool) (a b : AV) : e2I (.bool c) a b = if c then some a else some b := rfl
theorem d4E (c d : Bool) : e2I (.bool c) (.bool d) (.bool false) = some (.bool (c && d)) := by cases c <;> rfl
theorem e5I (c d : Bool) : e2I (.bool c) (.bool true) (.bool d) = some (.bool (c || d)) := by cases c <;> rfl
theorem f1g (a : Src) : pv (.len a) env H = lenV H (a.ev env) := rfl
def lenS : AV → Option AV
 | .str s => some (.int .i64 s.size)
 | _ => none
theorem e8V (a : Src) : pv (.lens a) env H = lenS (a.ev env) := by simp only [pv, lenS]; split <;> simp_all
theorem e6h (s : ByteArray) : lenS (.str s) = some (.int .i64 s.size) := rfl
theorem f1j (op : BinOp) (a b : Src) : pv (.bin op a b) env H = binV op (a.ev env) (b.ev env) := rfl
def beqV (neg : Bool) (a b : AV) : Option AV := match a, b with
 | .bool x, .bool y => some (.bool (if neg then !(x == y) else (x == y)))
 | _, _ => none
theorem f1k (neg : Bool) (a b : Src) : pv (.beq neg a b) env H = beqV neg (a.ev env) (b.ev env) := by simp only [pv, beqV]; split <;> simp_all
theorem f1U (x y : Bool) : beqV false (.bool x) (.bool y) = some (.bool (x == y)) := rfl
theorem f1T (x y : Bool) : beqV true (.bool x) (.bool y) = some (.bool !(x == y)) := rfl
def unV (op : UnOp) (a : AV) : Option AV := match op, a with
 | .neg, .int k n => some (.int k (k.wrap (0 - n)))
 | .not, .bool b => some (.bool !b)
 | _, _ => none
theorem f2k (op : UnOp) (a : Src) : pv (.un op a) env H = unV op (a.ev env) := by simp only [pv, unV]; cases op <;> cases a.ev env <;> rfl
theorem e8s (k : IntKind) (n : Int) : unV .neg (.int k n) = some (.int k (k.wrap (0 - n))) := rfl
theorem e8r (b : Bool) : unV .not (.bool b) = some (.bool !b) := rfl
def f0g (k : IntKind) (a : AV) : Option AV := match a with
 | .int _ n => some (.int k (k.wrap n))
 | _ => none
theorem e8Z (k : IntKind) (a : Src) : pv (.conv k a) env H = f0g k (a.ev env) := by simp only [pv, f0g]; split <;> simp_all
theorem e4m (k k' : IntKind) (n : Int) : f0g k (.int k' n) = some (.int k (k.wrap n)) := rfl
def extV (a : AV) (i : Nat) : Option AV := match a with
 | .tup vs => vs[i]?
 | _ => none
theorem f1h (a : Src) (i : Nat) : pv (.ext a i) env H = extV (a.ev env) i := by simp only [pv, extV]; split <;> simp_all
theorem e6I (vs : List AV) (i : Nat) : extV (.tup vs) i = vs[i]? := rfl
def fldV (a : AV) (off : Nat) : Option AV := match a with
 | .ro x o => some (.ro x (o + off))
 | .loc id i o => if (hrow H id).isSome then some (.loc id i (o + off)) else none
 | _ => none
theorem e8Y (a : Src) (off : Nat) : pv (.fldp a off) env H = fldV H (a.ev env) off := by simp only [pv, fldV]; split <;> simp_all
theorem e9H (x : AV) (o off : Nat) : fldV H (.ro x o) off = some (.ro x (o + off)) := rfl
theorem e6E (id i o off : Nat) : fldV H (.loc id i o) off = if (hrow H id).isSome then some (.loc id i (o + off)) else none := rfl
theorem e8X (wd : Nat) (a i : Src) : pv (.idxp wd a i) env H = idxV H wd (a.ev env) (i.ev env) := rfl
def idxS (a i : AV) : Option AV := match a, i with
 | .str s, .int _ i => if 0 ≤ i ∧ i < s.size then some (.int .u8 (s.data.toList.getD i.toNat 0).toNat) else none
 | _, _ => none
theorem e8W (a i : Src) : pv (.idxs a i) env H = idxS (a.ev env) (i.ev env) := by simp only [pv, idxS]; split <;> simp_all
theorem e6r (s : ByteArray) (k : IntKind) (i : Int) : idxS (.str s) (.int k i) = if 0 ≤ i ∧ i < s.size then some (.int .u8 (s.data.toList.getD i.toNat 0).toNat) else none := rfl
theorem e8U (n : Option Nat) (a : Src) : pv (.load n a) env H = a7p H n (a.ev env) := rfl
theorem f1e (wd : Nat) (x : Src) (lo hi mx : Option Src) : pv (.slc wd x lo hi mx) env H = slcV H wd (x.ev env) (lo.map (·.ev env)) (hi.map (·.ev env)) (mx.map (·.ev env)) := rfl
theorem e8R (x : Src) (lo hi : Option Src) : pv (.slcs x lo hi) env H = slcS (x.ev env) (lo.map (·.ev env)) (hi.map (·.ev env)) := rfl
theorem f1i (z : List AV) (ps : List (Nat × Nat × Src)) : pv (.bld z ps) env H = (bldV env z ps).map .agg := rfl
theorem e8T (f : FuncId) (caps : List Src) : pv (.mkfn f caps) env H = some (.fn f (caps.map (·.ev env))) := rfl
theorem f1f (mx : Bool) (a b : Src) : pv (.mnx mx a b) env H = mnxV mx (a.ev env) (b.ev env) := rfl
theorem d8P (mx : Bool) (k k' : IntKind) (x y : Int) : mnxV mx (.int k x) (.int k' y) = some (.int k (if mx then (if y > x then y else x) else (if y < x then y else x))) := rfl
theorem f1l (a : Src) : pv (.b2s a) env H = b2sV H (a.ev env) := rfl
theorem e7q (xs : List AV) : b2sV H (.sl 1 xs) = strB xs := rfl
theorem d7F (wd : Nat) (xs : List AV) : lenV H (.sl wd xs) = some (.int .i64 xs.length) := rfl
theorem e6g : lenV H .nil = some (.int .i64 0) := rfl
theorem c6C (id off len : Nat) (oc : Option Nat) : lenV H (.mu id off len oc) = if (hrow H id).isSome then some (.int .i64 len) else none := rfl
theorem e7h (k k' : IntKind) (x y : Int) : binV .shl (.int k x) (.int k' y) = b0I .shl k x y := rfl
theorem e7g (k k' : IntKind) (x y : Int) : binV .shr (.int k x) (.int k' y) = b0I .shr k x y := rfl
theorem d9o (k : IntKind) (x y : Int) : binV .add (.int k x) (.int k y) = some (.int k (k.wrap (x + y))) := by simp [binV, a4C]
theorem e7f (k : IntKind) (x y : Int) : binV .sub (.int k x) (.int k y) = some (.int k (k.wrap (x - y))) := by simp [binV, a4C]
theorem e7j (k : IntKind) (x y : Int) : binV .mul (.int k x) (.int k y) = some (.int k (k.wrap (x * y))) := by simp [binV, a4C]
theorem c4b (k : IntKind) (x y : Int) (h : y ≠ 0) : binV .quo (.int k x) (.int k y) = some (.int k (k.wrap (x.tdiv y))) := by simp [binV, a4C, h]
theorem d2D (k : IntKind) (x y : Int) (h : y ≠ 0) : binV .rem (.int k x) (.int k y) = some (.int k (x.tmod y)) := by simp [binV, a4C, h]
theorem f0r (k : IntKind) (x y : Int) : binV .or (.int k x) (.int k y) = some (.int k (k.wrap (BitVec.ofInt k.bits x ||| BitVec.ofInt k.bits y).toNat)) := by simp [binV, a4C]
theorem e7p (k : IntKind) (x y : Int) : binV .and (.int k x) (.int k y) = some (.int k (k.wrap (BitVec.ofInt k.bits x &&& BitVec.ofInt k.bits y).toNat)) := by simp [binV, a4C]
theorem e7e (k : IntKind) (x y : Int) : binV .xor (.int k x) (.int k y) = some (.int k (k.wrap (BitVec.ofInt k.bits x ^^^ BitVec.ofInt k.bits y).toNat)) := by simp [binV, a4C]
theorem e7o (k : IntKind) (x y : Int) : binV .eql (.int k x) (.int k y) = some (.bool (decide (x = y))) := by simp [binV, a4C]; rfl
theorem e7i (k : IntKind) (x y : Int) : binV .neq (.int k x) (.int k y) = some (.bool (decide (x ≠ y))) := by
 simp only [binV, a4C, if_true]; congr 2; by_cases h : x = y <;> simp [h]
theorem e7k (k : IntKind) (x y : Int) : binV .lss (.int k x) (.int k y) = some (.bool (decide (x < y))) := by simp [binV, a4C]
theorem e7l (k : IntKind) (x y : Int) : binV .leq (.int k x) (.int k y) = some (.bool (decide (x ≤ y))) := by simp [binV, a4C]
theorem e7m (k : IntKind) (x y : Int) : binV .gtr (.int k x) (.int k y) = some (.bool (decide (y < x))) := by simp [binV, a4C]
theorem e7n (k : IntKind) (x y : Int) : binV .geq (.int k x) (.int k y) = some (.bool (decide (y ≤ x))) := by simp [binV, a4C]
theorem e4F (x y : ByteArray) : binV .eql (.str x) (.str y) = some (.bool (x.toList == y.toList)) := rfl
theorem e4E (x y : ByteArray) : binV .neq (.str x) (.str y) = some (.bool !(x.toList == y.toList)) := rfl
theorem d3i (k : IntKind) (x y : Int) (h : 0 ≤ y) : b0I .shl k x y = some (.int k (k.wrap (x * 2 ^ (min y.toNat k.bits)))) := by simp [b0I, show ¬ y < 0 by omega]
theorem a3J (k : IntKind) (x y : Int) (h : 0 ≤ y) : b0I .shr k x y = some (.int k (x.fdiv (2 ^ (min y.toNat k.bits)))) := by simp [b0I, show ¬ y < 0 by omega]
theorem e3E (wd : Nat) (xs : List AV) (k : IntKind) (i : Int) (h0 : 0 ≤ i) (h1 : i < xs.length) : idxV H wd (.sl wd xs) (.int k i) = some (.ro (xs.getD i.toNat .top) 0) := by simp [idxV, h0, h1]
theorem c6H (wd id off len : Nat) (oc : Option Nat) (k : IntKind) (i : Int) (h0 : 0 ≤ i) (h1 : i < len) :
  idxV H wd (.mu id off len oc) (.int k i) = (hrow H id).bind fun b => if b.wd = wd then some (.loc id (off + i.toNat) 0) else none := by simp [idxV, h0, h1]
theorem e3o (n : Option Nat) (p : AV) : a7p H n p = (atV H p).bind fun cs => match n with
  | none => cs[0]?
  | some n => if n ≤ cs.length then some (.agg (cs.take n)) else none := rfl
theorem f1X (x : AV) (off : Nat) : atV H (.ro x off) = some (x.cells.drop off) := rfl
theorem b2u (id i off : Nat) : atV H (.loc id i off) = (hrow H id).bind fun b => if i < b.xs.length then some ((b.xs.getD i .top).cells.drop off) else none := rfl
end
theorem e4y (cs : List AV) : (AV.agg cs).cells = cs := rfl
theorem e4x (k : IntKind) (n : Int) : (AV.int k n).cells = [.int k n] := rfl
theorem e1C (b : Bool) : (AV.bool b).cells = [.bool b] := rfl
theorem e4u (s : ByteArray) : (AV.str s).cells = [.str s] := rfl
theorem e4v : AV.nil.cells = [.nil] := rfl
theorem e4w (v : Value) : (AV.lit v).cells = [.lit v] := rfl
theorem e6X (wd : Nat) (xs : List AV) : (AV.sl wd xs).cells = [.sl wd xs] := rfl
theorem d9j (id off len : Nat) (oc : Option Nat) : (AV.mu id off len oc).cells = [.mu id off len oc] := rfl
theorem d5Q (id i off : Nat) : (AV.loc id i off).cells = [.loc id i off] := rfl
theorem e6Y (f : FuncId) (cs : List AV) : (AV.fn f cs).cells = [.fn f cs] := rfl
def hap (H L : Heap) : Heap := H ++ L
def lid (H : Heap) (i : Nat) : Nat := H.length + i
theorem a1T (H : Heap) : hap H [] = H := List.append_nil H
theorem a0I (H L : Heap) (i : Nat) : hrow (hap H L) (lid H i) = (L[i]?).join := by unfold hrow hap lid; rw [List.getElem?_append_right (by omega), Nat.add_sub_cancel_left]
theorem a9m (H L : Heap) (id : Nat) (h : id < H.length) : hrow (hap H L) id = hrow H id := by simp [hrow, hap, List.getElem?_append_left h]
theorem b9N (H L : Heap) : (hap H L).length = lid H L.length := by simp [hap, lid]
theorem a2P (H L : Heap) (i : Nat) (x : Option Blk) : (hap H L).set (lid H i) x = hap H (L.set i x) := by simp [hap, lid]
theorem c0g (H L M : Heap) : hap H L ++ M = hap H (L ++ M) := by simp [hap]
theorem a1M (H : Heap) (i : Nat) : H.length ≤ lid H i := by simp [lid]
theorem e3s (H : Heap) (i j : Nat) : (lid H i = lid H j) = (i = j) := by simp [lid]
theorem e1E {α β : Type} (a : α) (f : α → Option β) : (some a).bind f = f a := rfl
theorem join_some {α : Type} (a : Option α) : (some a).join = a := rfl
theorem Safe.weaken {x : Cx} {todo : List AItem} {env env' : Env} {H : Heap} {R : AV → Heap → Prop} (he : ∀ t, look env' t = look env t ∨ look env' t = .top) (h : Safe x todo env' H R) : Safe x todo env H R := by
 intro φ w tmps b k cs hg hn hb hk ht hsz hok hr
 refine h φ w tmps b k cs hg hn hb hk ht hsz hok (fun t => ?_)
 rcases he t with e | e
 ·rw [e]; exact hr t
 ·rw [e]; exact .top _
def keep (env : Env) (ts : List Nat) : Env := ts.map fun t => (t, look env t)
theorem d4U (env : Env) (ts : List Nat) (t : Nat) : look (keep env ts) t = look env t ∨ look (keep env ts) t = .top := by
 induction ts with
 | nil => exact .inr rfl
 | cons a ts ih =>
  simp only [keep, List.map_cons, look]
  split
  ·rename_i h; subst h; exact .inl rfl
  ·exact ih
theorem Safe.keep (ts : List Nat) {x : Cx} {todo : List AItem} {env : Env} {H : Heap} {R : AV → Heap → Prop} (h : Safe x todo (keep env ts) H R) : Safe x todo env H R := Safe.weaken (d4U env ts) h
theorem e6j (env : Env) : keep env [] = [] := rfl
theorem e3y (env : Env) (t : Nat) (ts : List Nat) : keep env (t :: ts) = (t, look env t) :: keep env ts := rfl
theorem Safe.mono {x : Cx} {todo : List AItem} {env : Env} {H : Heap} {R R' : AV → Heap → Prop} (h : Safe x todo env H R) (hr : ∀ r H', R r H' → R' r H') : Safe x todo env H R' := by
 intro φ w tmps b k cs hg hn hb hk ht hsz hok he
 obtain ⟨v, w', fr, r, φ', H', q1, q⟩ := h φ w tmps b k cs hg hn hb hk ht hsz hok he
 exact ⟨v, w', fr, r, φ', H', hr _ _ q1, q⟩
end Go.Abs
namespace Go.Abs
def a2q (e e' : Env) : Prop := ∀ t, look e t = look e' t
theorem a2q.refl (e : Env) : a2q e e := fun _ => rfl
theorem a2q.symm {e e' : Env} (h : a2q e e') : a2q e' e := fun t => (h t).symm
theorem a2q.trans {a b c : Env} (h : a2q a b) (k : a2q b c) : a2q a c := fun t => (h t).trans (k t)
theorem a0r {s : Src} {e e' : Env} (h : ∀ t ∈ s.tmps, look e t = look e' t) : s.ev e = s.ev e' := by
 cases s with
 | t n => exact h n (by simp [Src.tmps])
 | c a => rfl
theorem a8a {ss : List Src} {e e' : Env} (h : ∀ t ∈ ss.flatMap Src.tmps, look e t = look e' t) : ss.map (·.ev e) = ss.map (·.ev e') :=
 List.map_congr_left fun s hs => a0r fun t ht => h t (List.mem_flatMap.2 ⟨s, hs, ht⟩)
theorem b2a {s : Option Src} {e e' : Env} (h : ∀ t ∈ e0p s, look e t = look e' t) : s.map (·.ev e) = s.map (·.ev e') := by
 cases s with
 | none => rfl
 | some s => simp only [Option.map_some]; rw [a0r (s := s) h]
theorem d5V {e e' : Env} : ∀ (ps : List (Nat × Nat × Src)) (cs : List AV), (∀ t ∈ ps.flatMap (fun p => p.2.2.tmps), look e t = look e' t) → bldV e cs ps = bldV e' cs ps
 | [], cs, h => rfl
 | (off, n, s) :: ps, cs, h => by
  have hs : s.ev e = s.ev e' := a0r fun t ht => h t (by simp [ht])
  simp only [bldV, hs]
  split
  ·exact d5V ps _ fun t ht => h t (by simp only [List.flatMap_cons, List.mem_append]; exact .inr ht)
  ·rfl
theorem c3M {o : POp} {e e' : Env} {H : Heap} (h : ∀ t ∈ o.reads, look e t = look e' t) : pv o e H = pv o e' H := by
 cases o <;> simp only [POp.reads, List.mem_append] at h <;> simp only [pv]
 case mv a => rw [a0r h]
 case pick c a b => rw [a0r (s := c) fun t ht => h t (.inl ht), a0r (s := a) fun t ht => h t (.inr (.inl ht)), a0r (s := b) fun t ht => h t (.inr (.inr ht))]
 case lens a => rw [a0r h]
 case len a => rw [a0r h]
 case bin op a b => rw [a0r (s := a) fun t ht => h t (.inl ht), a0r (s := b) fun t ht => h t (.inr ht)]
 case beq n a b => rw [a0r (s := a) fun t ht => h t (.inl ht), a0r (s := b) fun t ht => h t (.inr ht)]
 case un op a => rw [a0r h]
 case conv k a => rw [a0r h]
 case ext a i => rw [a0r h]
 case fldp a off => rw [a0r h]
 case idxp wd a b => rw [a0r (s := a) fun t ht => h t (.inl ht), a0r (s := b) fun t ht => h t (.inr ht)]
 case idxs a b => rw [a0r (s := a) fun t ht => h t (.inl ht), a0r (s := b) fun t ht => h t (.inr ht)]
 case load n a => rw [a0r h]
 case slc wd x lo hi mx => rw [a0r (s := x) fun t ht => h t (.inl ht), b2a (s := lo) fun t ht => h t (.inr (.inl ht)), b2a (s := hi) fun t ht => h t (.inr (.inr (.inl ht))), b2a (s := mx) fun t ht => h t (.inr (.inr (.inr ht)))]
 case slcs x lo hi => rw [a0r (s := x) fun t ht => h t (.inl ht), b2a (s := lo) fun t ht => h t (.inr (.inl ht)), b2a (s := hi) fun t ht => h t (.inr (.inr ht))]
 case bld z ps => rw [d5V ps z h]
 case mkfn f cs => rw [a8a h]
 case mkbf f cs => rw [a8a h]
 case mnx mx a b => rw [a0r (s := a) fun t ht => h t (.inl ht), a0r (s := b) fun t ht => h t (.inr ht)]
 case b2s a => rw [a0r h]
 case mlook a b => rw [a0r (s := a) fun t ht => h t (.inl ht), a0r (s := b) fun t ht => h t (.inr ht)]
 case ment a => rw [a0r h]
inductive St (P : Program) (n0 : Nat) : AIns → Env → Heap → Env → Heap → Prop where
 | skip {d t want o e H} (h : NotW (look e t) want) : St P n0 ⟨d, some (t, want), o⟩ e H (put d (.tup []) e) H
 | pure {d g o e H v} (hg : ∀ t want, g = some (t, want) → look e t = .bool want) (h : pv o e H = some v) : St P n0 ⟨d, g, .p o⟩ e H (put d v e) H
 | bsl {d g wd ps e H v} (hg : ∀ t want, g = some (t, want) → look e t = .bool want) (h : ev n0 (.bsl wd ps) e H = some (v, e, H)) : St P n0 ⟨d, g, .e (.bsl wd ps)⟩ e H (put d v e) H
 | call {d g f aXs e H r} (hg : ∀ t want, g = some (t, want) → look e t = .bool want) (h : ∀ L, a0m P f (aXs.map (·.ev e)) (H ++ L) fun r' H' => r' = r ∧ H' = H ++ L) : St P n0 ⟨d, g, .call f aXs⟩ e H (put d r e) H
 | callv {d g s aXs e H r f caps} (hg : ∀ t want, g = some (t, want) → look e t = .bool want) (hs : s.ev e = .fn f caps) (h : ∀ L, a0m P f (aXs.map (·.ev e) ++ caps) (H ++ L) fun r' H' => r' = r ∧ H' = H ++ L) : St P n0 ⟨d, g, .callv s aXs⟩ e H (put d r e) H
 | gcall {d g f aXs e H r L} (hg : ∀ t want, g = some (t, want) → look e t = .bool want) (h : a0m P f (aXs.map (·.ev e)) H fun r' H' => r' = r ∧ H' = H ++ L) : St P n0 ⟨d, g, .gcall f aXs⟩ e H (put d r e) (H ++ L)
 | gcallv {d g s aXs e H r L f caps} (hg : ∀ t want, g = some (t, want) → look e t = .bool want) (hs : s.ev e = .fn f caps) (h : a0m P f (aXs.map (·.ev e) ++ caps) H fun r' H' => r' = r ∧ H' = H ++ L) : St P n0 ⟨d, g, .gcallv s aXs⟩ e H (put d r e) (H ++ L)
 | eff {d g o e H v e' H'} (hg : ∀ t want, g = some (t, want) → look e t = .bool want) (h : ev n0 o e H = some (v, e', H')) (hn : ∀ wd ps, o ≠ .bsl wd ps) : St P n0 ⟨d, g, .e o⟩ e H (put d v e') H'
inductive Sts (P : Program) (n0 : Nat) : List AIns → Env → Heap → Env → Heap → Prop where
 | nil {e H} : Sts P n0 [] e H e H
 | cons {i l e H e1 H1 e2 H2} (h : St P n0 i e H e1 H1) (t : Sts P n0 l e1 H1 e2 H2) : Sts P n0 (i :: l) e H e2 H2
theorem a0W (d : Option Nat) (v : AV) (e : Env) (t : Nat) : look (put d v e) t = if d = some t then v else look e t := by
 cases d with
 | none => simp [put]
 | some d =>
  simp only [put, look, Option.some.injEq]
theorem c2A {d : Option Nat} {v : AV} {e e' : Env} (h : a2q e e') : a2q (put d v e) (put d v e') := fun t => by rw [a0W, a0W, h t]
theorem d8E {id : Nat} {e e' : Env} (h : a2q e e') : a2q (scrub id e) (scrub id e') := fun t => by rw [a1E, a1E, h t]
theorem f1K {n0 : Nat} {o : EOp} {e e' : Env} {H : Heap} (h : a2q e e') {v : AV} {e1 : Env} {H1 : Heap} (he : ev n0 o e H = some (v, e1, H1)) : ∃ e2, ev n0 o e' H = some (v, e2, H1) ∧ a2q e1 e2 := by
 have hs : ∀ s : Src, s.ev e = s.ev e' := fun s => a0r fun t _ => h t
 have hm : ∀ ss : List Src, ss.map (·.ev e) = ss.map (·.ev e') := fun ss => List.map_congr_left fun s _ => hs s
 cases o with
 | store n a v' =>
  simp only [ev, hs] at he ⊢
  split at he
  ·rename_i id i off heq
   simp only [Option.bind_eq_some_iff] at he ⊢
   obtain ⟨b, hb, he⟩ := he
   split at he
   ·rename_i hc; cases he; exact ⟨e', ⟨b, hb, by rw [if_pos hc]⟩, h⟩
   ·simp at he
  ·simp at he
 | box n v' =>
  simp only [ev, hs] at he ⊢
  split at he
  ·rename_i hc; cases he; exact ⟨e', by rw [if_pos hc], h⟩
  ·simp at he
 | bsl wd ps =>
  simp only [ev, hs, hm] at he ⊢
  split at he
  ·rename_i hc; cases he; exact ⟨e', by rw [if_pos hc], h⟩
  ·simp at he
 | bslm wd ps =>
  simp only [ev, hs, hm] at he ⊢
  split at he
  ·rename_i hc; cases he; exact ⟨e', by rw [if_pos hc], h⟩
  ·simp at he
 | mksl wd bytes z l c =>
  simp only [ev, hs] at he ⊢
  split at he
  ·rename_i kl l' kc c' heq1 heq2
   split at he
   ·rename_i hc; cases he; exact ⟨e', by rw [if_pos hc], h⟩
   ·simp at he
  ·simp at he
 | app wd bytes str a b =>
  simp only [ev, hs, Option.bind_eq_some_iff] at he ⊢
  obtain ⟨ys, hy, he⟩ := he
  split at he
  ·rename_i heq
   split at he
   ·rename_i hc; cases he; exact ⟨e', ⟨ys, hy, by rw [if_pos hc]⟩, h⟩
   ·simp at he
  ·rename_i id off len oc heq
   simp only [Option.bind_eq_some_iff] at he
   obtain ⟨r, hr, he⟩ := he
   split at he
   ·rename_i hc; cases he
    refine ⟨e', ⟨ys, hy, ?_⟩, h⟩
    simp only [Option.bind_eq_some_iff]
    exact ⟨r, hr, by rw [if_pos hc]⟩
   split at he
   ·rename_i hn hc; cases he
    refine ⟨scrub id e', ⟨ys, hy, ?_⟩, d8E h⟩
    simp only [Option.bind_eq_some_iff]
    exact ⟨r, hr, by rw [if_neg hn, if_pos hc]⟩
   split at he
   ·rename_i hn hn2 hc; cases he
    refine ⟨e', ⟨ys, hy, ?_⟩, h⟩
    simp only [Option.bind_eq_some_iff]
    exact ⟨r, hr, by rw [if_neg hn, if_neg hn2, if_pos hc]⟩
   split at he
   ·rename_i hn hn2 hn3 hc; cases he
    refine ⟨scrub id e', ⟨ys, hy, ?_⟩, d8E h⟩
    simp only [Option.bind_eq_some_iff]
    exact ⟨r, hr, by rw [if_neg hn, if_neg hn2, if_neg hn3, if_pos hc]⟩
   ·simp at he
  ·simp at he
 | cpy wd a b =>
  simp only [ev, hs, Option.bind_eq_some_iff] at he ⊢
  obtain ⟨ys, hy, he⟩ := he
  split at he
  ·rename_i id off len oc heq
   simp only [Option.bind_eq_some_iff] at he
   obtain ⟨r, hr, he⟩ := he
   split at he
   ·rename_i hc; cases he
    refine ⟨e', ⟨ys, hy, ?_⟩, h⟩
    simp only [Option.bind_eq_some_iff]
    exact ⟨r, hr, by rw [if_pos hc]⟩
   ·simp at he
  ·simp at he
 | mkmap => simp only [ev] at he ⊢; cases he; exact ⟨e', rfl, h⟩
 | mset m k v' =>
  simp only [ev, hs] at he ⊢
  split at he
  ·rename_i id x y heq1 heq2 heq3
   simp only [Option.bind_eq_some_iff] at he
   obtain ⟨L, hL, he⟩ := he
   split at he
   ·rename_i hc; cases he
    refine ⟨e', ?_, h⟩
    simp only [Option.bind_eq_some_iff]
    exact ⟨L, hL, by rw [if_pos hc]⟩
   ·cases he
  ·cases he
 | mrng m =>
  simp only [ev, hs] at he ⊢
  split at he
  ·rename_i id heq1
   simp only [Option.bind_eq_some_iff] at he
   obtain ⟨L, hL, he⟩ := he
   cases he
   refine ⟨e', ?_, h⟩
   simp only [Option.bind_eq_some_iff]
   exact ⟨L, hL, rfl⟩
  ·cases he
theorem St.eqv {P : Program} {n0 : Nat} {i : AIns} {e e' : Env} {H : Heap} {e1 : Env} {H1 : Heap} (s : St P n0 i e H e1 H1) (h : a2q e e') : ∃ e2, St P n0 i e' H e2 H1 ∧ a2q e1 e2 := by
 have hs : ∀ s : Src, s.ev e = s.ev e' := fun s => a0r fun t _ => h t
 have hm : ∀ ss : List Src, ss.map (·.ev e) = ss.map (·.ev e') := fun ss => List.map_congr_left fun s _ => hs s
 cases s with
 | skip hl => exact ⟨_, .skip (by rw [← h]; exact hl), c2A h⟩
 | pure hg hp => exact ⟨_, .pure (fun t w hw => by rw [← h]; exact hg t w hw) (by rw [← c3M (fun t _ => h t)]; exact hp), c2A h⟩
 | bsl hg hp =>
  obtain ⟨e2, q1, q2⟩ := f1K h hp
  have : e2 = e' := by
   simp only [ev] at q1
   split at q1
   ·cases q1; rfl
   ·simp at q1
  subst this
  exact ⟨_, .bsl (fun t w hw => by rw [← h]; exact hg t w hw) q1, c2A h⟩
 | call hg hp => exact ⟨_, .call (fun t w hw => by rw [← h]; exact hg t w hw) (by rw [← hm]; exact hp), c2A h⟩
 | callv hg hf hp => exact ⟨_, .callv (fun t w hw => by rw [← h]; exact hg t w hw) (by rw [← hs]; exact hf) (by rw [← hm]; exact hp), c2A h⟩
 | gcall hg hp => exact ⟨_, .gcall (fun t w hw => by rw [← h]; exact hg t w hw) (by rw [← hm]; exact hp), c2A h⟩
 | gcallv hg hf hp => exact ⟨_, .gcallv (fun t w hw => by rw [← h]; exact hg t w hw) (by rw [← hs]; exact hf) (by rw [← hm]; exact hp), c2A h⟩
 | eff hg hp hn =>
  obtain ⟨e2, q1, q2⟩ := f1K h hp
  exact ⟨_, .eff (fun t w hw => by rw [← h]; exact hg t w hw) q1 hn, c2A q2⟩
theorem Sts.eqv {P : Program} {n0 : Nat} {l : List AIns} {e : Env} {H : Heap} {e1 : Env} {H1 : Heap} (s : Sts P n0 l e H e1 H1) : ∀ {e' : Env}, a2q e e' → ∃ e2, Sts P n0 l e' H e2 H1 ∧ a2q e1 e2 := by
 induction s with
 | nil => exact fun h => ⟨_, .nil, h⟩
 | cons st _ ih =>
  intro e' h
  obtain ⟨e2, q1, q2⟩ := st.eqv h
  obtain ⟨e3, r1, r2⟩ := ih q2
  exact ⟨e3, .cons q1 r1, r2⟩
end Go.Abs
namespace Go.Abs
section
variable {P : Program} {n0 : Nat}
theorem a6J {H L : Heap} {id : Nat} {b : Blk} (h : hrow H id = some b) : hrow (H ++ L) id = some b := by
 have := a1h h
 unfold hrow
 rw [List.getElem?_append_left (a0o this), this]; rfl
theorem c6F {H : Heap} {id : Nat} (h : (hrow H id).isSome = true) : ∃ b, hrow H id = some b := Option.isSome_iff_exists.1 h
theorem f1W {H L : Heap} {a : AV} {cs : List AV} (h : atV H a = some cs) : atV (H ++ L) a = some cs := by
 cases a <;> simp only [atV] at h ⊢ <;> first | exact h | skip
 case loc id i off =>
  simp only [Option.bind_eq_some_iff] at h ⊢
  obtain ⟨b, hb, h⟩ := h
  exact ⟨b, a6J hb, h⟩
theorem d4T {H L : Heap} {a : AV} {l : List (Int × Int)} (h : b1Q H a = some l) : b1Q (H ++ L) a = some l := by
 unfold b1Q at h ⊢
 split at h
 ·split at h
  ·rename_i hr; rw [a6J hr]; exact h
  ·cases h
 ·cases h
theorem e1j {H L : Heap} {a : AV} {l : Nat × Nat × List Nat} (h : b7S H a = some l) : b7S (H ++ L) a = some l := by
 unfold b7S at h ⊢
 split at h
 ·split at h
  ·rename_i hr; rw [a6J hr]; exact h
  ·cases h
 ·cases h
theorem f1m {o : POp} {e : Env} {H L : Heap} {v : AV} (h : pv o e H = some v) : pv o e (H ++ L) = some v := by
 cases o <;> simp only [pv] at h ⊢ <;> first | exact h | skip
 case len a =>
  generalize a.ev e = x at h ⊢
  cases x <;> simp only [lenV] at h ⊢ <;> first | exact h | skip
  case mu id off len oc =>
   split at h
   ·rename_i hs
    obtain ⟨b, hb⟩ := c6F hs
    rw [if_pos (by rw [a6J hb]; rfl)]; exact h
   ·simp at h
 case fldp a off =>
  generalize a.ev e = x at h ⊢
  cases x <;> simp only at h ⊢ <;> first | exact h | skip
  case loc id i o =>
   split at h
   ·rename_i hs
    obtain ⟨b, hb⟩ := c6F hs
    rw [if_pos (by rw [a6J hb]; rfl)]; exact h
   ·simp at h
 case idxp wd a i =>
  generalize a.ev e = x at h ⊢
  generalize i.ev e = y at h ⊢
  cases y <;> simp only [idxV] at h ⊢ <;> first | exact h | skip
  cases x <;> simp only at h ⊢ <;> first | exact h | skip
  simp only [Option.bind_eq_some_iff] at h ⊢
  obtain ⟨b, hb, h⟩ := h
  exact ⟨b, a6J hb, h⟩
 case load n a =>
  simp only [a7p, Option.bind_eq_some_iff] at h ⊢
  obtain ⟨cs, hc, h⟩ := h
  exact ⟨cs, f1W hc, h⟩
 case slc wd x lo hi mx =>
  generalize x.ev e = x at h ⊢
  generalize lo.map (·.ev e) = lo at h ⊢
  generalize hi.map (·.ev e) = hi at h ⊢
  generalize mx.map (·.ev e) = mx at h ⊢
  cases x <;> simp only [slcV] at h ⊢ <;> first | exact h | skip
  simp only [Option.bind_eq_some_iff] at h ⊢
  obtain ⟨b, hb, h⟩ := h
  exact ⟨b, a6J hb, h⟩
 case b2s a =>
  generalize a.ev e = x at h ⊢
  cases x <;> simp only [b2sV] at h ⊢ <;> first | exact h | skip
  simp only [Option.bind_eq_some_iff] at h ⊢
  obtain ⟨b, hb, h⟩ := h
  exact ⟨b, a6J hb, h⟩
 case mlook m k =>
  split at h
  ·rename_i L' x h1 h2
   rw [d4T h1, h2]; exact h
  ·cases h
 case ment a =>
  split at h
  ·rename_i mid n seen h1
   rw [e1j h1]
   split at h
   ·rename_i L' i h2 h3
    simp only
    rw [d4T h2, h3]; exact h
   ·cases h
  ·cases h
theorem e5C {o : POp} {e : Env} {H H' : Heap} (h : o.hfree = true) : pv o e H = pv o e H' := by
 cases o <;> first | (simp [POp.hfree] at h; done) | rfl
theorem a0Y {g : Option (Nat × Bool)} {e e' : Env} (hg : ∀ t want, g = some (t, want) → look e t = .bool want) (h : ∀ t ∈ (match g with | some (t, _) => [t] | none => []), look e t = look e' t) : ∀ t want, g = some (t, want) → look e' t = .bool want := by
 intro t want hh
 subst hh
 rw [← h t (by simp)]
 exact hg t want rfl
theorem b9j {x : AIns} {e : Env} {H : Heap} {e1 : Env} {H1 : Heap} (s : St P n0 x e H e1 H1) (hq : x.op.quiet = true) :
  H1 = H ∧ ∃ v, e1 = put x.dst v e ∧ ∀ e' L, (∀ t ∈ x.reads, look e t = look e' t) → St P n0 x e' (H ++ L) (put x.dst v e') (H ++ L) := by
 cases s with
 | skip hl => exact ⟨rfl, .tup [], rfl, fun e' L h => .skip (by rw [← h _ (by simp [AIns.reads])]; exact hl)⟩
 | pure hg hp => exact ⟨rfl, _, rfl, fun e' L h => .pure (a0Y hg fun t ht => h t (by simp only [AIns.reads, List.mem_append]; exact .inl ht)) (by rw [← c3M (fun t ht => h t (by simp only [AIns.reads, List.mem_append]; exact .inr ht))]; exact f1m hp)⟩
 | bsl hg hp =>
  refine ⟨rfl, _, rfl, fun e' L h => .bsl (a0Y hg fun t ht => h t (by simp only [AIns.reads, List.mem_append]; exact .inl ht)) ?_⟩
  rename_i wd ps v
  have hev : ∀ s ∈ ps, s.ev e = s.ev e' := fun s hs => a0r fun t ht => h t (by simp only [AIns.reads, AOp.reads, EOp.reads, List.mem_append, List.mem_flatMap]; exact .inr ⟨s, hs, ht⟩)
  have hm : ps.map (·.ev e) = ps.map (·.ev e') := List.map_congr_left hev
  simp only [ev] at hp ⊢
  split at hp
  ·rename_i hc
   cases hp
   rw [if_pos, hm]
   refine ⟨hc.1, ?_⟩
   have := hc.2
   simp only [List.all_eq_true] at this ⊢
   intro s hs
   have h2 := this s hs
   rw [hev s hs] at h2
   exact h2
  ·simp at hp
 | call hg hp =>
  refine ⟨rfl, _, rfl, fun e' L h => .call (a0Y hg fun t ht => h t (by simp only [AIns.reads, List.mem_append]; exact .inl ht)) ?_⟩
  intro L'
  rw [← a8a (fun t ht => h t (by simp only [AIns.reads, AOp.reads, List.mem_append]; exact .inr ht)), List.append_assoc]
  exact hp (L ++ L')
 | callv hg hf hp =>
  refine ⟨rfl, _, rfl, fun e' L h => .callv (a0Y hg fun t ht => h t (by simp only [AIns.reads, List.mem_append]; exact .inl ht)) (by rw [← a0r (fun t ht => h t (by simp only [AIns.reads, AOp.reads, List.mem_append]; exact .inr (.inl ht)))]; exact hf) ?_⟩
  intro L'
  rw [← a8a (fun t ht => h t (by simp only [AIns.reads, AOp.reads, List.mem_append]; exact .inr (.inr ht))), List.append_assoc]
  exact hp (L ++ L')
 | gcall hg hp => simp [AOp.quiet] at hq
 | gcallv hg hf hp => simp [AOp.quiet] at hq
 | eff hg hp hn =>
  rename_i o v _
  cases o <;> first | (simp [AOp.quiet] at hq; done) | exact absurd rfl (hn _ _)
theorem b9R {x : AIns} {e : Env} {H : Heap} {e1 : Env} {H1 : Heap} (s : St P n0 x e H e1 H1) (hq : x.op.hfree = true) :
  H1 = H ∧ ∃ v, e1 = put x.dst v e ∧ ∀ e' H', (∀ t ∈ x.reads, look e t = look e' t) → St P n0 x e' H' (put x.dst v e') H' := by
 cases s with
 | skip hl => exact ⟨rfl, .tup [], rfl, fun e' L h => .skip (by rw [← h _ (by simp [AIns.reads])]; exact hl)⟩
 | pure hg hp => exact ⟨rfl, _, rfl, fun e' L h => .pure (a0Y hg fun t ht => h t (by simp only [AIns.reads, List.mem_append]; exact .inl ht)) (by rw [← c3M (fun t ht => h t (by simp only [AIns.reads, List.mem_append]; exact .inr ht))]; rw [e5C (H' := H) (by simpa [AOp.hfree] using hq)]; exact hp)⟩
 | bsl hg hp => simp [AOp.hfree] at hq
 | call hg hp => simp [AOp.hfree] at hq
 | callv hg hf hp => simp [AOp.hfree] at hq
 | gcall hg hp => simp [AOp.hfree] at hq
 | gcallv hg hf hp => simp [AOp.hfree] at hq
 | eff hg hp hn => simp [AOp.hfree] at hq
theorem b9c {x : AIns} {e : Env} {H : Heap} {e1 : Env} {H1 : Heap} (s : St P n0 x e H e1 H1) (hq : x.op.isStore = true) :
  ∃ v, e1 = put x.dst v e ∧ ∀ e', (∀ t ∈ x.reads, look e t = look e' t) → St P n0 x e' H (put x.dst v e') H1 := by
 cases s with
 | skip hl => exact ⟨.tup [], rfl, fun e' h => .skip (by rw [← h _ (by simp [AIns.reads])]; exact hl)⟩
 | pure hg hp => simp [AOp.isStore] at hq
 | bsl hg hp => simp [AOp.isStore] at hq
 | call hg hp => simp [AOp.isStore] at hq
 | callv hg hf hp => simp [AOp.isStore] at hq
 | gcall hg hp => simp [AOp.isStore] at hq
 | gcallv hg hf hp => simp [AOp.isStore] at hq
 | eff hg hp hn =>
  rename_i o v _
  cases o <;> first | (simp [AOp.isStore] at hq; done) | skip
  rename_i n a b
  have hp0 := hp
  simp only [ev] at hp
  split at hp
  ·rename_i id i off heq
   simp only [Option.bind_eq_some_iff] at hp
   obtain ⟨blk, hb, hp⟩ := hp
   split at hp
   ·rename_i hc
    cases hp
    refine ⟨_, rfl, fun e' h => .eff (a0Y hg fun t ht => h t (by simp only [AIns.reads, List.mem_append]; exact .inl ht)) ?_ (by simp)⟩
    have ha : a.ev e = a.ev e' := a0r fun t ht => h t (by simp only [AIns.reads, AOp.reads, EOp.reads, List.mem_append]; exact .inr (.inl ht))
    have hbv : b.ev e = b.ev e' := a0r fun t ht => h t (by simp only [AIns.reads, AOp.reads, EOp.reads, List.mem_append]; exact .inr (.inr ht))
    rw [hbv] at hc
    simp only [ev, ← ha, heq, Option.bind_eq_some_iff]
    exact ⟨blk, hb, by rw [if_pos hc, hbv]⟩
   ·simp at hp
  ·simp at hp
theorem e7b {x : AIns} {e : Env} {H : Heap} {e1 : Env} {H1 : Heap} (s : St P n0 x e H e1 H1) (hq : x.op.isBox = true) :
  ∃ v L, H1 = H ++ L ∧ e1 = put x.dst v e ∧ ∀ e', (∀ t ∈ x.reads, look e t = look e' t) → St P n0 x e' H (put x.dst v e') H1 := by
 cases s with
 | skip hl => exact ⟨.tup [], [], by simp, rfl, fun e' h => .skip (by rw [← h _ (by simp [AIns.reads])]; exact hl)⟩
 | pure hg hp => simp [AOp.isBox] at hq
 | bsl hg hp => simp [AOp.isBox] at hq
 | call hg hp => simp [AOp.isBox] at hq
 | callv hg hf hp => simp [AOp.isBox] at hq
 | gcall hg hp =>
  refine ⟨_, _, rfl, rfl, fun e' h => .gcall (a0Y hg fun t ht => h t (by simp only [AIns.reads, List.mem_append]; exact .inl ht)) ?_⟩
  rw [← a8a (fun t ht => h t (by simp only [AIns.reads, AOp.reads, List.mem_append]; exact .inr ht))]
  exact hp
 | gcallv hg hf hp =>
  refine ⟨_, _, rfl, rfl, fun e' h => .gcallv (a0Y hg fun t ht => h t (by simp only [AIns.reads, List.mem_append]; exact .inl ht)) (by rw [← a0r (fun t ht => h t (by simp only [AIns.reads, AOp.reads, List.mem_append]; exact .inr (.inl ht)))]; exact hf) ?_⟩
  rw [← a8a (fun t ht => h t (by simp only [AIns.reads, AOp.reads, List.mem_append]; exact .inr (.inr ht)))]
  exact hp
 | eff hg hp hn =>
  rename_i o v _
  cases o <;> first | (simp [AOp.isBox] at hq; done) | skip
  case box n b =>
   simp only [ev] at hp
   split at hp
   ·rename_i hc
    cases hp
    refine ⟨_, _, rfl, rfl, fun e' h => .eff (a0Y hg fun t ht => h t (by simp only [AIns.reads, List.mem_append]; exact .inl ht)) ?_ (by simp)⟩
    have hbv : b.ev e = b.ev e' := a0r fun t ht => h t (by simp only [AIns.reads, AOp.reads, EOp.reads, List.mem_append]; exact .inr ht)
    rw [hbv] at hc
    simp only [ev]
    rw [if_pos hc, hbv]
   ·simp at hp
  case bslm wd ps =>
   simp only [ev] at hp
   split at hp
   ·rename_i hc
    cases hp
    refine ⟨_, _, rfl, rfl, fun e' h => .eff (a0Y hg fun t ht => h t (by simp only [AIns.reads, List.mem_append]; exact .inl ht)) ?_ (by simp)⟩
    have hev : ∀ s ∈ ps, s.ev e = s.ev e' := fun s hs => a0r fun t ht => h t (by simp only [AIns.reads, AOp.reads, EOp.reads, List.mem_append, List.mem_flatMap]; exact .inr ⟨s, hs, ht⟩)
    have hm : ps.map (·.ev e) = ps.map (·.ev e') := List.map_congr_left hev
    simp only [ev]
    rw [if_pos, hm]
    refine ⟨hc.1, ?_⟩
    have := hc.2
    simp only [List.all_eq_true] at this ⊢
    intro s hs
    have h2 := this s hs
    rw [hev s hs] at h2
    exact h2
   ·simp at hp
theorem c4e {y : AIns} {e : Env} {H : Heap} {e1 : Env} {H1 : Heap} (s : St P n0 y e H e1 H1) (hq : y.op.isApp = true) :
  ∃ v, (e1 = put y.dst v e ∧ ∀ e', (∀ t ∈ y.reads, look e t = look e' t) → St P n0 y e' H (put y.dst v e') H1) ∨
   ∃ id, e1 = put y.dst v (scrub id e) ∧ ∀ e', (∀ t ∈ y.reads, look e t = look e' t) → St P n0 y e' H (put y.dst v (scrub id e')) H1 := by
 cases s with
 | skip hl => exact ⟨.tup [], .inl ⟨rfl, fun e' h => .skip (by rw [← h _ (by simp [AIns.reads])]; exact hl)⟩⟩
 | pure hg hp => simp [AOp.isApp] at hq
 | bsl hg hp => simp [AOp.isApp] at hq
 | call hg hp => simp [AOp.isApp] at hq
 | callv hg hf hp => simp [AOp.isApp] at hq
 | gcall hg hp => simp [AOp.isApp] at hq
 | gcallv hg hf hp => simp [AOp.isApp] at hq
 | eff hg hp hn =>
  rename_i d g o v e2
  cases o <;> first | (simp [AOp.isApp] at hq; done) | skip
  rename_i wd bytes str a b
  have hab : ∀ e', (∀ t ∈ (AIns.mk d g (.e (.app wd bytes str a b)) : AIns).reads, look e t = look e' t) → a.ev e = a.ev e' ∧ b.ev e = b.ev e' := fun e' h =>
   ⟨a0r fun t ht => h t (by simp only [AIns.reads, AOp.reads, EOp.reads, List.mem_append]; exact .inr (.inl ht)), a0r fun t ht => h t (by simp only [AIns.reads, AOp.reads, EOp.reads, List.mem_append]; exact .inr (.inr ht))⟩
  have hgd : ∀ e', (∀ t ∈ (AIns.mk d g (.e (.app wd bytes str a b)) : AIns).reads, look e t = look e' t) → ∀ t want, g = some (t, want) → look e' t = .bool want := fun e' h => a0Y hg fun t ht => h t (by simp only [AIns.reads, List.mem_append]; exact .inl ht)
  simp only [ev, Option.bind_eq_some_iff] at hp
  obtain ⟨ys, hys, hp⟩ := hp
  refine ⟨v, ?_⟩
  split at hp
  ·rename_i hae
   split at hp
   ·rename_i hc
    cases hp
    refine .inl ⟨rfl, fun e' h => .eff (hgd e' h) ?_ (by simp)⟩
    simp only [ev, ← (hab e' h).1, ← (hab e' h).2, hys, Option.bind_some, hae]
    rw [if_pos hc]
   ·simp at hp
  ·rename_i id off len oc hae
   simp only [Option.bind_eq_some_iff] at hp
   obtain ⟨r, hr, hp⟩ := hp
   split at hp
   ·rename_i hc
    cases hp
    refine .inl ⟨rfl, fun e' h => .eff (hgd e' h) ?_ (by simp)⟩
    simp only [ev, ← (hab e' h).1, ← (hab e' h).2, hys, Option.bind_some, hae, hr]
    rw [if_pos hc]
   ·rename_i hc0
    split at hp
    ·rename_i hc
     cases hp
     refine .inr ⟨id, rfl, fun e' h => .eff (hgd e' h) ?_ (by simp)⟩
     simp only [ev, ← (hab e' h).1, ← (hab e' h).2, hys, Option.bind_some, hae, hr]
     rw [if_neg hc0, if_pos hc]
    ·rename_i hc1
     split at hp
     ·rename_i hc
      cases hp
      refine .inl ⟨rfl, fun e' h => .eff (hgd e' h) ?_ (by simp)⟩
      simp only [ev, ← (hab e' h).1, ← (hab e' h).2, hys, Option.bind_some, hae, hr]
      rw [if_neg hc0, if_neg hc1, if_pos hc]
     ·rename_i hc2
      split at hp
      ·rename_i hc
       cases hp
       refine .inr ⟨id, rfl, fun e' h => .eff (hgd e' h) ?_ (by simp)⟩
       simp only [ev, ← (hab e' h).1, ← (hab e' h).2, hys, Option.bind_some, hae, hr]
       rw [if_neg hc0, if_neg hc1, if_neg hc2, if_pos hc]
      ·simp at hp
  ·simp at hp
theorem f1r (id : Nat) (b : Bool) : nref id (.bool b) = true := a0j.2 (.bool b)
theorem e9k {x : AIns} {e : Env} {H : Heap} {e1 : Env} {H1 : Heap} (s : St P n0 x e H e1 H1) (hq : x.op.isMv = true) :
  H1 = H ∧ ∃ v, e1 = put x.dst v e ∧ (∀ e' H', (∀ t ∈ x.reads, look e t = look e' t) → St P n0 x e' H' (put x.dst v e') H') ∧
   ∀ id e' H', (∀ t ∈ x.reads, (if nref id (look e t) then look e t else .top) = look e' t) → St P n0 x e' H' (put x.dst (if nref id v then v else .top) e') H' := by
 have hfr : x.op.hfree = true := by
  cases h : x.op <;> rw [h] at hq <;> first | (simp [AOp.isMv] at hq; done) | skip
  rename_i o
  cases o <;> first | rfl | (simp [AOp.isMv] at hq; done)
 have hh := b9R s hfr
 cases s with
 | skip hl =>
  rename_i d t want o
  refine ⟨rfl, .tup [], rfl, fun e' L h => .skip (by rw [← h _ (by simp [AIns.reads])]; exact hl), fun id e' H' h => ?_⟩
  have h1 := h t (by simp [AIns.reads])
  have ht : nref id (.tup []) = true := a0j.2 (.tup _ fun c hc => absurd hc (by simp))
  rw [if_pos ht]
  refine .skip ?_
  rw [← h1]
  rcases hl with ⟨c, hc, hn⟩ | hc
  ·rw [hc, if_pos (f1r id c)]; exact .inl ⟨c, rfl, hn⟩
  ·rw [hc, if_pos ht]; exact .inr rfl
 | pure hg hp =>
  rename_i d g o v
  cases o <;> first | (simp [AOp.isMv] at hq; done) | skip
  rename_i a
  cases a <;> first | (simp [AOp.isMv] at hq; done) | skip
  rename_i k
  have hv : v = look e k := by simp only [pv, Src.ev, Option.some.injEq] at hp; exact hp.symm
  subst hv
  refine ⟨rfl, _, rfl, fun e' H' h => .pure (a0Y hg fun t ht => h t (by simp only [AIns.reads, List.mem_append]; exact .inl ht)) ?_, fun id e' H' h => .pure ?_ ?_⟩
  ·simp only [pv, Src.ev]
   rw [← h k (by simp [AIns.reads, AOp.reads, POp.reads, Src.tmps])]
  ·intro t want hh
   subst hh
   have h1 := h t (by simp [AIns.reads])
   rw [hg t want rfl, if_pos (f1r id want)] at h1
   exact h1.symm
  ·simp only [pv, Src.ev]
   rw [← h k (by simp [AIns.reads, AOp.reads, POp.reads, Src.tmps])]
 | bsl hg hp => simp [AOp.isMv] at hq
 | call hg hp => simp [AOp.isMv] at hq
 | callv hg hf hp => simp [AOp.isMv] at hq
 | gcall hg hp => simp [AOp.isMv] at hq
 | gcallv hg hf hp => simp [AOp.isMv] at hq
 | eff hg hp hn => simp [AOp.isMv] at hq
theorem a1Y {d : Option Nat} {v : AV} {e : Env} {rs : List Nat} (h : (match d with | some d => !rs.contains d | none => true) = true) : ∀ t ∈ rs, look e t = look (put d v e) t := by
 intro t ht
 rw [a0W]
 split
 ·rename_i hd
  subst hd
  simp at h
  exact absurd ht h
 ·rfl
theorem b1h {d1 d2 : Option Nat} {v1 v2 : AV} {e : Env} (h : ∀ d, d1 = some d → d2 ≠ some d) : a2q (put d1 v1 (put d2 v2 e)) (put d2 v2 (put d1 v1 e)) := by
 intro t
 simp only [a0W]
 by_cases h1 : d1 = some t
 ·rw [if_pos h1, if_neg (h t h1), if_pos h1]
 ·rw [if_neg h1, if_neg h1]
theorem d9N {x y : AIns} (q1 : x.op.isMv = true) (q2 : y.op.isApp = true) {e : Env} {H : Heap} {e1 : Env} {H1 : Heap} {e2 : Env} {H2 : Heap} (hx : ∀ v, ∀ t ∈ y.reads, look (put x.dst v e) t = look e t)
  (hT2 : (match y.dst with | some d => !x.reads.contains d | none => true) = true) (hd : ∀ d, y.dst = some d → x.dst ≠ some d) (s : St P n0 x e H e1 H1) (t : St P n0 y e1 H1 e2 H2) :
  ∃ e1' H' e2', St P n0 y e H e1' H' ∧ St P n0 x e1' H' e2' H2 ∧ a2q e2 e2' := by
 obtain ⟨rfl, v, rfl, f, f2⟩ := e9k s q1
 obtain ⟨u, ⟨rfl, g⟩ | ⟨id, rfl, g⟩⟩ := c4e t q2
 ·exact ⟨_, H2, _, g e (hx v), f (put y.dst u e) H2 (a1Y hT2), b1h hd⟩
 ·refine ⟨_, H2, _, g e (hx v), f2 id (put y.dst u (scrub id e)) H2 (fun t ht => ?_), fun t => ?_⟩
  ·rw [← a1Y (v := u) (e := scrub id e) hT2 t ht, a1E]
  ·simp only [a0W, a1E]
   by_cases h1 : y.dst = some t
   ·rw [if_pos h1, if_neg (hd t h1), if_pos h1]
   ·rw [if_neg h1, if_neg h1]
    split <;> rfl
theorem St.swap {x y : AIns} (hT : a8f x y = true) (hH : c7N x y = true) {e : Env} {H : Heap} {e1 : Env} {H1 : Heap} {e2 : Env} {H2 : Heap} (s : St P n0 x e H e1 H1) (t : St P n0 y e1 H1 e2 H2) :
  ∃ e1' H' e2', St P n0 y e H e1' H' ∧ St P n0 x e1' H' e2' H2 ∧ a2q e2 e2' := by
 simp only [a8f, Bool.and_eq_true] at hT
 obtain ⟨hT1, hT2⟩ := hT
 have hx : ∀ v, ∀ t ∈ y.reads, look (put x.dst v e) t = look e t := by
  intro v t ht
  refine (a1Y (rs := y.reads) (d := x.dst) ?_ t ht).symm
  cases hd : x.dst <;> simp only [hd] at hT1 ⊢
  simp only [Bool.and_eq_true] at hT1
  exact hT1.1
 have hy : ∀ v, ∀ t ∈ x.reads, look e t = look (put y.dst v e) t := fun v => a1Y hT2
 have hd : ∀ d, y.dst = some d → x.dst ≠ some d := by
  intro d h1 h2
  simp only [h2, Bool.and_eq_true] at hT1
  rw [h1] at hT1
  simp at hT1
 simp only [c7N, Bool.or_eq_true, Bool.and_eq_true] at hH
 rcases hH with (((⟨q1, q2⟩ | ⟨q1, q2⟩) | ⟨q1, q2⟩) | ⟨q1, q2⟩) | ⟨q1, q2⟩
 ·obtain ⟨rfl, v, rfl, f⟩ := b9j s q1
  obtain ⟨rfl, u, rfl, g⟩ := b9j t q2
  refine ⟨_, H2, _, by simpa using g e [] (hx v), by simpa using f (put y.dst u e) [] (hy u), b1h hd⟩
 ·obtain ⟨v, rfl, f⟩ := b9c s q1
  obtain ⟨rfl, u, rfl, g⟩ := b9R t q2
  exact ⟨_, H, _, g e H (hx v), f (put y.dst u e) (hy u), b1h hd⟩
 ·obtain ⟨rfl, v, rfl, f⟩ := b9R s q1
  obtain ⟨u, rfl, g⟩ := b9c t q2
  exact ⟨_, H2, _, g e (hx v), f (put y.dst u e) H2 (hy u), b1h hd⟩
 ·obtain ⟨rfl, v, rfl, f⟩ := b9j s q1
  obtain ⟨u, L, rfl, rfl, g⟩ := e7b t q2
  exact ⟨_, _, _, g e (hx v), f (put y.dst u e) L (hy u), b1h hd⟩
 ·exact d9N q1 q2 hx hT2 hd s t
def SwG (P : Program) (n0 : Nat) (G : Env → Prop) (x y : AIns) : Prop := ∀ {e : Env} {H : Heap} {e1 : Env} {H1 : Heap} {e2 : Env} {H2 : Heap}, G e → St P n0 x e H e1 H1 → St P n0 y e1 H1 e2 H2 →
 ∃ e1' H' e2', St P n0 y e H e1' H' ∧ St P n0 x e1' H' e2' H2 ∧ a2q e2 e2'
def d8p (P : Program) (n0 : Nat) (G : Env → Prop) (x : AIns) : Prop := ∀ {e : Env} {H : Heap} {e1 : Env} {H1 : Heap}, G e → St P n0 x e H e1 H1 → G e1
theorem Sts.bubble {G : Env → Prop} {y : AIns} {B : List AIns} {ef : Env} {Hf : Heap} : ∀ (A : List AIns) {e : Env} {H : Heap}, G e → (∀ x ∈ A, SwG P n0 G x y ∧ d8p P n0 G x) → Sts P n0 (A ++ y :: B) e H ef Hf →
  ∃ e1 H1 ef', St P n0 y e H e1 H1 ∧ Sts P n0 (A ++ B) e1 H1 ef' Hf ∧ a2q ef ef'
 | [], e, H, hg, hA, s => by
  cases s with
  | cons h t => exact ⟨_, _, _, h, t, .refl _⟩
 | x :: A, e, H, hg, hA, s => by
  cases s with
  | cons h t =>
   obtain ⟨e1, H1, ef', q1, q2, q3⟩ := Sts.bubble A ((hA x (by simp)).2 hg h) (fun x hx => hA x (by simp [hx])) t
   obtain ⟨e1', H', e2', r1, r2, r3⟩ := (hA x (by simp)).1 hg h q1
   obtain ⟨ef2, u1, u2⟩ := q2.eqv r3
   exact ⟨e1', H', ef2, r1, .cons r2 u1, q3.trans u2⟩
end
section
variable {ops : List Oper}
def d0I (ops : List Oper) (S : Nat → Prop) : Prop := ∀ j o, S j → ops[j]? = some o → ∀ e ∈ o.after, Region.binds .any e = true → S e.on
theorem d9L {T : List Nat} {o : Oper} {a : Nat} (h : (tcOf T o).testBit a = true) : ∃ e ∈ o.after, Region.binds .any e = true ∧ (a = e.on ∨ (T.getD e.on 0).testBit a = true) := by
 unfold tcOf at h
 have main : ∀ (l : List Edge) (acc : Nat), (l.foldl (fun acc e => if Region.binds .any e then (acc ||| ((1 <<< e.on) ||| T.getD e.on 0)) else acc) acc).testBit a = true →
   acc.testBit a = true ∨ ∃ e ∈ l, Region.binds .any e = true ∧ (a = e.on ∨ (T.getD e.on 0).testBit a = true) := by
  intro l
  induction l with
  | nil => intro acc h; exact .inl h
  | cons e l ih =>
   intro acc h
   rw [List.foldl_cons] at h
   rcases ih _ h with h1 | ⟨e', he', h1⟩
   ·by_cases hb : Region.binds .any e = true
    ·rw [if_pos hb] at h1
     simp only [Nat.testBit_or, Bool.or_eq_true] at h1
     rcases h1 with h1 | h1 | h1
     ·exact .inl h1
     ·refine .inr ⟨e, by simp, hb, .inl ?_⟩
      rw [Nat.one_shiftLeft, Nat.testBit_two_pow] at h1
      exact (of_decide_eq_true h1).symm
     ·exact .inr ⟨e, by simp, hb, .inr h1⟩
    ·rw [if_neg hb] at h1
     exact .inl h1
   ·exact .inr ⟨e', by simp [he'], h1⟩
 rcases main _ 0 h with h1 | ⟨e, he, h1⟩
 ·simp at h1
 ·exact ⟨e, by simpa using he, h1⟩
theorem b4P {S : Nat → Prop} (hS : d0I ops S) : ∀ (r : List Oper) (pre : List Oper) (T : List Nat), ops = pre ++ r → T.length = pre.length →
  (∀ (i m : Nat) (o : Oper), T[i]? = some m → ops[i]? = some o → (∀ e ∈ o.after, Region.binds .any e = true → S e.on) → ∀ a, m.testBit a = true → S a) →
  ∀ (i m : Nat) (o : Oper), (a8s r T)[i]? = some m → ops[i]? = some o → (∀ e ∈ o.after, Region.binds .any e = true → S e.on) → ∀ a, m.testBit a = true → S a
 | [], pre, T, h, hl, hT => by simpa [a8s] using hT
 | o :: r, pre, T, h, hl, hT => by
  simp only [a8s]
  refine b4P hS r (pre ++ [o]) _ (by simp [h]) (by simp [hl]) ?_
  intro i m o' hm ho' he a ha
  rcases Nat.lt_or_ge i T.length with hi | hi
  ·rw [List.getElem?_append_left hi] at hm
   exact hT i m o' hm ho' he a ha
  ·have hi' : i = T.length := by
    have := a0h hm
    simp at this; omega
   subst hi'
   simp at hm
   have : o' = o := by
    rw [h, hl] at ho'
    simpa using ho'.symm
   subst this
   subst hm
   obtain ⟨e, h1, h2, h3⟩ := d9L ha
   rcases h3 with rfl | h3
   ·exact he e h1 h2
   ·have hs := he e h1 h2
    cases hx : T[e.on]? with
    | none => simp [List.getD_eq_getElem?_getD, hx] at h3
    | some m' =>
     have h3' : m'.testBit a = true := by simpa [List.getD_eq_getElem?_getD, hx] using h3
     have hlt := a0h hx
     have hlt' : e.on < ops.length := by rw [h]; simp; omega
     exact hT e.on m' ops[e.on] hx (List.getElem?_eq_getElem hlt') (fun e2 q1 q2 => hS e.on _ hs (List.getElem?_eq_getElem hlt') e2 q1 q2) a h3'
theorem b8J {m : Nat} {y : AIns} : ∀ {k : Nat} {pre : List AIns}, d2v m y k pre = true → ∀ a x, pre[a]? = some x → m.testBit (k + a) = true ∨ (a8f x y = true ∧ c7N x y = true)
 | _, [], _, a, x, hx => by simp at hx
 | k, p :: pre, h, a, x, hx => by
  simp only [d2v, Bool.and_eq_true, Bool.or_eq_true] at h
  cases a with
  | zero => simp at hx; subst hx; exact h.1
  | succ a =>
   rw [show k + (a + 1) = (k + 1) + a by omega]
   exact b8J h.2 a x (by simpa using hx)
theorem b8K {T : List Nat} : ∀ {l pre : List AIns}, c7E T pre.length pre l = true → ∀ i a x y, pre.length ≤ i → a < i → (pre ++ l)[a]? = some x → (pre ++ l)[i]? = some y → (T.getD i 0).testBit a = true ∨ (a8f x y = true ∧ c7N x y = true)
 | [], pre, h, i, a, x, y, h0, h1, h2, h3 => by
  have := a0h h3
  simp at this; omega
 | z :: l, pre, h, i, a, x, y, h0, h1, h2, h3 => by
  simp only [c7E, Bool.and_eq_true] at h
  rcases Nat.lt_or_eq_of_le h0 with hlt | heq
  ·have h' : c7E T (pre ++ [z]).length (pre ++ [z]) l = true := by simpa using h.2
   exact b8K h' i a x y (by simp; omega) h1 (by simpa using h2) (by simpa using h3)
  ·subst heq
   simp at h3
   subst h3
   rw [List.getElem?_append_left h1] at h2
   have := b8J h.1 a x h2
   simpa using this
theorem a6N : ∀ {k : Nat} {l : List Oper}, b4K k l = true → ∀ i o, l[i]? = some o → ∀ e ∈ o.after, Region.binds .any e = true → e.on < k + i
 | _, [], _, i, o, h => by simp at h
 | k, p :: l, h, i, o, ho => by
  simp only [b4K, Bool.and_eq_true] at h
  cases i with
  | zero =>
   simp at ho; subst ho
   intro e he hb
   have := List.all_eq_true.1 h.1 e (by simpa using he)
   simpa [hb] using this
  | succ i =>
   rw [show k + (i + 1) = (k + 1) + i by omega]
   exact a6N h.2 i o (by simpa using ho)
end
section
variable {P : Program} {nt : Nat}
theorem a6j {mu : Nat → Nat → Bool} {rid : Nat} {ops : Array Oper} : ∀ (l0 : List Oper) (k : Nat) (l : List AIns), a2C P mu nt rid ops k l0 = some l → l.length = l0.length ∧ ∀ i o, l0[i]? = some o → ∃ x, l[i]? = some x ∧ cins P (mu rid (k + i)) nt ops o = some x
 | [], k, l, h => by
  simp [a2C] at h; subst h; simp
 | o :: l0, k, l, h => by
  simp only [a2C] at h
  split at h
  ·rename_i i l' hi hl
   cases h
   obtain ⟨q1, q2⟩ := a6j l0 (k + 1) l' hl
   refine ⟨by simp [q1], fun j o' ho => ?_⟩
   cases j with
   | zero => simp at ho; subst ho; exact ⟨i, by simp, hi⟩
   | succ j =>
    obtain ⟨x, r1, r2⟩ := q2 j o' (by simpa using ho)
    exact ⟨x, by simpa using r1, by rw [show k + (j + 1) = (k + 1) + j by omega]; exact r2⟩
  ·simp at h
theorem St.wpOp {n0 : Nat} {mutable : Bool} {ops : Array Oper} {o : Oper} {j : Nat} (hj : ops[j]? = some o) {x : AIns} (hi : cins P mutable nt ops o = some x) {E : Emb} {env : Env} {tmps : Array Value} (hsz : tmps.size = nt)
  (hok : HOk E) (he : a0B E env tmps) (hn : n0 ≤ E.H.length) {e1 : Env} {H1 : Heap} (s : St P n0 x env E.H e1 H1) {Q : Exit → Act → World → Prop} {next : Act → World → Prop}
  (hnext : ∀ a w, Kc n0 nt E (fun e' H' => e' = e1 ∧ H' = H1) a w → next a w) : Go.wpOp P ops Q j next ⟨tmps, []⟩ E.w := by
 unfold cins at hi
 split at hi
 ·rename_i hd
  split at hi
  ·rename_i g a hg ha
   cases hi
   have hw := b5U (o := o) he hg
   unfold Go.wpOp
   rw [hj]
   simp only
   have go : (∀ t want, g = some (t, want) → look env t = .bool want) → a3W P n0 a o.dst (fun e' H' => e' = e1 ∧ H' = H1) env E.H → (if Region.wanted o (yielded ops tmps) then o.wp P ⟨tmps, []⟩ E.w next Q ∨ (o.asks P ⟨tmps, []⟩ E.w ∧ LetsOut Q) else next ((Act.mk tmps []).put o.dst undef) E.w) := by
    intro hgd hs
    have hwt : Region.wanted o (yielded ops tmps) = true := by
     split at hw
     ·exact hw
     ·rename_i t want _
      rw [hw.1 want (hgd t want rfl)]; simp
    rw [if_pos hwt]
    exact .inl (a9H ha hd hsz hok he hn hs hnext)
   cases s with
   | skip hl =>
    rename_i t want
    simp only at hw
    have hf : Region.wanted o (yielded ops tmps) = false := by
     rcases hl with ⟨c, hl, hc⟩ | hl
     ·rw [hw.1 c hl]; simpa using hc
     ·exact hw.2 hl
    rw [if_neg (by rw [hf]; simp)]
    refine hnext _ _ ⟨E.φ, _, E.H, ⟨rfl, rfl⟩, hok, ?_, ?_, ?_, hn, Ext.refl _ _⟩
    ·subst hsz; exact a4d he hd b6b
    ·cases o.dst <;> rfl
    ·rw [b7x]; exact hsz
   | pure hgd hp => exact go hgd (by simp only [a3W, hp, a9a, and_self])
   | bsl hgd hp => exact go hgd (by simp only [a3W, hp, b5q, and_self])
   | call hgd hp => exact go hgd (by
     simp only [a3W]
     have := hp []
     simp only [List.append_nil] at this
     exact this.mono fun r H' ⟨h1, h2⟩ => by subst h1; subst h2; exact ⟨rfl, rfl⟩)
   | callv hgd hf hp => exact go hgd (by
     simp only [a3W, hf]
     have := hp []
     simp only [List.append_nil] at this
     exact this.mono fun r H' ⟨h1, h2⟩ => by subst h1; subst h2; exact ⟨rfl, rfl⟩)
   | gcall hgd hp => exact go hgd (by simp only [a3W]; exact hp.mono fun r H' ⟨h1, h2⟩ => by subst h1; subst h2; exact ⟨rfl, rfl⟩)
   | gcallv hgd hf hp => exact go hgd (by simp only [a3W, hf]; exact hp.mono fun r H' ⟨h1, h2⟩ => by subst h1; subst h2; exact ⟨rfl, rfl⟩)
   | eff hgd hp hne => exact go hgd (by simp only [a3W, hp, b5q, and_self])
  ·simp at hi
 ·simp at hi
theorem c8U {E : Emb} {env env' : Env} {tmps : Array Value} (he : a0B E env tmps) (h : a2q env env') : a0B E env' tmps := fun t => by rw [← h t]; exact he t
theorem d0S {mu : Nat → Nat → Bool} {rid : Nat} {ops : Array Oper} {l : List AIns} (hl : a2C P mu nt rid ops 0 ops.toList = some l) (hback : b4K 0 ops.toList = true) {n0 : Nat} {G : Env → Prop} (hGk : ∀ x ∈ l, d8p P n0 G x)
  {Q : Exit → Act → World → Prop} {E0 : Emb} {ef : Env} {Hf : Heap}
  (hQ : ∀ a w, Kc n0 nt E0 (fun e' H' => a2q ef e' ∧ H' = Hf) a w → Q .normal a w) :
  ∀ (fuel : Nat) (rem : List Nat) (listed : Array Bool), listed.size = ops.size → rem.Pairwise (· < ·) → (∀ i, i ∈ rem ↔ listed.getD i true = false) → rem.length ≤ fuel →
   d0I ops.toList (fun j => listed.getD j false = true) →
   (∀ i a x y, a ∈ rem → i ∈ rem → a < i → l[a]? = some x → l[i]? = some y → ((a8s ops.toList []).getD i 0).testBit a = true ∨ SwG P n0 G x y) →
   ∀ (E : Emb) (env : Env) (tmps : Array Value) (ef' : Env), tmps.size = nt → HOk E → a0B E env tmps → n0 ≤ E.H.length → Ext (· < n0) E0 E → a2q ef ef' → G env →
    Sts P n0 (rem.filterMap (l[·]?)) env E.H ef' Hf → wpAny P .any ops Q fuel listed ⟨tmps, []⟩ E.w := by
 obtain ⟨hlen, hget⟩ := a6j _ _ _ hl
 have done : ∀ (E : Emb) (env : Env) (tmps : Array Value) (ef' : Env), tmps.size = nt → HOk E → a0B E env tmps → n0 ≤ E.H.length → Ext (· < n0) E0 E → a2q ef ef' → Sts P n0 [] env E.H ef' Hf → Q .normal ⟨tmps, []⟩ E.w := by
  intro E env tmps ef' h1 h2 h3 h4 h5 h6 h7
  generalize hH : E.H = HH at h7
  cases h7
  exact hQ _ _ ⟨E.φ, env, E.H, ⟨h6, hH⟩, h2, h3, rfl, h1, h4, h5⟩
 have noready : ∀ (rem : List Nat) (listed : Array Bool), listed.size = ops.size → rem.Pairwise (· < ·) → (∀ i, i ∈ rem ↔ listed.getD i true = false) → Region.ready .any ops listed = [] → rem = [] := by
  intro rem listed hsz hp hm hr
  cases rem with
  | nil => rfl
  | cons i rem =>
   exfalso
   have hi := (hm i).1 (by simp)
   have hlt : i < ops.size := by
    rw [← hsz]
    rcases Nat.lt_or_ge i listed.size with h' | h'
    ·exact h'
    ·simp [Array.getElem?_eq_none h'] at hi
   have : i ∈ Region.ready .any ops listed := by
    rw [mem_ready]
    refine ⟨hi, ops[i], by simp [hlt], fun e he hb => ?_⟩
    have hlt2 := a6N hback i ops[i] (by simp [hlt]) e he hb
    have hno : ¬ e.on ∈ i :: rem := by
     intro hmem
     rcases List.mem_cons.1 hmem with h | h
     ·omega
     ·have := (List.pairwise_cons.1 hp).1 _ h
      omega
    rw [hm] at hno
    have hlt3 : e.on < listed.size := by omega
    simp [hlt3] at hno ⊢
    exact hno
   rw [hr] at this
   cases this
 intro fuel
 induction fuel with
 | zero =>
  intro rem listed hsz hp hm hf hcl hall' E env tmps ef' h1 h2 h3 h4 h5 h6 hg h7
  have : rem = [] := List.length_eq_zero_iff.1 (Nat.le_zero.1 hf)
  subst this
  refine ⟨?_, done E env tmps ef' h1 h2 h3 h4 h5 h6 h7⟩
  cases hr : Region.ready .any ops listed with
  | nil => rfl
  | cons i r =>
   have := (mem_ready.1 (show i ∈ Region.ready .any ops listed by rw [hr]; simp)).1
   rw [← hm] at this
   simp at this
 | succ fuel ih =>
  intro rem listed hsz hp hm hf hcl hall' E env tmps ef' h1 h2 h3 h4 h5 h6 hg h7
  refine ⟨fun hr => ?_, fun i hi => ?_⟩
  ·have := noready rem listed hsz hp hm hr
   subst this
   exact done E env tmps ef' h1 h2 h3 h4 h5 h6 h7
  ·obtain ⟨hun, o, ho, hedges⟩ := mem_ready.1 hi
   have himem := (hm i).2 hun
   obtain ⟨A, B, rfl⟩ := List.append_of_mem himem
   obtain ⟨x, hx, hcx⟩ := hget i o (by simpa using ho)
   have hAlt : ∀ a ∈ A, a < i := fun a ha => (List.pairwise_append.1 hp).2.2 a ha i (by simp)
   have hapart : ∀ z ∈ A.filterMap (l[·]?), SwG P n0 G z x ∧ d8p P n0 G z := by
    intro z hz
    obtain ⟨a, ha, hza⟩ := List.mem_filterMap.1 hz
    refine ⟨?_, hGk z (List.mem_of_getElem? (by simpa using hza))⟩
    rcases hall' i a z x (by simp [ha]) (by simp) (hAlt a ha) (by simpa using hza) (by simpa using hx) with hb | hb
    ·exfalso
     -- a would be listed
     have hT : ∃ m, (a8s ops.toList [])[i]? = some m ∧ m.testBit a = true := by
      cases hq : (a8s ops.toList [])[i]? with
      | none => simp [List.getD_eq_getElem?_getD, hq] at hb
      | some m => exact ⟨m, rfl, by simpa [List.getD_eq_getElem?_getD, hq] using hb⟩
     obtain ⟨m, hm1, hm2⟩ := hT
     have := b4P (S := fun j => listed.getD j false = true) hcl ops.toList [] [] rfl rfl (by simp) i m o hm1 (by simpa using ho) hedges a hm2
     have ha' := (hm a).1 (by simp [ha])
     rcases Nat.lt_or_ge a listed.size with h' | h'
     ·simp [h'] at this ha'; rw [this] at ha'; cases ha'
     ·simp [Array.getElem?_eq_none h'] at ha'
    ·exact hb
   simp only [List.filterMap_append, List.filterMap_cons, hx] at h7
   obtain ⟨e1, H1, ef2, q1, q2, q3⟩ := Sts.bubble _ hg hapart h7
   refine St.wpOp ho hcx h1 h2 h3 h4 q1 ?_
   rintro a w' ⟨φ, env', H', ⟨rfl, rfl⟩, r1, r2, r3, r4, r5, r6⟩
   have ha : a = ⟨a.tmps, []⟩ := by cases a; simp at r3; simp [r3]
   rw [ha]
   have hilt : i < listed.size := by
    rcases Nat.lt_or_ge i listed.size with h' | h'
    ·exact h'
    ·simp [Array.getElem?_eq_none h'] at hun
   have hpAB : (A ++ B).Pairwise (· < ·) := by
    rw [List.pairwise_append] at hp ⊢
    exact ⟨hp.1, (List.pairwise_cons.1 hp.2.1).2, fun a ha b hb => hp.2.2 a ha b (by simp [hb])⟩
   have hiB : ∀ b ∈ B, i < b := (List.pairwise_cons.1 (List.pairwise_append.1 hp).2.1).1
   refine ih (A ++ B) (listed.setIfInBounds i true) (by simp [hsz]) hpAB ?_ (by simp at hf ⊢; omega) ?_ (fun i' a' x' y' ha' hi' => hall' i' a' x' y' (by simp at ha' ⊢; rcases ha' with h | h <;> simp [h]) (by simp at hi' ⊢; rcases hi' with h | h <;> simp [h])) ⟨φ, H', w'⟩ env' a.tmps ef2 r4 r1 r2 r5 (h5.trans r6) (h6.trans q3) (hGk x (List.mem_of_getElem? (by simpa using hx)) hg q1) (by simpa [List.filterMap_append] using q2)
   ·intro k
    by_cases hk : k = i
    ·subst hk
     constructor
     ·intro hmem
      exfalso
      rcases List.mem_append.1 hmem with h | h
      ·exact Nat.lt_irrefl _ (hAlt _ h)
      ·exact Nat.lt_irrefl _ (hiB _ h)
     ·intro h; simp [hilt] at h
    ·rw [getD_set_ne true (Ne.symm hk), ← hm k]
     simp [hk]
   ·intro j oj hj hoj e he hb
    by_cases hji : j = i
    ·subst hji
     have : oj = o := by
      have h' : ops.toList[j]? = some o := by simpa using ho
      rw [h'] at hoj; cases hoj; rfl
     subst this
     exact getD_set_true (hedges e he hb)
    ·rw [getD_set_ne false (Ne.symm hji)] at hj
     exact getD_set_true (hcl j oj hj hoj e he hb)
theorem a9A (S : Nat → Prop) (φ : Nat → Option Nat) (H : Heap) (w : World) (n : Nat) : Ext S ⟨φ, H, w⟩ ⟨φ, H, { w with drawn := n }⟩ :=
 ⟨rfl, rfl, rfl, Nat.le_refl _, fun _ _ h => h, fun _ _ _ => rfl, fun id blk' _ _ h => ⟨blk', h, rfl⟩, fun _ _ _ _ _ _ _ => rfl, fun _ _ h => h, fun _ _ _ => rfl⟩
theorem c3R {φ : Nat → Option Nat} {H : Heap} {w : World} {n : Nat} (h : HOk ⟨φ, H, w⟩) : HOk ⟨φ, H, { w with drawn := n }⟩ := by
 refine ⟨fun id blk b h1 h2 h3 => h.obj id blk b h1 h2 h3, h.wids, ?_, h.emp, h.inj⟩
 intro id blk b h1 h2
 obtain ⟨c, e, r⟩ := h.row id blk b h1 h2
 exact ⟨c, e, r.heap, r.fits, r.one, fun k v a hk ha => (r.rep k v a hk ha).mono (a9A All φ H w n) ((r.rep k v a hk ha).ref.mono fun _ _ => trivial)⟩
end
def b2W (P : Program) (n0 : Nat) (o : AOp) (d : Option Nat) (K : Env → Heap → Prop) (env : Env) (H : Heap) : Prop :=
 match o with
 | .p o => a9a (pv o env H) fun v => K (put d v env) H
 | .e o => b5q (ev n0 o env H) fun v env' H' => K (put d v env') H'
 | .call f args => ∃ r, (∀ L, a0m P f (args.map (·.ev env)) (H ++ L) fun r' H' => r' = r ∧ H' = H ++ L) ∧ K (put d r env) H
 | .callv g args => match g.ev env with
  | .fn f caps => ∃ r, (∀ L, a0m P f (args.map (·.ev env) ++ caps) (H ++ L) fun r' H' => r' = r ∧ H' = H ++ L) ∧ K (put d r env) H
  | _ => False
 | .gcall f args => ∃ r L, (a0m P f (args.map (·.ev env)) H fun r' H' => r' = r ∧ H' = H ++ L) ∧ K (put d r env) (H ++ L)
 | .gcallv g args => match g.ev env with
  | .fn f caps => ∃ r L, (a0m P f (args.map (·.ev env) ++ caps) H fun r' H' => r' = r ∧ H' = H ++ L) ∧ K (put d r env) (H ++ L)
  | _ => False
 | .nxt _ => False
def dops (P : Program) (n0 : Nat) : List AIns → (Env → Heap → Prop) → Env → Heap → Prop
 | [], K, env, H => K env H
 | i :: l, K, env, H =>
  match i.guard with
  | none => b2W P n0 i.op i.dst (dops P n0 l K) env H
  | some (t, want) => b0b want (look env t) fun c => if c = want then b2W P n0 i.op i.dst (dops P n0 l K) env H else dops P n0 l K (put i.dst (.tup []) env) H
theorem d5I {P : Program} {n0 : Nat} {o : AOp} {d : Option Nat} {g : Option (Nat × Bool)} {K : Env → Heap → Prop} {env : Env} {H : Heap} (hg : ∀ t want, g = some (t, want) → look env t = .bool want) (h : b2W P n0 o d K env H) :
  ∃ e1 H1, St P n0 ⟨d, g, o⟩ env H e1 H1 ∧ K e1 H1 := by
 cases o with
 | p o =>
  simp only [b2W, a9a] at h
  split at h
  ·rename_i v hv
   exact ⟨_, _, .pure hg hv, h⟩
  ·exact h.elim
 | e o =>
  simp only [b2W, b5q] at h
  split at h
  ·rename_i v env' H' hv
   by_cases hb : ∃ wd ps, o = .bsl wd ps
   ·obtain ⟨wd, ps, rfl⟩ := hb
    have : env' = env ∧ H' = H := by
     simp only [ev] at hv
     split at hv
     ·cases hv; exact ⟨rfl, rfl⟩
     ·simp at hv
    obtain ⟨rfl, rfl⟩ := this
    exact ⟨_, _, .bsl hg hv, h⟩
   ·exact ⟨_, _, .eff hg hv (fun wd ps he => hb ⟨wd, ps, he⟩), h⟩
  ·exact h.elim
 | call f args =>
  obtain ⟨r, h1, h2⟩ := h
  exact ⟨_, _, .call hg h1, h2⟩
 | callv s args =>
  simp only [b2W] at h
  split at h
  ·rename_i f caps hf
   obtain ⟨r, h1, h2⟩ := h
   exact ⟨_, _, .callv hg hf h1, h2⟩
  ·exact h.elim
 | gcall f args =>
  obtain ⟨r, L, h1, h2⟩ := h
  exact ⟨_, _, .gcall hg h1, h2⟩
 | gcallv s args =>
  simp only [b2W] at h
  split at h
  ·rename_i f caps hf
   obtain ⟨r, L, h1, h2⟩ := h
   exact ⟨_, _, .gcallv hg hf h1, h2⟩
  ·exact h.elim
 | nxt a => exact h.elim
theorem a6M {P : Program} {n0 : Nat} {K : Env → Heap → Prop} : ∀ {l : List AIns} {env : Env} {H : Heap}, dops P n0 l K env H → ∃ e1 H1, Sts P n0 l env H e1 H1 ∧ K e1 H1
 | [], env, H, h => ⟨_, _, .nil, h⟩
 | ⟨d, g, o⟩ :: l, env, H, h => by
  simp only [dops] at h
  split at h
  ·obtain ⟨e1, H1, q1, q2⟩ := d5I (g := none) (by simp) h
   obtain ⟨e2, H2, r1, r2⟩ := a6M q2
   exact ⟨_, _, .cons q1 r1, r2⟩
  ·rename_i t want
   simp only [b0b] at h
   split at h
   ·rename_i c hc
    split at h
    ·rename_i hcw
     subst hcw
     obtain ⟨e1, H1, q1, q2⟩ := d5I (g := some (t, c)) (by rintro _ _ ⟨⟩; exact hc) h
     obtain ⟨e2, H2, r1, r2⟩ := a6M q2
     exact ⟨_, _, .cons q1 r1, r2⟩
    ·rename_i hcw
     obtain ⟨e2, H2, r1, r2⟩ := a6M h
     exact ⟨_, _, .cons (.skip (.inl ⟨c, hc, hcw⟩)) r1, r2⟩
   ·rename_i hc
    rw [if_neg (by cases want <;> simp)] at h
    obtain ⟨e2, H2, r1, r2⟩ := a6M h
    exact ⟨_, _, .cons (.skip (.inr hc)) r1, r2⟩
   ·exact h.elim
theorem Safe.regionD {x : Cx} {todo : List AItem} {env : Env} {H : Heap} {R : AV → Heap → Prop} {l : List AIns} (h : dops x.P x.n0 l (fun env' H' => Safe x todo env' H' R) env H) : Safe x (.code (.region l true) :: todo) env H R := by
 intro φ w tmps b k cs hg hn hb hk ht hsz hok he
 obtain ⟨i, k', rfl, h1, h2⟩ := a1e ht
 obtain ⟨c, rfl, h1⟩ := a1A h1
 obtain ⟨id, ops, rfl, g1, g2⟩ := d0v h1
 have g2 := g2 rfl
 have hmix : x.P.follows .mixedOrders = true := by simp only [dchk, Bool.and_eq_true] at g2; exact g2.1
 obtain ⟨ef, Hf, s1, s2⟩ := a6M h
 have hx0 := a9A (· < x.n0) φ H w (w.drawn + 1)
 have hxA := a9A All φ H w (w.drawn + 1)
 have hlst : (List.range ops.size).filterMap (l[·]?) = l := by
  have := (a6j _ _ _ g1).1
  have hl : ops.size = l.length := by simpa using this.symm
  rw [hl]
  apply List.ext_getElem?
  intro m
  have : ∀ (n : Nat), n ≤ l.length → (List.range n).filterMap (l[·]?) = l.take n := by
   intro n
   induction n with
   | zero => simp
   | succ n ih =>
    intro hn
    rw [List.range_succ, List.filterMap_append, ih (by omega), List.take_add_one]
    simp [List.getElem?_eq_getElem (show n < l.length by omega)]
  rw [this l.length (Nat.le_refl _), List.take_length]
 have g3 := g2
 simp only [dchk, Bool.and_eq_true] at g3
 have hall' := b8K (pre := []) g3.2.2
 have hw := d0S (P := x.P) (nt := x.nt) g1 g3.2.1 (n0 := x.n0) (G := fun _ => True) (fun _ _ => fun _ _ => trivial) (E0 := ⟨φ, H, { w with drawn := w.drawn + 1 }⟩) (ef := ef) (Hf := Hf)
  (Q := fun e a w' => e = .normal ∧ Kc x.n0 x.nt ⟨φ, H, { w with drawn := w.drawn + 1 }⟩ (fun e' H' => a2q ef e' ∧ H' = Hf) a w') (fun a w h => ⟨rfl, h⟩)
  ops.size (List.range ops.size) (Array.replicate ops.size false) (by simp) (List.pairwise_lt_range) (by
   intro i
   rw [List.mem_range]
   constructor
   ·intro hi; simp [hi]
   ·intro hi
    rcases Nat.lt_or_ge i ops.size with h' | h'
    ·exact h'
    ·simp [Array.getElem?_eq_none (show (Array.replicate ops.size false).size ≤ i by simpa using h')] at hi) (by simp) (by
   intro j o hj
   exfalso
   rcases Nat.lt_or_ge j ops.size with h' | h'
   ·simp [h'] at hj
   ·simp [Array.getElem?_eq_none (show (Array.replicate ops.size false).size ≤ j by simpa using h')] at hj)
  (fun i a x y _ _ hai hx hy => by
   rcases hall' i a x y (by simp) hai (by simpa using hx) (by simpa using hy) with h | h
   ·exact .inl h
   ·exact .inr fun _ s t => St.swap h.1 h.2 s t)
  ⟨φ, H, { w with drawn := w.drawn + 1 }⟩ env tmps ef hsz (c3R hok) (he.mono (hxA.sub fun _ _ => trivial)) hn (Ext.refl _ _) (.refl _) trivial (by rw [hlst]; exact s1)
 obtain ⟨e, a', w', ⟨rfl, φ1, env1, H1, ⟨sq, rfl⟩, s3, s4, s5, s6, s7, s8⟩, harr⟩ := wp_region_any hmix hw b k' cs
 have ha : a' = ⟨a'.tmps, []⟩ := by cases a'; simp at s5; simp [s5]
 rw [ha] at harr
 obtain ⟨v, w2, fr, r, φ', H', q1, q2, q3, q4, q5, q6, q7⟩ := s2 φ1 w' a'.tmps b k' cs hg s7 hb hk h2 s6 s3 (c8U s4 sq.symm)
 exact ⟨v, w2, fr, r, φ', H', q1, q2, q3, q4, hx0.trans (s8.trans q5), Steps.trans harr q6, q7⟩
end Go.Abs
namespace Go.Abs
def e3n (a b : AV) : Prop := match a, b with
 | .loc i _ _, .loc j _ _ => i ≠ j
 | _, _ => False
theorem d4V (i j k l o p : Nat) : e3n (.loc i k o) (.loc j l p) = (i ≠ j) := rfl
def sdP (e : Env) (p : Nat × Nat) : Prop := if p.1 = p.2 then Cl (look e p.1) else e3n (look e p.1) (look e p.2)
def sdOk : List (Nat × Nat) → Env → Prop
 | [], _ => True
 | p :: r, e => sdP e p ∧ sdOk r e
theorem d1g (e : Env) : sdOk [] e = True := rfl
theorem c4M (a b : Nat) (r : List (Nat × Nat)) (e : Env) : sdOk ((a, b) :: r) e = ((if a = b then Cl (look e a) else e3n (look e a) (look e b)) ∧ sdOk r e) := rfl
theorem c3L : ∀ {sd : List (Nat × Nat)} {e : Env}, sdOk sd e → ∀ p ∈ sd, sdP e p
 | [], _, _, p, h => by cases h
 | q :: r, e, h, p, hp => by
  rcases List.mem_cons.1 hp with rfl | hp
  ·exact h.1
  ·exact c3L h.2 p hp
theorem e8L {sd : List (Nat × Nat)} {e : Env} (h : sdOk sd e) {t : Nat} (ht : sd.contains (t, t) = true) : Cl (look e t) := by
 have := c3L h (t, t) (by simpa using ht)
 unfold sdP at this
 rwa [if_pos rfl] at this
theorem e1g {a b : AV} (h : e3n a b) : ∃ i j k l o p, a = .loc i k o ∧ b = .loc j l p ∧ i ≠ j := by
 cases a <;> cases b <;> first | exact h.elim | exact ⟨_, _, _, _, _, _, rfl, rfl, h⟩
section
variable {P : Program} {n0 : Nat}
theorem St.look {x : AIns} {e : Env} {H : Heap} {e1 : Env} {H1 : Heap} (s : St P n0 x e H e1 H1) (ha : x.op.isApp = false) {t : Nat} (ht : x.dst ≠ some t) : look e1 t = look e t := by
 cases s with
 | skip hl => rw [a0W, if_neg ht]
 | pure hg hp => rw [a0W, if_neg ht]
 | bsl hg hp => rw [a0W, if_neg ht]
 | call hg hp => rw [a0W, if_neg ht]
 | callv hg hf hp => rw [a0W, if_neg ht]
 | gcall hg hp => rw [a0W, if_neg ht]
 | gcallv hg hf hp => rw [a0W, if_neg ht]
 | eff hg hp hn =>
  rename_i o v e'
  rw [a0W, if_neg ht]
  suffices e' = e by rw [this]
  cases o with
  | app => simp [AOp.isApp] at ha
  | store n a b =>
   simp only [ev] at hp
   split at hp
   ·simp only [Option.bind_eq_some_iff] at hp
    obtain ⟨b, hb, hp⟩ := hp
    split at hp
    ·cases hp; rfl
    ·cases hp
   ·cases hp
  | cpy =>
   simp only [ev, Option.bind_eq_some_iff] at hp
   obtain ⟨ys, hy, hp⟩ := hp
   split at hp
   ·simp only [Option.bind_eq_some_iff] at hp
    obtain ⟨b, hb, hp⟩ := hp
    split at hp
    ·cases hp; rfl
    ·cases hp
   ·cases hp
  | mksl =>
   simp only [ev] at hp
   split at hp
   ·split at hp
    ·cases hp; rfl
    ·cases hp
   ·cases hp
  | mkmap => simp only [ev] at hp; cases hp; rfl
  | mset m k v' =>
   simp only [ev] at hp
   split at hp
   ·simp only [Option.bind_eq_some_iff] at hp
    obtain ⟨b, hb, hp⟩ := hp
    split at hp
    ·cases hp; rfl
    ·cases hp
   ·cases hp
  | mrng m =>
   simp only [ev] at hp
   split at hp
   ·simp only [Option.bind_eq_some_iff] at hp
    obtain ⟨b, hb, hp⟩ := hp
    cases hp; rfl
   ·cases hp
  | _ =>
   simp only [ev] at hp
   split at hp
   ·cases hp; rfl
   ·cases hp
theorem d7K {H : Heap} {i j : Nat} {b : Option Blk} (h : i ≠ j) : hrow (H.set j b) i = hrow H i := by
 unfold hrow
 rw [List.getElem?_set, if_neg (fun e => h e.symm)]
theorem e2a {x y : AIns} (hT : a8f x y = true) {a b : Nat} (hl : ldst x y = some (a, b)) {e : Env} {H : Heap} {e1 : Env} {H1 : Heap} {e2 : Env} {H2 : Heap} (hne : e3n (Go.Abs.look e a) (Go.Abs.look e b)) (s : St P n0 x e H e1 H1) (t : St P n0 y e1 H1 e2 H2) :
  ∃ e1' H' e2', St P n0 y e H e1' H' ∧ St P n0 x e1' H' e2' H2 ∧ a2q e2 e2' := by
 obtain ⟨xd, xg, xo⟩ := x
 obtain ⟨yd, yg, yo⟩ := y
 simp only [ldst] at hl
 split at hl
 ·rename_i n a' m b' sv
  cases hl
  simp only [a8f, Bool.and_eq_true] at hT
  obtain ⟨hT1, hT2⟩ := hT
  have hx : ∀ v, ∀ t ∈ (AIns.mk yd yg (.e (.store m (.t b) sv))).reads, Go.Abs.look (put xd v e) t = Go.Abs.look e t := by
   intro v t ht
   refine (a1Y (rs := (AIns.mk yd yg (.e (.store m (.t b) sv))).reads) (d := xd) ?_ t ht).symm
   cases hd : xd <;> simp only [hd] at hT1 ⊢
   simp only [Bool.and_eq_true] at hT1
   exact hT1.1
  have hy : ∀ v, ∀ t ∈ (AIns.mk xd xg (.p (.load n (.t a)))).reads, Go.Abs.look e t = Go.Abs.look (put yd v e) t := fun v => a1Y hT2
  have hd : ∀ d, yd = some d → xd ≠ some d := by
   intro d h1 h2
   simp only [h2, Bool.and_eq_true] at hT1
   rw [h1] at hT1
   simp at hT1
  obtain ⟨i, j, k, l, o, p, ea, eb, hij⟩ := e1g hne
  have hra : a ∈ (AIns.mk xd xg (.p (.load n (.t a)))).reads := by simp [AIns.reads, AOp.reads, POp.reads, Src.tmps]
  have fx : H1 = H ∧ ∃ v, e1 = put xd v e ∧ ∀ e' H', (∀ t ∈ (AIns.mk xd xg (.p (.load n (.t a)))).reads, Go.Abs.look e t = Go.Abs.look e' t) → hrow H' i = hrow H i → St P n0 ⟨xd, xg, .p (.load n (.t a))⟩ e' H' (put xd v e') H' := by
   cases s with
   | skip hl => exact ⟨rfl, .tup [], rfl, fun e' H' h _ => .skip (by rw [← h _ (by simp [AIns.reads])]; exact hl)⟩
   | pure hg hp =>
    refine ⟨rfl, _, rfl, fun e' H' h hrw => .pure (a0Y hg fun t ht => h t (by simp only [AIns.reads, List.mem_append]; exact .inl ht)) ?_⟩
    have ea' : Go.Abs.look e' a = .loc i k o := by rw [← h a hra, ea]
    simp only [pv, Src.ev, ea, ea', a7p, atV] at hp ⊢
    rw [hrw]; exact hp
  obtain ⟨rfl, v, rfl, f⟩ := fx
  -- what the store leaves in row i
  have hrow : hrow H2 i = hrow H1 i := by
   have hxb := hx v b (by simp [AIns.reads, AOp.reads, EOp.reads, Src.tmps])
   cases t with
   | skip => rfl
   | eff hg hp hn =>
    simp only [ev] at hp
    have hb2 : (Src.t b).ev (put xd v e) = .loc j l p := by
     show Go.Abs.look _ b = _
     rw [hxb, eb]
    rw [hb2] at hp
    simp only [Option.bind_eq_some_iff] at hp
    obtain ⟨blk, hb, hp⟩ := hp
    split at hp
    ·cases hp; exact d7K hij
    ·cases hp
  obtain ⟨u, rfl, g⟩ := b9c t rfl
  exact ⟨_, H2, _, g e (hx v), f (put yd u e) H2 (hy u) hrow, b1h hd⟩
 ·cases hl
theorem c8Q {s : Src} {e : Env} (hk : s.okc = true) (h : ∀ t ∈ s.tmps, Cl (Go.Abs.look e t)) : Cl (s.ev e) := by
 cases s with
 | t n => exact h n (by simp [Src.tmps])
 | c a => cases a <;> first | (simp [Src.okc] at hk; done) | exact .int _ _ | exact .bool _ | exact .nil
theorem f0s {op : BinOp} {a b v : AV} (h : binV op a b = some v) : Cl v := by
 unfold binV at h
 split at h
 ·split at h
  ·simp only [b0I] at h
   split at h
   ·cases h
   ·cases h; exact .int _ _
  ·simp only [b0I] at h
   split at h
   ·cases h
   ·cases h; exact .int _ _
  ·split at h
   ·unfold a4C at h
    split at h
    all_goals first | (cases h; done) | (cases h; first | exact .int _ _ | exact .bool _) | (split at h <;> first | (cases h; done) | (cases h; exact .int _ _))
   ·cases h
 ·split at h
  ·split at h
   ·cases h
   ·cases h; exact .str _
  ·cases h; exact .bool _
  ·cases h; exact .bool _
  ·cases h
 ·cases h
theorem f0k {wd : Nat} {xs : List AV} (h : Cl (.sl wd xs)) (i : Nat) : ∀ c ∈ (xs.getD i .top).cells, Cl c := by
 cases h with
 | sl _ _ h =>
  intro c hc
  rcases Nat.lt_or_ge i xs.length with hi | hi
  ·rw [List.getD_eq_getElem?_getD, List.getElem?_eq_getElem hi] at hc
   exact h c (List.mem_flatMap.2 ⟨_, List.getElem_mem hi, hc⟩)
  ·rw [List.getD_eq_getElem?_getD, List.getElem?_eq_none hi] at hc
   simp [AV.cells] at hc
   subst hc; exact .top
theorem f2t {x : AV} {off : Nat} (h : Cl (.ro x off)) : ∀ c ∈ x.cells, Cl c := by
 cases h with
 | ro _ _ h => exact h
theorem f2m {o : POp} (hq : o.clq = true) {e : Env} {H : Heap} {v : AV} (hr : ∀ t ∈ o.reads, Cl (Go.Abs.look e t)) (h : pv o e H = some v) : Cl v ∧ ∀ H', pv o e H' = some v := by
 cases o <;> first | (simp [POp.clq] at hq; done) | skip
 case mv a =>
  simp only [pv, Option.some.injEq] at h
  subst h
  exact ⟨c8Q hq hr, fun _ => rfl⟩
 case len a =>
  have ha := c8Q hq hr
  simp only [pv] at h ⊢
  generalize a.ev e = x at *
  cases ha <;> simp only [lenV] at h ⊢ <;> first | (cases h; done) | (cases h; exact ⟨.int _ _, fun _ => rfl⟩)
 case bin op a b => exact ⟨f0s h, fun _ => h⟩
 case idxp wd a i =>
  simp only [POp.clq, Bool.and_eq_true] at hq
  simp only [POp.reads, List.mem_append] at hr
  have ha := c8Q hq.1 fun t ht => hr t (.inl ht)
  have hi := c8Q hq.2 fun t ht => hr t (.inr ht)
  simp only [pv] at h ⊢
  generalize a.ev e = x at *
  generalize i.ev e = y at *
  cases y <;> simp only [idxV] at h ⊢ <;> first | (cases h; done) | skip
  cases x <;> simp only at h ⊢ <;> first | (cases h; done) | skip
  case sl =>
   refine ⟨?_, fun _ => h⟩
   split at h
   ·cases h; exact .ro _ _ (f0k ha _)
   ·cases h
  case mu => cases ha
 case load n a =>
  have ha := c8Q hq hr
  simp only [pv, a7p] at h ⊢
  generalize a.ev e = x at *
  cases x <;> simp only [atV] at h ⊢ <;> first | (cases h; done) | skip
  case loc => cases ha
  case ro y off =>
   refine ⟨?_, fun _ => h⟩
   have hc := f2t ha
   simp only [Option.bind_some] at h
   cases n with
   | none =>
    have := List.mem_of_getElem? h
    exact hc v (List.mem_of_mem_drop this)
   | some n =>
    simp only at h
    split at h
    ·cases h; exact .agg _ fun c hcm => hc c (List.mem_of_mem_drop (List.mem_of_mem_take hcm))
    ·cases h
 case slc wd x lo hi mx =>
  simp only [POp.clq, Bool.and_eq_true] at hq
  simp only [POp.reads, List.mem_append] at hr
  have hx := c8Q hq.1 fun t ht => hr t (.inl ht)
  simp only [pv] at h ⊢
  generalize x.ev e = x at *
  generalize lo.map (·.ev e) = lo at *
  generalize hi.map (·.ev e) = hi at *
  generalize mx.map (·.ev e) = mx at *
  cases x <;> simp only [slcV] at h ⊢ <;> first | (cases h; done) | skip
  case mu => cases hx
  case sl wd' xs =>
   refine ⟨?_, fun _ => h⟩
   have hsub : ∀ m n, Cl (.sl wd ((xs.drop m).take n)) := fun m n => by
    cases hx with
    | sl _ _ hx =>
     refine .sl _ _ fun c hc => ?_
     obtain ⟨a, ha, hca⟩ := List.mem_flatMap.1 hc
     exact hx c (List.mem_flatMap.2 ⟨a, List.mem_of_mem_drop (List.mem_of_mem_take ha), hca⟩)
   simp only [Option.bind_eq_some_iff] at h
   obtain ⟨l, _, r, _, h⟩ := h
   split at h
   ·split at h
    ·cases h; exact hsub _ _
    ·cases h
   ·split at h
    ·cases h; exact hsub _ _
    ·cases h
   ·cases h
theorem c4a {x : AIns} {sd : List (Nat × Nat)} (hq : clI sd x = true) {e : Env} {H : Heap} {e1 : Env} {H1 : Heap} (hG : ∀ t ∈ x.reads, Cl (Go.Abs.look e t)) (s : St P n0 x e H e1 H1) :
  H1 = H ∧ ∃ u, Cl u ∧ e1 = put x.dst u e ∧ ∀ e' H', (∀ t ∈ x.reads, Go.Abs.look e t = Go.Abs.look e' t) → St P n0 x e' H' (put x.dst u e') H' := by
 simp only [clI, Bool.and_eq_true] at hq
 obtain ⟨hq, hq2⟩ := hq
 clear hq2
 cases s with
 | skip hl => exact ⟨rfl, .tup [], .tup _ fun c hc => absurd hc (by simp), rfl, fun e' L h => .skip (by rw [← h _ (by simp [AIns.reads])]; exact hl)⟩
 | pure hg hp =>
  rename_i d g o v
  obtain ⟨h1, h2⟩ := f2m hq (fun t ht => hG t (by simp only [AIns.reads, List.mem_append]; exact .inr ht)) hp
  refine ⟨rfl, v, h1, rfl, fun e' H' h => .pure (a0Y hg fun t ht => h t (by simp only [AIns.reads, List.mem_append]; exact .inl ht)) ?_⟩
  rw [← c3M (fun t ht => h t (by simp only [AIns.reads, List.mem_append]; exact .inr ht))]
  exact h2 H'
 | bsl hg hp => simp at hq
 | call hg hp => simp at hq
 | callv hg hf hp => simp at hq
 | gcall hg hp => simp at hq
 | gcallv hg hf hp => simp at hq
 | eff hg hp hn => simp at hq
theorem c7I {x : AIns} {sd : List (Nat × Nat)} (hq : clI sd x = true) {e : Env} (hG : sdOk sd e) : ∀ t ∈ x.reads, Cl (Go.Abs.look e t) := fun t ht => by
 simp only [clI, Bool.and_eq_true, List.all_eq_true] at hq
 exact e8L hG (hq.2 t ht)
theorem a5j {id : Nat} {e : Env} {t : Nat} (h : Cl (Go.Abs.look e t)) : Go.Abs.look (scrub id e) t = Go.Abs.look e t := by
 rw [a1E, if_pos (a0j.2 h.ref)]
theorem c3w {x y : AIns} (hT : a8f x y = true) : (∀ v e, ∀ t ∈ y.reads, Go.Abs.look (put x.dst v e) t = Go.Abs.look e t) ∧ (∀ v e, ∀ t ∈ x.reads, Go.Abs.look e t = Go.Abs.look (put y.dst v e) t) ∧ (∀ d, y.dst = some d → x.dst ≠ some d) := by
 simp only [a8f, Bool.and_eq_true] at hT
 obtain ⟨hT1, hT2⟩ := hT
 refine ⟨fun v e t ht => ?_, fun v e => a1Y hT2, fun d h1 h2 => ?_⟩
 ·refine (a1Y (rs := y.reads) (d := x.dst) ?_ t ht).symm
  cases hd : x.dst <;> simp only [hd] at hT1 ⊢
  simp only [Bool.and_eq_true] at hT1
  exact hT1.1
 ·simp only [h2, Bool.and_eq_true] at hT1
  rw [h1] at hT1
  simp at hT1
theorem d9P {x y : AIns} {sd : List (Nat × Nat)} (hT : a8f x y = true) (q1 : x.op.isApp = true) (q2 : clI sd y = true) : SwG P n0 (sdOk sd) x y := by
 intro e H e1 H1 e2 H2 hG s t
 obtain ⟨hx, hy, hd⟩ := c3w hT
 have hcl := c7I q2 hG
 obtain ⟨v, ⟨rfl, f⟩ | ⟨id, rfl, f⟩⟩ := c4e s q1
 ·obtain ⟨rfl, u, hu, rfl, g⟩ := c4a q2 (fun t ht => by rw [hx v e t ht]; exact hcl t ht) t
  exact ⟨_, H, _, g e H (hx v e), f (put y.dst u e) (hy u e), b1h hd⟩
 ·obtain ⟨rfl, u, hu, rfl, g⟩ := c4a q2 (fun t ht => by rw [hx v _ t ht, a5j (hcl t ht)]; exact hcl t ht) t
  refine ⟨_, H, _, g e H (fun t ht => by rw [hx v _ t ht, a5j (hcl t ht)]), f (put y.dst u e) (hy u e), fun t => ?_⟩
  simp only [a0W, a1E]
  by_cases h1 : y.dst = some t
  ·rw [if_pos h1, if_neg (hd t h1), if_pos h1, if_pos (a0j.2 hu.ref)]
  ·rw [if_neg h1, if_neg h1]
theorem d9O {x y : AIns} {sd : List (Nat × Nat)} (hT : a8f x y = true) (q1 : clI sd x = true) (q2 : y.op.isApp = true) : SwG P n0 (sdOk sd) x y := by
 intro e H e1 H1 e2 H2 hG s t
 obtain ⟨hx, hy, hd⟩ := c3w hT
 have hcl := c7I q1 hG
 obtain ⟨rfl, u, hu, rfl, f⟩ := c4a q1 hcl s
 obtain ⟨v, ⟨rfl, g⟩ | ⟨id, rfl, g⟩⟩ := c4e t q2
 ·exact ⟨_, H2, _, g e (hx u e), f (put y.dst v e) H2 (hy v e), b1h hd⟩
 ·refine ⟨_, H2, _, g e (hx u e), f (put y.dst v (scrub id e)) H2 (fun t ht => by rw [← hy v (scrub id e) t ht, a5j (hcl t ht)]), fun t => ?_⟩
  simp only [a0W, a1E]
  by_cases h1 : y.dst = some t
  ·rw [if_pos h1, if_neg (hd t h1), if_pos h1]
  ·rw [if_neg h1, if_neg h1]
   by_cases h2 : x.dst = some t
   ·rw [if_pos h2, if_pos h2, if_pos (a0j.2 hu.ref)]
   ·rw [if_neg h2, if_neg h2]
theorem Sts.append {A B : List AIns} {e : Env} {H : Heap} {e1 : Env} {H1 : Heap} {e2 : Env} {H2 : Heap} (h : Sts P n0 A e H e1 H1) (k : Sts P n0 B e1 H1 e2 H2) : Sts P n0 (A ++ B) e H e2 H2 := by
 induction h with
 | nil => exact k
 | cons h t ih => exact .cons h (ih k)
theorem b5R {m k i : Nat} {sd : List (Nat × Nat)} {y : AIns} : ∀ {b : Nat} {pre : List AIns}, d0R m k i sd y b pre = true → ∀ a x, pre[a]? = some x → okX m sd (b + a) x y = true ∨ (b + a = k ∧ i = k + 1)
 | _, [], _, a, x, hx => by simp at hx
 | b, p :: pre, h, a, x, hx => by
  simp only [d0R, Bool.and_eq_true, Bool.or_eq_true, beq_iff_eq] at h
  cases a with
  | zero => simp at hx; subst hx; exact h.1
  | succ a =>
   rw [show b + (a + 1) = (b + 1) + a by omega]
   exact b5R h.2 a x (by simpa using hx)
theorem b5S {T : List Nat} {k : Nat} {sd : List (Nat × Nat)} : ∀ {l pre : List AIns}, c4x T k sd pre.length pre l = true → ∀ i a x y, pre.length ≤ i → a < i → (pre ++ l)[a]? = some x → (pre ++ l)[i]? = some y → okX (T.getD i 0) sd a x y = true ∨ (a = k ∧ i = k + 1)
 | [], pre, h, i, a, x, y, h0, h1, h2, h3 => by
  have := a0h h3
  simp at this; omega
 | z :: l, pre, h, i, a, x, y, h0, h1, h2, h3 => by
  simp only [c4x, Bool.and_eq_true] at h
  rcases Nat.lt_or_eq_of_le h0 with hlt | heq
  ·have h' : c4x T k sd (pre ++ [z]).length (pre ++ [z]) l = true := by simpa using h.2
   exact b5S h' i a x y (by simp; omega) h1 (by simpa using h2) (by simpa using h3)
  ·subst heq
   simp at h3
   subst h3
   rw [List.getElem?_append_left h1] at h2
   have := b5R h.1 a x h2
   simpa using this
theorem e5M {m : Nat} {sd : List (Nat × Nat)} {a : Nat} {x y : AIns} (h : okX m sd a x y = true) : m.testBit a = true ∨ SwG P n0 (sdOk sd) x y := by
 simp only [okX, Bool.or_eq_true, Bool.and_eq_true] at h
 rcases h with h | ⟨h1, h2 | h2 | ⟨h2, h3⟩ | ⟨h2, h3⟩⟩
 ·exact .inl h
 ·exact .inr fun _ s t => St.swap h1 h2 s t
 ·split at h2
  ·rename_i p hp
   obtain ⟨a, b⟩ := p
   simp only [Bool.and_eq_true, bne_iff_ne, ne_eq] at h2
   refine .inr fun hg s t => e2a h1 hp ?_ s t
   have := c3L hg (a, b) (by simpa using h2.2)
   unfold sdP at this
   rwa [if_neg h2.1] at this
  ·cases h2
 ·exact .inr (d9P h1 h2 h3)
 ·exact .inr (d9O h1 h2 h3)
theorem e2t : ∀ {sd : List (Nat × Nat)} {e : Env}, (∀ p ∈ sd, sdP e p) → sdOk sd e
 | [], _, _ => trivial
 | q :: r, e, h => ⟨h q (by simp), e2t fun p hp => h p (by simp [hp])⟩
theorem St.look_cl {x : AIns} {e : Env} {H : Heap} {e1 : Env} {H1 : Heap} (s : St P n0 x e H e1 H1) {t : Nat} (ht : x.dst ≠ some t) (hc : Cl (Go.Abs.look e t)) : Cl (Go.Abs.look e1 t) := by
 cases ha : x.op.isApp with
 | false => rw [s.look ha ht]; exact hc
 | true =>
  obtain ⟨v, ⟨rfl, _⟩ | ⟨id, rfl, _⟩⟩ := c4e s ha
  ·rw [a0W, if_neg ht]; exact hc
  ·rw [a0W, if_neg ht, a5j hc]; exact hc
theorem f0P {sd : List (Nat × Nat)} {l : List AIns} (h2 : (sd.all fun p => if p.1 = p.2 then l.all fun x => x.dst != some p.1 || clI sd x else (l.all fun x => !x.op.isApp) && l.all fun x => x.dst != some p.1 && x.dst != some p.2) = true) : ∀ x ∈ l, d8p P n0 (sdOk sd) x := by
 intro x hx e H e1 H1 hg s
 rw [List.all_eq_true] at h2
 refine e2t fun p hp => ?_
 have h3 := h2 p hp
 have hgp := c3L hg p hp
 unfold sdP at hgp ⊢
 by_cases hpp : p.1 = p.2
 ·rw [if_pos hpp] at h3 hgp ⊢
  rw [List.all_eq_true] at h3
  have h4 := h3 x hx
  simp only [Bool.or_eq_true, bne_iff_ne, ne_eq] at h4
  by_cases hd : x.dst = some p.1
  ·rcases h4 with h4 | h4
   ·exact absurd hd h4
   ·obtain ⟨_, u, hu, rfl, _⟩ := c4a h4 (c7I h4 hg) s
    rw [a0W, if_pos hd]; exact hu
  ·exact s.look_cl hd hgp
 ·rw [if_neg hpp] at h3 hgp ⊢
  simp only [Bool.and_eq_true, List.all_eq_true] at h3
  have ha : x.op.isApp = false := by simpa using h3.1 x hx
  have h4 := h3.2 x hx
  simp only [Bool.and_eq_true, bne_iff_ne, ne_eq] at h4
  rw [s.look ha h4.1, s.look ha h4.2]
  exact hgp
end
section
variable {P : Program} {nt : Nat}
theorem a3S {l : List AIns} (k n : Nat) (h : k + n = l.length) : ((List.range' k n).filterMap (l[·]?)) = l.drop k := by
 induction n generalizing k with
 | zero => simp [List.drop_eq_nil_of_le (show l.length ≤ k by omega)]
 | succ n ih =>
  rw [List.range'_succ, List.filterMap_cons, List.getElem?_eq_getElem (show k < l.length by omega)]
  simp only
  rw [ih (k + 1) (by omega), List.drop_eq_getElem_cons (show k < l.length by omega)]
theorem d9c {α β : Type} {f g : α → Option β} : ∀ {l : List α}, (∀ a ∈ l, f a = g a) → l.filterMap f = l.filterMap g
 | [], _ => rfl
 | x :: l, h => by rw [List.filterMap_cons, List.filterMap_cons, h x (by simp), d9c fun a ha => h a (by simp [ha])]
theorem d9F {mu : Nat → Nat → Bool} {rid : Nat} {ops : Array Oper} {l : List AIns} (hl : a2C P mu nt rid ops 0 ops.toList = some l) (hback : b4K 0 ops.toList = true) {n0 : Nat} {G : Env → Prop} (hGk : ∀ x ∈ l, d8p P n0 G x)
  {Q : Exit → Act → World → Prop} {E0 : Emb} {ef1 ef2 : Env} {Hf1 Hf2 : Heap} (hQ1 : ∀ a w, Kc n0 nt E0 (fun e' H' => a2q ef1 e' ∧ H' = Hf1) a w → Q .normal a w) (hQ2 : ∀ a w, Kc n0 nt E0 (fun e' H' => a2q ef2 e' ∧ H' = Hf2) a w → Q .normal a w)
  {k : Nat} (hk : k + 1 < l.length) (hpair : ∀ i a x y, a < i → l[a]? = some x → l[i]? = some y → (((a8s ops.toList []).getD i 0).testBit a = true ∨ SwG P n0 G x y) ∨ (a = k ∧ i = k + 1))
  (htw : ∀ j, k + 2 ≤ j → j < l.length → ((a8s ops.toList []).getD j 0).testBit k = true ∨ ((a8s ops.toList []).getD j 0).testBit (k + 1) = true) :
  ∀ (fuel : Nat) (rem : List Nat) (listed : Array Bool), listed.size = ops.size → rem.Pairwise (· < ·) → (∀ i, i ∈ rem ↔ i < k ∧ listed.getD i true = false) → (∀ j, k ≤ j → j < l.length → listed.getD j true = false) → rem.length + (l.length - k) ≤ fuel →
   d0I ops.toList (fun j => listed.getD j false = true) →
   ∀ (E : Emb) (env : Env) (tmps : Array Value) (es : Env) (Hs : Heap) (ef1' ef2' : Env), tmps.size = nt → HOk E → a0B E env tmps → n0 ≤ E.H.length → Ext (· < n0) E0 E → a2q ef1 ef1' → a2q ef2 ef2' → G env →
    Sts P n0 (rem.filterMap (l[·]?)) env E.H es Hs → Sts P n0 (l.drop k) es Hs ef1' Hf1 → Sts P n0 (d9J (l.drop k)) es Hs ef2' Hf2 → wpAny P .any ops Q fuel listed ⟨tmps, []⟩ E.w := by
 obtain ⟨hlen, hget⟩ := a6j _ _ _ hl
 have hlen' : l.length = ops.size := by simpa using hlen
 intro fuel
 induction fuel with
 | zero => intro rem listed hsz hp hm hm2 hf; omega
 | succ fuel ih =>
  intro rem listed hsz hp hm hm2 hf hcl E env tmps es Hs ef1' ef2' h1 h2 h3 h4 h5 h6 h6' hg hA hB hC
  have hkl : listed.getD k true = false := hm2 k (Nat.le_refl _) (by omega)
  have hkl1 : listed.getD (k + 1) true = false := hm2 (k + 1) (by omega) hk
  have unl : ∀ j, j < l.length → listed.getD j true = false → ¬ listed.getD j false = true := by
   intro j hj hu
   have : j < listed.size := by omega
   simp [this] at hu ⊢
   exact hu
  refine ⟨fun hr => ?_, fun i hi => ?_⟩
  ·-- something is ready
   exfalso
   have hall : ∀ m, m ≤ k → (∀ j, j < m → listed.getD j false = true) → (∃ i, i ∈ Region.ready .any ops listed) ∨ ∀ j, j < m → listed.getD j false = true := fun m _ h => .inr h
   have least : ∃ i, i < l.length ∧ listed.getD i true = false ∧ ∀ j, j < i → ¬ listed.getD j true = false := by
    have ex : ∃ i, i < l.length ∧ listed.getD i true = false := ⟨k, by omega, hkl⟩
    obtain ⟨n, hn1, hn2⟩ := ex
    induction n using Nat.strongRecOn with
    | _ n ihn =>
     by_cases hc : ∃ j, j < n ∧ listed.getD j true = false
     ·obtain ⟨j, hj1, hj2⟩ := hc
      exact ihn j hj1 (by omega) hj2
     ·exact ⟨n, hn1, hn2, fun j hj hh => hc ⟨j, hj, hh⟩⟩
   obtain ⟨i, hi1, hi2, hi3⟩ := least
   have : i ∈ Region.ready .any ops listed := by
    rw [mem_ready]
    refine ⟨hi2, ops[i]'(by omega), by simp [show i < ops.size by omega], fun e he hb => ?_⟩
    have hlt2 := a6N hback i (ops[i]'(by omega)) (by simp [show i < ops.size by omega]) e he hb
    have hno := hi3 e.on (by omega)
    have hlt3 : e.on < listed.size := by omega
    simp [hlt3] at hno ⊢
    exact hno
   rw [hr] at this
   cases this
  ·obtain ⟨hun, o, ho, hedges⟩ := mem_ready.1 hi
   obtain ⟨x, hx, hcx⟩ := hget i o (by simpa using ho)
   have hil : i < l.length := a0h hx
   have hilt : i < listed.size := by omega
   -- the new state's facts
   have hcl' : d0I ops.toList (fun j => (listed.setIfInBounds i true).getD j false = true) := by
    intro j oj hj hoj e he hb
    by_cases hji : j = i
    ·subst hji
     have : oj = o := by
      have h' : ops.toList[j]? = some o := by simpa using ho
      rw [h'] at hoj; cases hoj; rfl
     subst this
     exact getD_set_true (hedges e he hb)
    ·rw [getD_set_ne false (Ne.symm hji)] at hj
     exact getD_set_true (hcl j oj hj hoj e he hb)
   have bitNo : ∀ a, a < l.length → listed.getD a true = false → ((a8s ops.toList []).getD i 0).testBit a = true → False := by
    intro a ha hau hb
    have hT : ∃ m, (a8s ops.toList [])[i]? = some m ∧ m.testBit a = true := by
     cases hq : (a8s ops.toList [])[i]? with
     | none => simp [List.getD_eq_getElem?_getD, hq] at hb
     | some m => exact ⟨m, rfl, by simpa [List.getD_eq_getElem?_getD, hq] using hb⟩
    obtain ⟨m, hm1, hm2⟩ := hT
    have := b4P (S := fun j => listed.getD j false = true) hcl ops.toList [] [] rfl rfl (by simp) i m o hm1 (by simpa using ho) hedges a hm2
    exact unl a ha hau this
   have swp : ∀ a z, a < i → a < l.length → listed.getD a true = false → ¬ (a = k ∧ i = k + 1) → l[a]? = some z → SwG P n0 G z x ∧ d8p P n0 G z := by
    intro a z hai hal hau hne hz
    refine ⟨?_, hGk z (List.mem_of_getElem? hz)⟩
    rcases hpair i a z x hai hz hx with (hb | hb) | hb
    ·exact (bitNo a hal hau hb).elim
    ·exact hb
    ·exact (hne hb).elim
   have remlt : ∀ a ∈ rem, a < k ∧ listed.getD a true = false := fun a ha => (hm a).1 ha
   rcases Nat.lt_or_ge i k with hik | hik
   ·-- ahead of the two
    have himem := (hm i).2 ⟨hik, hun⟩
    obtain ⟨A, B, rfl⟩ := List.append_of_mem himem
    have hAlt : ∀ a ∈ A, a < i := fun a ha => (List.pairwise_append.1 hp).2.2 a ha i (by simp)
    simp only [List.filterMap_append, List.filterMap_cons, hx] at hA
    obtain ⟨e1, H1, es', q1, q2, q3⟩ := Sts.bubble _ hg (fun z hz => by
     obtain ⟨a, ha, hza⟩ := List.mem_filterMap.1 hz
     exact swp a z (hAlt a ha) (by have := hAlt a ha; omega) (remlt a (by simp [ha])).2 (by omega) hza) hA
    refine St.wpOp ho hcx h1 h2 h3 h4 q1 ?_
    rintro a w' ⟨φ, env', H', ⟨rfl, rfl⟩, r1, r2, r3, r4, r5, r6⟩
    have ha : a = ⟨a.tmps, []⟩ := by cases a; simp at r3; simp [r3]
    rw [ha]
    have hpAB : (A ++ B).Pairwise (· < ·) := by
     rw [List.pairwise_append] at hp ⊢
     exact ⟨hp.1, (List.pairwise_cons.1 hp.2.1).2, fun a ha b hb => hp.2.2 a ha b (by simp [hb])⟩
    have hiB : ∀ b ∈ B, i < b := (List.pairwise_cons.1 (List.pairwise_append.1 hp).2.1).1
    obtain ⟨f1, u1, u2⟩ := hB.eqv q3
    obtain ⟨f2, v1, v2⟩ := hC.eqv q3
    refine ih (A ++ B) (listed.setIfInBounds i true) (by simp [hsz]) hpAB ?_ ?_ (by simp at hf ⊢; omega) hcl' ⟨φ, H', w'⟩ env' a.tmps es' Hs f1 f2 r4 r1 r2 r5 (h5.trans r6) (h6.trans u2) (h6'.trans v2) (hGk x (List.mem_of_getElem? hx) hg q1) (by simpa [List.filterMap_append] using q2) u1 v1
    ·intro j
     by_cases hj : j = i
     ·subst hj
      constructor
      ·intro hmem
       exfalso
       rcases List.mem_append.1 hmem with h | h
       ·exact Nat.lt_irrefl _ (hAlt _ h)
       ·exact Nat.lt_irrefl _ (hiB _ h)
      ·intro h; simp [hilt] at h
     ·rw [getD_set_ne true (Ne.symm hj), ← hm j]
      simp [hj]
    ·intro j hj1 hj2
     rw [getD_set_ne true (by omega)]
     exact hm2 j hj1 hj2
   ·-- one of the two
    have hi2 : i = k ∨ i = k + 1 := by
     rcases Nat.lt_or_ge i (k + 2) with h | h
     ·omega
     ·exfalso
      rcases htw i h hil with hb | hb
      ·exact bitNo k (by omega) hkl hb
      ·exact bitNo (k + 1) hk hkl1 hb
    have hd0 : l.drop k = l[k] :: l[k + 1] :: l.drop (k + 2) := by
     rw [List.drop_eq_getElem_cons (show k < l.length by omega), List.drop_eq_getElem_cons hk]
    have hpr : ∀ (A B : List Nat), (∀ a ∈ A, a < k) → A.Pairwise (· < ·) → (∀ b ∈ B, k ≤ b) → B.Pairwise (· < ·) → (A ++ B).Pairwise (· < ·) := fun A B h1 h2 h3 h4 =>
     List.pairwise_append.2 ⟨h2, h4, fun a ha b hb => by have := h1 a ha; have := h3 b hb; omega⟩
    have fin : ∀ (rest : List Nat) (ef : Env) (Hf : Heap) (ef' : Env) (hQ : ∀ a w, Kc n0 nt E0 (fun e' H' => a2q ef e' ∧ H' = Hf) a w → Q .normal a w) (hre : a2q ef ef'), rest.Pairwise (· < ·) → (∀ j, j ∈ rest ↔ k ≤ j ∧ j < l.length ∧ j ≠ i) → rest.length + 1 = l.length - k → (¬ (k ∈ rest ∧ k + 1 ∈ rest)) →
      Sts P n0 (x :: rest.filterMap (l[·]?)) es Hs ef' Hf → Go.wpOp P ops Q i (fun a' w' => wpAny P .any ops Q fuel (listed.setIfInBounds i true) a' w') ⟨tmps, []⟩ E.w := by
     intro rest ef Hf ef' hQ hre hrp hrm hrl hrt hrs
     have hS := Sts.append hA hrs
     obtain ⟨e1, H1, ef2, q1, q2, q3⟩ := Sts.bubble _ hg (fun z hz => by
      obtain ⟨a, ha, hza⟩ := List.mem_filterMap.1 hz
      have := remlt a ha
      exact swp a z (by omega) (by omega) this.2 (by omega) hza) hS
     refine St.wpOp ho hcx h1 h2 h3 h4 q1 ?_
     rintro a w' ⟨φ, env', H', ⟨rfl, rfl⟩, r1, r2, r3, r4, r5, r6⟩
     have ha : a = ⟨a.tmps, []⟩ := by cases a; simp at r3; simp [r3]
     rw [ha]
     refine d0S hl hback hGk hQ fuel (rem ++ rest) (listed.setIfInBounds i true) (by simp [hsz]) (hpr _ _ (fun a ha => (remlt a ha).1) hp (fun b hb => ((hrm b).1 hb).1) hrp) ?_ (by simp; omega) hcl' ?_ ⟨φ, H', w'⟩ env' a.tmps ef2 r4 r1 r2 r5 (h5.trans r6) (hre.trans q3) (hGk x (List.mem_of_getElem? hx) hg q1) (by simpa [List.filterMap_append] using q2)
     ·intro j
      rw [List.mem_append, hm, hrm]
      by_cases hj : j = i
      ·subst hj
       simp [hilt]; omega
      ·rw [getD_set_ne true (Ne.symm hj)]
       constructor
       ·rintro (h | h)
        ·exact h.2
        ·exact hm2 j h.1 h.2.1
       ·intro h
        rcases Nat.lt_or_ge j k with hjk | hjk
        ·exact .inl ⟨hjk, h⟩
        ·refine .inr ⟨hjk, ?_, hj⟩
         rcases Nat.lt_or_ge j listed.size with h' | h'
         ·omega
         ·simp [Array.getElem?_eq_none h'] at h
     ·intro i' a' x' y' ha' hi' hai hx' hy'
      rcases hpair i' a' x' y' hai hx' hy' with h | ⟨h1, h2⟩
      ·exact h
      ·exfalso
       refine hrt ⟨?_, ?_⟩
       ·rcases List.mem_append.1 ha' with h | h
        ·have := (remlt _ h).1; omega
        ·rw [h1] at h; exact h
       ·rcases List.mem_append.1 hi' with h | h
        ·have := (remlt _ h).1; omega
        ·rw [h2] at h; exact h
    have hfd : (List.range' (k + 2) (l.length - (k + 2))).filterMap (l[·]?) = l.drop (k + 2) := a3S _ _ (by omega)
    rcases hi2 with rfl | rfl
    ·refine fin (List.range' (i + 1) (l.length - (i + 1))) ef1 Hf1 ef1' hQ1 h6 (List.pairwise_lt_range') (fun j => by rw [List.mem_range'_1]; omega) (by simp; omega) (by rw [List.mem_range'_1]; omega) ?_
     rw [a3S _ _ (by omega)]
     have e1 : l[i] = x := by rw [List.getElem?_eq_getElem hil] at hx; exact Option.some.inj hx
     rw [← e1, ← List.drop_eq_getElem_cons hil]
     exact hB
    ·refine fin (k :: List.range' (k + 2) (l.length - (k + 2))) ef2 Hf2 ef2' hQ2 h6' ?_ (fun j => by rw [List.mem_cons, List.mem_range'_1]; omega) (by simp; omega) (by rw [List.mem_cons, List.mem_cons, List.mem_range'_1, List.mem_range'_1]; omega) ?_
     ·refine List.pairwise_cons.2 ⟨fun b hb => ?_, List.pairwise_lt_range'⟩
      rw [List.mem_range'_1] at hb; omega
     ·rw [List.filterMap_cons, List.getElem?_eq_getElem (show k < l.length by omega)]
      simp only
      rw [hfd]
      have e1 : l[k + 1] = x := by rw [List.getElem?_eq_getElem hil] at hx; exact Option.some.inj hx
      rw [hd0] at hC
      simp only [d9J] at hC
      rw [← e1]
      exact hC
end
theorem Safe.regionX {x : Cx} {todo : List AItem} {env : Env} {H : Heap} {R : AV → Heap → Prop} {p s1 s2 : List AIns} {sd : List (Nat × Nat)} (hs : sdOk sd env)
  (h : dops x.P x.n0 p (fun env' H' => dops x.P x.n0 s1 (fun env' H' => Safe x todo env' H' R) env' H' ∧ dops x.P x.n0 s2 (fun env' H' => Safe x todo env' H' R) env' H') env H) : Safe x (.code (.regionX p s1 s2 sd) :: todo) env H R := by
 intro φ w tmps b k cs hg hn hb hk ht hsz hok he
 obtain ⟨i, k', rfl, h1, h2⟩ := a1e ht
 obtain ⟨c, rfl, h1⟩ := a1A h1
 obtain ⟨id, ops, l, kk, rfl, g1, g2, rfl, rfl, rfl⟩ := d7I h1
 simp only [xchk, Bool.and_eq_true, Bool.or_eq_true] at g2
 obtain ⟨hmix, hback, hall, htw, hds⟩ := g2
 obtain ⟨es, Hs, s0, s1, s2⟩ := a6M h
 obtain ⟨ef1, Hf1, t1, k1⟩ := a6M s1
 obtain ⟨ef2, Hf2, t2, k2⟩ := a6M s2
 have hx0 := a9A (· < x.n0) φ H w (w.drawn + 1)
 have hxA := a9A All φ H w (w.drawn + 1)
 have hlen : l.length = ops.size := by simpa using (a6j _ _ _ g1).1
 have hGk : ∀ y ∈ l, d8p x.P x.n0 (sdOk sd) y := f0P hds
 have hall' := b5S (pre := []) hall
 have hpair : ∀ i a y z, a < i → l[a]? = some y → l[i]? = some z → (((a8s ops.toList []).getD i 0).testBit a = true ∨ SwG x.P x.n0 (sdOk sd) y z) ∨ (a = kk ∧ i = kk + 1) := by
  intro i a y z hai hy hz
  rcases hall' i a y z (by simp) hai (by simpa using hy) (by simpa using hz) with h | h
  ·exact .inl (e5M h)
  ·exact .inr h
 have empC : d0I ops.toList (fun j => (Array.replicate ops.size false).getD j false = true) := by
  intro j o hj
  exfalso
  rcases Nat.lt_or_ge j ops.size with h' | h'
  ·simp [h'] at hj
  ·simp [Array.getElem?_eq_none (show (Array.replicate ops.size false).size ≤ j by simpa using h')] at hj
 have hw : wpAny x.P .any ops (fun e a w' => e = .normal ∧ (Kc x.n0 x.nt ⟨φ, H, { w with drawn := w.drawn + 1 }⟩ (fun env' H' => Safe x todo env' H' R) a w')) ops.size (Array.replicate ops.size false) ⟨tmps, []⟩ { w with drawn := w.drawn + 1 } := by
  have toQ : ∀ (ef : Env) (Hf : Heap), Safe x todo ef Hf R → ∀ a w', Kc x.n0 x.nt ⟨φ, H, { w with drawn := w.drawn + 1 }⟩ (fun e' H' => a2q ef e' ∧ H' = Hf) a w' → Exit.normal = Exit.normal ∧ (Kc x.n0 x.nt ⟨φ, H, { w with drawn := w.drawn + 1 }⟩ (fun env' H' => Safe x todo env' H' R) a w') := by
   rintro ef Hf hsafe a w' ⟨φ1, env1, H1, ⟨sq, rfl⟩, q⟩
   refine ⟨rfl, φ1, env1, H1, ?_, q⟩
   intro φ2 w2 tmps2 b2 k2 cs2 hg2 hn2 hb2 hk2 ht2 hsz2 hok2 he2
   exact hsafe φ2 w2 tmps2 b2 k2 cs2 hg2 hn2 hb2 hk2 ht2 hsz2 hok2 (c8U he2 sq.symm)
  rcases Nat.lt_or_ge (kk + 1) l.length with hkl | hkl
  ·refine d9F (P := x.P) (nt := x.nt) g1 hback hGk (toQ ef1 Hf1 k1) (toQ ef2 Hf2 k2) hkl hpair ?_ ops.size (List.range kk) (Array.replicate ops.size false) (by simp) List.pairwise_lt_range ?_ ?_ (by simp; omega) empC
    ⟨φ, H, { w with drawn := w.drawn + 1 }⟩ env tmps es Hs ef1 ef2 hsz (c3R hok) (he.mono (hxA.sub fun _ _ => trivial)) hn (Ext.refl _ _) (.refl _) (.refl _) hs ?_ t1 t2
   ·intro j h1 h2
    simp only [f0T, List.all_eq_true, List.mem_range, Bool.or_eq_true, decide_eq_true_eq] at htw
    rcases htw j (by simpa [hlen] using h2) with (h | h) | h
    ·omega
    ·exact .inl h
    ·exact .inr h
   ·intro i
    rw [List.mem_range]
    constructor
    ·intro hi; exact ⟨hi, by simp [show i < ops.size by omega]⟩
    ·exact fun h => h.1
   ·intro j _ hj; simp [show j < ops.size by omega]
   ·have : (List.range kk).filterMap (l[·]?) = l.take kk := by
     rw [List.range_eq_range']
     have e : l.take kk = (l.take kk).drop 0 := rfl
     rw [e, ← a3S (l := l.take kk) 0 kk (by simp; omega)]
     refine d9c fun a ha => ?_
     rw [List.mem_range'_1] at ha
     rw [List.getElem?_take, if_pos (by omega)]
    rw [this]; exact s0
  ·refine d0S (P := x.P) (nt := x.nt) g1 hback hGk (toQ ef1 Hf1 k1) ops.size (List.range ops.size) (Array.replicate ops.size false) (by simp) List.pairwise_lt_range ?_ (by simp) empC ?_
    ⟨φ, H, { w with drawn := w.drawn + 1 }⟩ env tmps ef1 hsz (c3R hok) (he.mono (hxA.sub fun _ _ => trivial)) hn (Ext.refl _ _) (.refl _) hs ?_
   ·intro i
    rw [List.mem_range]
    constructor
    ·intro hi; simp [hi]
    ·intro hi
     rcases Nat.lt_or_ge i ops.size with h' | h'
     ·exact h'
     ·simp [Array.getElem?_eq_none (show (Array.replicate ops.size false).size ≤ i by simpa using h')] at hi
   ·intro i a y z _ _ hai hy hz
    rcases hpair i a y z hai hy hz with h | h
    ·exact h
    ·have := a0h hz
     omega
   ·have := a3S (l := l) 0 ops.size (by omega)
    rw [← List.range_eq_range'] at this
    rw [this, List.drop_zero]
    have := Sts.append s0 t1
    rwa [List.take_append_drop] at this
 obtain ⟨e, a', w', ⟨rfl, φ1, env1, H1, s2, s3, s4, s5, s6, s7, s8⟩, harr⟩ := wp_region_any hmix hw b k' cs
 have ha : a' = ⟨a'.tmps, []⟩ := by cases a'; simp at s5; simp [s5]
 rw [ha] at harr
 obtain ⟨v, w2, fr, r, φ', H', q1, q2, q3, q4, q5, q6, q7⟩ := s2 φ1 w' a'.tmps b k' cs hg s7 hb hk h2 s6 s3 s4
 exact ⟨v, w2, fr, r, φ', H', q1, q2, q3, q4, hx0.trans (s8.trans q5), Steps.trans harr q6, q7⟩
end Go.Abs
namespace Go.Abs
def frz (id : Nat) (b : Blk) : AV → AV
 | .mu i off len oc => if i = id then (if off + len ≤ b.xs.length then .sl b.wd ((b.xs.drop off).take len) else .top) else .mu i off len oc
 | .loc i k off => if i = id then (if k < b.xs.length then .ro (b.xs.getD k .top) off else .top) else .loc i k off
 | .agg cs => .agg (cs.map (frz id b))
 | .tup cs => .tup (cs.map (frz id b))
 | .fn f cs => .fn f (cs.map (frz id b))
 | .bfn f cs => .bfn f (cs.map (frz id b))
 | .top => .top
 | .int k n => .int k n
 | .bool b => .bool b
 | .str s => .str s
 | .nil => .nil
 | .lit v => .lit v
 | .sl wd xs => .sl wd xs
 | .ro x off => .ro x off
 | .mp k i => if i = id then .top else .mp k i
 | .mo l => .mo l
 | .io i n seen => .io i n seen
section
variable {id : Nat} {b : Blk}
theorem a2o {a : AV} (h : Ref (· ≠ id) a) : frz id b a = a := by
 induction h with
 | top => simp only [frz]
 | int k n => simp only [frz]
 | bool b => simp only [frz]
 | str s => simp only [frz]
 | nil => simp only [frz]
 | lit v => simp only [frz]
 | sl wd xs => simp only [frz]
 | ro x off => simp only [frz]
 | mu i off len oc h => simp only [frz]; rw [if_neg h]
 | loc i k off h => simp only [frz]; rw [if_neg h]
 | mp k i h => simp only [frz]; rw [if_neg h]
 | mo l => simp only [frz]
 | io i n seen => simp only [frz]
 | agg cs h ih => simp only [frz]; rw [List.map_congr_left (g := fun x => x) ih]; simp
 | tup cs h ih => simp only [frz]; rw [List.map_congr_left (g := fun x => x) ih]; simp
 | fn f cs h ih => simp only [frz]; rw [List.map_congr_left (g := fun x => x) ih]; simp
 | bfn f cs h ih => simp only [frz]; rw [List.map_congr_left (g := fun x => x) ih]; simp
theorem a3v {a : AV} (h : Cl a) : frz id b a = a := a2o h.ref
theorem d5y (a : AV) : (frz id b a).cells = a.cells.map (frz id b) := by
 cases a
 case mu i off len oc =>
  simp only [frz, d9j, List.map_cons, List.map_nil]
  by_cases h : i = id
  ·simp only [h, if_true]; split <;> rfl
  ·simp only [h, if_false]; rfl
 case loc i k off =>
  simp only [frz, d5Q, List.map_cons, List.map_nil]
  by_cases h : i = id
  ·simp only [h, if_true]; split <;> rfl
  ·simp only [h, if_false]; rfl
 case mp k i =>
  simp only [frz]
  by_cases h : i = id
  ·simp only [h, if_true]; simp [AV.cells, frz]
  ·simp only [h, if_false]; simp [AV.cells, frz, h]
 all_goals simp only [frz, AV.cells, List.map_cons, List.map_nil]
end
def frzB (id : Nat) (b : Blk) (x : Blk) : Blk := ⟨x.wd, x.xs.map (frz id b)⟩
def frzH (id : Nat) (b : Blk) (H : Heap) : Heap := (H.map (Option.map (frzB id b))).set id none
def frzE (id : Nat) (b : Blk) (env : Env) : Env := env.map fun p => (p.1, frz id b p.2)
theorem c6S (id : Nat) (b x : Blk) : (frzB id b x).flat = x.flat.map (frz id b) := by
 obtain ⟨wd, xs⟩ := x
 simp only [frzB, Blk.flat]
 induction xs with
 | nil => rfl
 | cons x xs ih => simp only [List.map_cons, List.flatMap_cons, List.map_append, d5y, ih]
theorem e6C (id : Nat) (b : Blk) (H : Heap) (j : Nat) : (frzH id b H)[j]? = if j = id then (if j < H.length then some none else none) else (H[j]?).map (Option.map (frzB id b)) := by
 unfold frzH
 rw [List.getElem?_set]
 by_cases h : id = j
 ·subst h; simp
 ·rw [if_neg h, if_neg (fun e => h e.symm)]; simp
theorem a2U {id : Nat} {b : Blk} {H : Heap} {j : Nat} {x : Blk} (h : (frzH id b H)[j]? = some (some x)) : j ≠ id ∧ ∃ y, H[j]? = some (some y) ∧ x = frzB id b y := by
 rw [e6C] at h
 split at h
 ·split at h <;> simp at h
 ·rename_i hj
  cases hy : H[j]? with
  | none => simp [hy] at h
  | some o =>
   cases o with
   | none => simp [hy] at h
   | some y => simp [hy] at h; exact ⟨hj, y, rfl, h.symm⟩
theorem b9Z {E : Emb} {id : Nat} {b : Blk} : Ext All E ⟨E.φ, frzH id b E.H, E.w⟩ :=
 ⟨rfl, rfl, rfl, Nat.le_refl _, fun i _ hi => by simp [frzH]; exact hi, fun _ _ _ => rfl,
  fun i blk' _ _ h => by obtain ⟨_, y, h1, h2⟩ := a2U h; exact ⟨y, h1, by rw [h2]; rfl⟩,
  fun _ _ _ _ _ _ _ => rfl, fun bb _ ⟨j, x, h, hp⟩ => by obtain ⟨_, y, h1, h2⟩ := a2U h; exact ⟨j, y, h1, hp⟩, fun _ _ _ => rfl⟩
theorem b4d {b : Blk} (hw : ∀ x ∈ b.xs, x.cells.length = b.wd) (off len k : Nat) (h : off + len ≤ b.xs.length) (hk : k < len * b.wd) :
  (((b.xs.drop off).take len).flatMap AV.cells)[k]? = b.flat[off * b.wd + k]? := by
 have e : b.flat = (b.xs.take off).flatMap AV.cells ++ (((b.xs.drop off).take len).flatMap AV.cells ++ ((b.xs.drop off).drop len).flatMap AV.cells) := by
  rw [← List.flatMap_append, List.take_append_drop, ← List.flatMap_append, List.take_append_drop]; rfl
 have hl : ∀ (l : List AV), (∀ x ∈ l, x.cells.length = b.wd) → (l.flatMap AV.cells).length = l.length * b.wd := by
  intro l
  induction l with
  | nil => simp
  | cons x l ih =>
   intro h
   rw [List.flatMap_cons, List.length_append, ih (fun y hy => h y (by simp [hy])), h x (by simp), List.length_cons, Nat.add_mul]
   omega
 have h1 : ((b.xs.take off).flatMap AV.cells).length = off * b.wd := by
  rw [hl _ (fun x hx => hw x (List.mem_of_mem_take hx)), List.length_take, Nat.min_eq_left (by omega)]
 have h2 : (((b.xs.drop off).take len).flatMap AV.cells).length = len * b.wd := by
  rw [hl _ (fun x hx => hw x (List.mem_of_mem_drop (List.mem_of_mem_take hx))), List.length_take, List.length_drop, Nat.min_eq_left (by omega)]
 rw [e, List.getElem?_append_right (by omega), h1, Nat.add_sub_cancel_left, List.getElem?_append_left (by omega)]
theorem a2m {wd : Nat} {l : List AV} (h : ∀ x ∈ l, x.cells.length = wd) : (l.flatMap AV.cells).length = l.length * wd := by
 induction l with
 | nil => simp
 | cons x l ih =>
  rw [List.flatMap_cons, List.length_append, ih (fun y hy => h y (by simp [hy])), h x (by simp), List.length_cons, Nat.add_mul]
  omega
theorem d8H {E : Emb} {bl : Nat} {b : Blk} {c : Array Value} {e : TypeId} (r : RowOk E bl b c e) (hpos : 0 < b.wd) (q n : Nat) (h : q + n ≤ b.flat.length) :
  ∃ vs : List Value, vs.length = n ∧ (∀ (k : Nat) v, vs[k]? = some v → E.w.cell? ⟨bl, q + k, none⟩ = some v ∧ v.oneCell' = true) ∧ (∀ (k : Nat) v a, vs[k]? = some v → b.flat[q + k]? = some a → Rep E v a) := by
 have hf := r.fits
 refine ⟨(c.toList.drop q).take n, by simp; omega, ?_, ?_⟩
 ·intro k v hv
  have hlt := a0h hv
  simp at hlt
  have hv' : c[q + k]? = some v := by
   rw [List.getElem?_take, if_pos (by omega), List.getElem?_drop] at hv
   simpa using hv
  refine ⟨?_, r.one (q + k) v (by omega) hv'⟩
  simp [World.cell?, r.heap hpos, hv']
 ·intro k v a hv ha
  have hlt := a0h hv
  simp at hlt
  have hv' : c[q + k]? = some v := by
   rw [List.getElem?_take, if_pos (by omega), List.getElem?_drop] at hv
   simpa using hv
  exact r.rep (q + k) v a hv' ha
theorem b9X {E : Emb} (hok : HOk E) {id : Nat} {b : Blk} (hpos : 0 < b.wd) (hl : E.H[id]? = some (some b)) (hcl : ∀ c ∈ b.flat, Cl c) {v : Value} {a : AV} (hr : Rep E v a) : Rep ⟨E.φ, frzH id b E.H, E.w⟩ v (frz id b a) := by
 have hx := b9Z (E := E) (id := id) (b := b)
 have leaf : ∀ {v a}, Rep E v a → Ref (· ≠ id) a → Rep ⟨E.φ, frzH id b E.H, E.w⟩ v (frz id b a) := by
  intro v a h hn
  rw [a2o hn]
  exact h.mono hx (hn.mono fun _ _ => trivial)
 have clr : ∀ {v a}, Rep E v a → Cl a → Rep ⟨E.φ, frzH id b E.H, E.w⟩ v a := fun h hc => h.mono hx hc.ref
 have hnm : ∀ bl, E.φ id = some bl → ¬ (Emb.mk E.φ (frzH id b E.H) E.w).Mut bl := by
  intro bl hb ⟨j, x, h, hp⟩
  obtain ⟨h0, y, h1, _⟩ := a2U h
  exact h0 (hok.inj _ _ _ _ bl h1 hl hp hb)
 have hwd := hok.wids id b hl
 induction hr with
 | top v => simp only [frz]; exact .top _
 | int k n => exact leaf (.int k n) (.int k n)
 | bool b => exact leaf (.bool b) (.bool b)
 | str s => exact leaf (.str s) (.str s)
 | nil => exact leaf .nil .nil
 | lit v => exact leaf (.lit v) (.lit v)
 | sl base cap wd xs vs bl o hcap hp hw hc hbase hlen hcell hrep ih => exact leaf (.sl base cap wd xs vs bl o hcap hp hw hc hbase hlen hcell hrep) (.sl wd xs)
 | ro x off bl o vs hb hp hc hlen hcell hrep ih => exact leaf (.ro x off bl o vs hb hp hc hlen hcell hrep) (.ro x off)
 | mu blk i off len oc bl q cap hlive hb hq hlen hsz hoc =>
  by_cases hi : i = id
  ·subst hi
   rw [hl] at hlive
   cases hlive
   simp only [frz, if_true]
   split
   ·rename_i hle
    have hcl' : ∀ c ∈ ((b.xs.drop off).take len).flatMap AV.cells, Cl c := by
     intro c hc
     obtain ⟨x, hx, hc⟩ := List.mem_flatMap.1 hc
     exact hcl c (List.mem_flatMap.2 ⟨x, List.mem_of_mem_drop (List.mem_of_mem_take hx), hc⟩)
    have hlen2 : ((b.xs.drop off).take len).length = len := by simp; omega
    have hw2 : ∀ x ∈ (b.xs.drop off).take len, x.cells.length = b.wd := fun x hx => hwd x (List.mem_of_mem_drop (List.mem_of_mem_take hx))
    rcases Nat.eq_zero_or_pos len with h0 | h0
    ·have : (b.xs.drop off).take len = [] := by rw [h0]; simp
     rw [this, h0]
     exact .sl _ cap b.wd [] [] bl q (Nat.zero_le _) hpos (by simp) (by simp) (.inl rfl) rfl (fun k v hk => by simp at hk) (fun k v a hk => by simp at hk)
    ·have hq' : q = off * b.wd := by
      rcases hq with hq | ⟨hq, _⟩
      ·exact hq
      ·omega
     subst hq'
     obtain ⟨c, e, r⟩ := hok.row i b bl hl hb
     have hfl : b.flat.length = b.xs.length * b.wd := a2m hwd
     have hle2 : off * b.wd + len * b.wd ≤ b.flat.length := by rw [hfl, ← Nat.add_mul]; exact Nat.mul_le_mul_right _ hle
     obtain ⟨vs, v1, v2, v3⟩ := d8H r hpos (off * b.wd) (len * b.wd) hle2
     have key := Rep.sl (E := ⟨E.φ, frzH i b E.H, E.w⟩) (some ⟨bl, off * b.wd, none⟩) cap b.wd ((b.xs.drop off).take len) vs bl (off * b.wd) (by rw [hlen2]; exact hlen) hpos hw2 hcl' (.inr ⟨rfl, hnm bl hb⟩) (by rw [a2m hw2, hlen2, v1]) v2 (by
      intro k v a hk ha
      have hkl := a0h hk
      rw [v1] at hkl
      have ha' := ha
      rw [b4d hwd off len k hle hkl] at ha'
      exact clr (v3 k v a hk ha') (hcl' a (List.mem_of_getElem? ha)))
     rw [hlen2] at key
     exact key
   ·exact .top _
  ·exact leaf (.mu blk i off len oc bl q cap hlive hb hq hlen hsz hoc) (.mu i off len oc hi)
 | mu0 blk i off oc hlive hb hoc =>
  by_cases hi : i = id
  ·subst hi
   rw [hl] at hlive
   cases hlive
   simp only [frz, if_true]
   split
   ·simp only [List.take_zero]
    exact .sl none 0 b.wd [] [] 0 0 (Nat.zero_le _) hpos (by simp) (by simp) (.inl rfl) rfl (fun k v hk => by simp at hk) (fun k v a hk => by simp at hk)
   ·exact .top _
  ·exact leaf (.mu0 blk i off oc hlive hb hoc) (.mu i off 0 oc hi)
 | loc blk i k off bl hlive hb =>
  by_cases hi : i = id
  ·subst hi
   rw [hl] at hlive
   cases hlive
   simp only [frz, if_true]
   split
   ·rename_i hk
    obtain ⟨c, e, r⟩ := hok.row i b bl hl hb
    have hfl : b.flat.length = b.xs.length * b.wd := a2m hwd
    have hxc : (b.xs.getD k .top).cells = ((b.xs.drop k).take 1).flatMap AV.cells := by
     rw [List.getD_eq_getElem?_getD, List.getElem?_eq_getElem hk, Option.getD_some, List.drop_eq_getElem_cons hk, List.take_succ_cons]
     simp
    have hmem : b.xs.getD k .top ∈ b.xs := by rw [List.getD_eq_getElem?_getD, List.getElem?_eq_getElem hk, Option.getD_some]; exact List.getElem_mem hk
    have hle2 : k * b.wd + 1 * b.wd ≤ b.flat.length := by rw [hfl, ← Nat.add_mul]; exact Nat.mul_le_mul_right _ hk
    obtain ⟨vs, v1, v2, v3⟩ := d8H r hpos (k * b.wd) (1 * b.wd) hle2
    rw [Nat.one_mul] at v1
    have hcl2 : ∀ c ∈ (b.xs.getD k .top).cells, Cl c := fun c hc => hcl c (List.mem_flatMap.2 ⟨_, hmem, hc⟩)
    exact .ro (b.xs.getD k .top) off bl (k * b.wd) vs (hnm bl hb) (by rw [hwd _ hmem]; exact hpos) hcl2 (by rw [hwd _ hmem, v1]) v2 (by
     intro j v a hj ha
     have hjl := a0h hj
     rw [v1] at hjl
     refine clr (v3 j v a hj ?_) (hcl2 a (List.mem_of_getElem? ha))
     rw [← b4d hwd k 1 j hk (by omega), ← hxc]
     exact ha)
   ·exact .top _
  ·exact leaf (.loc blk i k off bl hlive hb) (.loc i k off hi)
 | mp blk k i bl hlive hb hw =>
  by_cases hi : i = id
  ·simp only [frz, hi, if_true]; exact .top _
  ·exact leaf (.mp blk k i bl hlive hb hw) (.mp k i hi)
 | dead v a i hr hd h1 =>
  have hi : i ≠ id := by rintro rfl; rw [hl] at hd; simp at hd
  have hn : Ref (· ≠ id) a := by
   cases a <;> simp [AV.ref] at hr
   ·subst hr; exact .mu _ _ _ _ hi
   ·subst hr; exact .loc _ _ _ hi
   ·subst hr; exact .mp _ _ hi
  exact leaf (.dead v a i hr hd h1) hn
 | agg vs cs hlen h1 hrep ih =>
  simp only [frz]
  exact .agg vs _ (by simp [hlen]) h1 (fun k v a hk ha => by
   simp at ha
   obtain ⟨a0, h0, rfl⟩ := ha
   exact ih k v a0 hk h0)
 | tup vs cs hlen hrep ih =>
  simp only [frz]
  exact .tup vs _ (by simp [hlen]) (fun k v a hk ha => by
   simp at ha
   obtain ⟨a0, h0, rfl⟩ := ha
   exact ih k v a0 hk h0)
 | fn f vs cs hlen hrep ih =>
  simp only [frz]
  exact .fn f vs _ (by simp [hlen]) (fun k v a hk ha => by
   simp at ha
   obtain ⟨a0, h0, rfl⟩ := ha
   exact ih k v a0 hk h0)
 | bfn f vs cs hlen hrep ih =>
  simp only [frz]
  exact .bfn f vs _ (by simp [hlen]) (fun k v a hk ha => by
   simp at ha
   obtain ⟨a0, h0, rfl⟩ := ha
   exact ih k v a0 hk h0)
theorem d5w {E : Emb} (hok : HOk E) {id : Nat} {b : Blk} (hpos : 0 < b.wd) (hl : E.H[id]? = some (some b)) (hcl : ∀ c ∈ b.flat, Cl c) : HOk ⟨E.φ, frzH id b E.H, E.w⟩ := by
 refine ⟨fun j x bl h h0 hp => ?_, fun j x h => ?_, fun j x bl h hp => ?_, fun j x h hp => ?_, fun i j x y bl h1 h2 p1 p2 => ?_⟩
 ·obtain ⟨_, y, h1, rfl⟩ := a2U h
  rcases hok.obj j y bl h1 h0 hp with ⟨L, q1, q2⟩ | ⟨mid, n, seen, m, q1, q2, q3, q4⟩
  ·exact .inl ⟨L, by simp [frzB, q1, frz], q2⟩
  ·refine .inr ⟨mid, n, seen, m, by simp [frzB, q1, frz], q2, q3, fun blk hb => ?_⟩
   obtain ⟨_, z, hz, rfl⟩ := a2U hb
   exact q4 z hz
 ·obtain ⟨_, y, h1, rfl⟩ := a2U h
  intro z hz
  simp only [frzB, List.mem_map] at hz
  obtain ⟨z0, hz0, rfl⟩ := hz
  rw [d5y, List.length_map]; exact hok.wids j y h1 z0 hz0
 ·obtain ⟨_, y, h1, rfl⟩ := a2U h
  obtain ⟨c, e, r⟩ := hok.row j y bl h1 hp
  refine ⟨c, e, r.heap, by rw [c6S, List.length_map]; exact r.fits, fun k v hk hv => r.one k v (by rw [c6S, List.length_map] at hk; exact hk) hv, fun k v a hk ha => ?_⟩
  rw [c6S] at ha
  simp at ha
  obtain ⟨a0, h0, rfl⟩ := ha
  exact b9X hok hpos hl hcl (r.rep k v a0 hk h0)
 ·obtain ⟨_, y, h1, rfl⟩ := a2U h
  simp [frzB, hok.emp j y h1 hp]
 ·obtain ⟨_, x', h1, _⟩ := a2U h1
  obtain ⟨_, y', h2, _⟩ := a2U h2
  exact hok.inj i j _ _ bl h1 h2 p1 p2
theorem c6B (id : Nat) (b : Blk) (env : Env) (t : Nat) : look (frzE id b env) t = frz id b (look env t) := by
 induction env with
 | nil => simp only [frzE, List.map_nil, look, frz]
 | cons p env ih =>
  simp only [frzE, List.map_cons, look]
  split
  ·rfl
  ·exact ih
section
variable {x : Cx} {todo : List AItem} {env : Env} {H : Heap} {R : AV → Heap → Prop}
theorem Safe.freezeG {id : Nat} {b : Blk} (hid : x.n0 ≤ id) (hl : H[id]? = some (some b)) (hcl : ∀ c ∈ b.flat, Cl c) (h : Safe x todo (frzE id b env) (frzH id b H) R) (hpos : 0 < b.wd := by exact Nat.zero_lt_succ _) : Safe x todo env H R := by
 intro φ w tmps bf k cs hg hn hb hk ht hsz hok he
 have hok' := d5w hok hpos hl hcl
 obtain ⟨v, w', fr, r, φ', H', q1, q2, q3, q4, q5, q6⟩ := h φ w tmps bf k cs hg (by simp [frzH]; exact hn) hb hk ht hsz hok' (fun t => by rw [c6B]; exact b9X hok hpos hl hcl (he t))
 exact ⟨v, w', fr, r, φ', H', q1, q2, q3, q4, (b9Z.sub fun _ _ => trivial).trans q5, q6⟩
def frzL (id : Nat) (b : Blk) (L : Heap) : Heap := L.map (Option.map (frzB id b))
theorem d9b (id : Nat) (b : Blk) : frzL id b [] = [] := rfl
theorem d5z (id : Nat) (b : Blk) (x : Blk) (L : Heap) : frzL id b (some x :: L) = some ⟨x.wd, x.xs.map (frz id b)⟩ :: frzL id b L := rfl
theorem e3O (id : Nat) (b : Blk) (L : Heap) : frzL id b (none :: L) = none :: frzL id b L := rfl
theorem f0p {id : Nat} {b y : Blk} (h : ∀ a ∈ y.flat, Ref (· ≠ id) a) : frzB id b y = y := by
 obtain ⟨wd, xs⟩ := y
 simp only [frzB, Blk.mk.injEq, true_and]
 rw [List.map_congr_left (g := fun x => x)]
 ·simp
 ·intro a ha
  have hc : ∀ c ∈ a.cells, Ref (· ≠ id) c := fun c hc => h c (List.mem_flatMap.2 ⟨a, ha, hc⟩)
  cases a
  case agg cs => exact a2o (.agg cs hc)
  case mo l => exact a2o (.mo l)
  case io i n seen => exact a2o (.io i n seen)
  all_goals exact a2o (hc _ (by simp [AV.cells]))
theorem b8h (hH : a0C H) (i : Nat) (b : Blk) (L : Heap) : frzH (lid H i) b (hap H L) = hap H ((frzL (lid H i) b L).set i none) := by
 unfold frzH hap
 rw [List.map_append]
 have : H.map (Option.map (frzB (lid H i) b)) = H := by
  rw [List.map_congr_left (g := fun x => x)]
  ·simp
  ·intro o ho
   obtain ⟨j, hj, rfl⟩ := List.getElem_of_mem ho
   cases hy : H[j] with
   | none => rfl
   | some y =>
    simp only [Option.map_some]
    rw [f0p]
    intro a ha
    refine (hH j y (by rw [List.getElem?_eq_getElem hj, hy]) a ha).mono fun k hk => ?_
    show k ≠ lid H i
    unfold lid; omega
 rw [this, List.set_append_right _ _ (by simp [lid]), show lid H i - H.length = i by simp [lid]]
 rfl
theorem Safe.freeze (i : Nat) {L : Heap} {b : Blk} (hH : a0C H) (hx : x.n0 = H.length) (hl : L[i]? = some (some b)) (hcl : ∀ c ∈ b.flat, Cl c)
  (h : Safe x todo (frzE (lid H i) b env) (hap H ((frzL (lid H i) b L).set i none)) R) (hpos : 0 < b.wd := by exact Nat.zero_lt_succ _) : Safe x todo env (hap H L) R := by
 refine Safe.freezeG (id := lid H i) (b := b) (by rw [hx]; exact a1M H i) ?_ hcl ?_ hpos
 ·unfold hap lid
  rw [List.getElem?_append_right (by omega), Nat.add_sub_cancel_left]; exact hl
 ·rw [b8h hH]; exact h
theorem e6D (id : Nat) (b : Blk) : frzE id b [] = [] := rfl
theorem e3P (id : Nat) (b : Blk) (t : Nat) (a : AV) (env : Env) : frzE id b ((t, a) :: env) = (t, frz id b a) :: frzE id b env := rfl
theorem Safe.nilrow (t wd : Nat) {L : Heap} (hwd : 0 < wd) (ht : look env t = .nil) (h : Safe x todo ((t, .mu (lid H L.length) 0 0 none) :: env) (hap H (L ++ [some ⟨wd, []⟩])) R) : Safe x todo env (hap H L) R := by
 intro φ w tmps bf k cs hg hn hb hk htd hsz hok he
 obtain ⟨hok', hx⟩ := hok.alloc (w := w) rfl rfl rfl (Nat.le_refl _) none (by simp) (fun _ _ => rfl) ⟨wd, []⟩ hwd (by simp) (.inl ⟨rfl, rfl⟩)
 simp only [hap, List.append_assoc] at hok' hx
 obtain ⟨v, w', fr, r, φ', H', q1, q2, q3, q4, q5, q6⟩ := h _ w tmps bf k cs hg (by simp only [hap, List.length_append] at hn ⊢; omega) hb hk htd hsz (by simpa [hap] using hok') (fun j => by
  simp only [look]
  split
  ·rename_i hj
   subst hj
   have h0 := he t
   rw [ht] at h0
   have hv : tmps.getD t undef = .slice none 0 0 := by
    generalize tmps.getD t undef = u at h0
    cases h0 with
    | nil => rfl
    | dead v a i hr hd h1 => simp [AV.ref] at hr
   rw [hv]
   refine .mu0 ⟨wd, []⟩ _ 0 none ?_ ?_ (by simp)
   ·simp only [hap, lid]
    rw [← List.append_assoc, List.getElem?_append_right (by simp)]; simp
   ·simp [lid, hap]
  ·have := (he j).mono' hx
   simpa [hap] using this)
 refine ⟨v, w', fr, r, φ', H', q1, q2, q3, q4, ?_, q6⟩
 have hx' := hx.sub (T := (· < x.n0)) (fun i hi => Nat.lt_of_lt_of_le hi hn)
 exact hx'.trans (by simpa [hap] using q5)
theorem b9h {E : Emb} {v : Value} (wd : Nat) (hwd : 0 < wd) (h : Rep E v .nil) : Rep E v (.sl wd []) := by
 cases h with
 | nil => exact .sl none 0 wd [] [] 0 0 (Nat.zero_le _) hwd (by simp) (by simp) (.inl rfl) rfl (fun k v hk => by simp at hk) (fun k v a hk => by simp at hk)
 | dead v a i hr hd h1 => simp [AV.ref] at hr
theorem Safe.nilsl (t wd : Nat) (hwd : 0 < wd) (ht : look env t = .nil) (h : Safe x todo ((t, .sl wd []) :: env) H R) : Safe x todo env H R := by
 intro φ w tmps bf k cs hg hn hb hk htd hsz hok he
 refine h φ w tmps bf k cs hg hn hb hk htd hsz hok fun j => ?_
 simp only [look]
 split
 ·rename_i hj
  subst hj
  have h0 := he t
  rw [ht] at h0
  exact b9h wd hwd h0
 ·exact he j
end
def a0d (P : Program) (f : FuncId) (args : List AV) (r : AV) : Prop := ∀ H, a0m P f args H fun r' H' => r' = r ∧ H' = H
theorem a0m.cut {P : Program} {f : FuncId} {args : List AV} {H : Heap} {r : AV} (hr : Ref (· < H.length) r) (h : a0m P f args H fun r' H' => r' = r ∧ ∃ L, H' = hap H L) : a0m P f args H fun r' H' => r' = r ∧ H' = H := by
 refine ⟨h.1, fun φ w vs hok hl hrep => (h.2 φ w vs hok hl hrep).mono ?_⟩
 rintro e w' ⟨v, r', φ', H', rfl, ⟨rfl, L, rfl⟩, q1, q2, q3, q4⟩
 have hfree : ∀ (j : Nat) bj, j < H.length → (hap H L)[j]? = some (some bj) → ∀ a ∈ bj.flat, Ref (· < H.length) a := by
  intro j bj hj hb
  simp only [hap] at hb
  rw [List.getElem?_append_left hj] at hb
  exact hok.refs hb
 have hcut := HOk.cut q1 H.length hfree
 have ht : (hap H L).take H.length = H := by simp [hap]
 simp only [ht] at hcut
 refine ⟨v, r', φ', H, rfl, ⟨rfl, rfl⟩, hcut.1, q2.mono hcut.2 hr, Nat.le_refl _, q4.trans hcut.2⟩
theorem a0d.intro {P : Program} {mu : Nat → Nat → Bool} {f : FuncId} {fn : Func} (hf : P.funcs[f]? = some fn) {ac : ACode} {rs : List ResV} {nt : Nat} (hc : fchk P mu fn = some (ac, rs, nt))
  {args : List AV} {r : AV} (ha : args.length ≤ nt) (hr : Cl r) (h : ∀ H, a0C H → Safe ⟨P, mu, f, nt, rs, H.length⟩ [.code ac] (b8k 0 args) (hap H []) fun r' H' => r' = r ∧ ∃ L, H' = hap H L) : a0d P f args r := by
 intro H
 refine a0m.cut hr.ref (a0m.intro hf hc ha fun hH => ?_)
 have := h H hH
 rw [a1T] at this
 exact this
end Go.Abs

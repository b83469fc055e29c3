/- Literals, make, append, copy. -/
import Derived.Test.YtmbjamifiadncaaDoorA5
set_option linter.unusedVariables false
set_option linter.unusedSimpArgs false
namespace Go.Abs

section
variable {P : Program} {E : Emb} {env : Env} {tmps : Array Value}

theorem fill_full (wd : Nat) : ∀ (vals : List Value) (k : Nat) (zs : Array Value), (∀ v ∈ vals, v.cells.size = wd) → k * wd + vals.length * wd ≤ zs.size →
    ∃ us : Array Value, Instr.fill (fun i => some (i * wd, wd)) zs ((vals.zipIdx k).map fun p => (p.2, p.1)) = some us ∧
      us.toList = zs.toList.take (k * wd) ++ vals.flatMap (·.cells.toList) ++ zs.toList.drop (k * wd + vals.length * wd)
  | [], k, zs, hv, hs => ⟨zs, rfl, by simp⟩
  | v :: vals, k, zs, hv, hs => by
    have hv0 := hv v (by simp)
    have e1 : (vals.length + 1) * wd = vals.length * wd + wd := by rw [Nat.add_mul]; omega
    have e2 : (k + 1) * wd = k * wd + wd := by rw [Nat.add_mul]; omega
    simp only [List.length_cons] at hs
    have hf := foldl_splice (k * wd) v.cells.toList 0 zs (by rw [Array.length_toList, hv0]; omega)
    simp only [Nat.add_zero, Array.length_toList, hv0] at hf
    have hz : (v.cells.zipIdx.foldl (fun cs (p : Value × Nat) => cs.setIfInBounds (k * wd + p.2) p.1) zs) = (v.cells.toList.zipIdx.foldl (fun cs (p : Value × Nat) => cs.setIfInBounds (k * wd + p.2) p.1) zs) := by
      rw [← Array.foldl_toList, Array.toList_zipIdx]
    have hsz : (v.cells.toList.zipIdx.foldl (fun cs (p : Value × Nat) => cs.setIfInBounds (k * wd + p.2) p.1) zs).size = zs.size := by
      rw [← Array.length_toList, hf]
      simp only [List.length_append, List.length_take, List.length_drop, Array.length_toList, hv0]; omega
    obtain ⟨us, g1, g2⟩ := fill_full wd vals (k + 1) (v.cells.toList.zipIdx.foldl (fun cs (p : Value × Nat) => cs.setIfInBounds (k * wd + p.2) p.1) zs) (fun u hu => hv u (by simp [hu])) (by rw [hsz]; omega)
    refine ⟨us, ?_, ?_⟩
    · simp only [List.zipIdx_cons, List.map_cons, Instr.fill]
      rw [if_neg (by simp [hv0]; omega)]
      exact (congrArg (fun z => Instr.fill _ z _) hz).trans g1
    · rw [g2, hf]
      have t1 : (zs.toList.take (k * wd) ++ v.cells.toList).length = (k + 1) * wd := by
        simp only [List.length_append, List.length_take, Array.length_toList, hv0]; omega
      rw [List.take_append_of_le_length (by omega), List.take_of_length_le (by omega)]
      rw [List.drop_append, t1, List.drop_drop, List.drop_eq_nil_of_le (by rw [t1]; omega)]
      simp only [List.flatMap_cons, List.nil_append, List.append_assoc, List.length_cons]
      congr 4
      omega

/-- Values side by side. -/
theorem flat_rep : ∀ {vals : List Value} {as : List AV}, vals.length = as.length → (∀ (k : Nat) v a, vals[k]? = some v → as[k]? = some a → Rep E v a) → (∀ a ∈ as, a.fit = true) →
    (vals.flatMap (·.cells.toList)).length = (as.flatMap AV.cells).length ∧ (∀ u ∈ vals.flatMap (·.cells.toList), u.oneCell' = true) ∧
    ∀ (k : Nat) u b, (vals.flatMap (·.cells.toList))[k]? = some u → (as.flatMap AV.cells)[k]? = some b → Rep E u b
  | [], [], _, _, _ => ⟨rfl, by simp, fun k u b h => by simp at h⟩
  | v :: vals, a :: as, hl, hr, hf => by
    obtain ⟨q1, q2, q3⟩ := rep_cells (hr 0 v a rfl rfl) (hf a (by simp))
    obtain ⟨r1, r2, r3⟩ := flat_rep (vals := vals) (as := as) (by simpa using hl) (fun k v a h1 h2 => hr (k + 1) v a (by simpa using h1) (by simpa using h2)) (fun b hb => hf b (by simp [hb]))
    simp only [List.flatMap_cons]
    refine ⟨by rw [List.length_append, List.length_append, q1, r1], ?_, ?_⟩
    · intro u hu
      rcases List.mem_append.1 hu with hu | hu
      · exact q2 u hu
      · exact r2 u hu
    · intro k u b hu hb
      rcases Nat.lt_or_ge k v.cells.toList.length with hk | hk
      · rw [List.getElem?_append_left hk] at hu
        rw [List.getElem?_append_left (by omega)] at hb
        exact q3 k u b hu hb
      · rw [List.getElem?_append_right hk] at hu
        rw [List.getElem?_append_right (by omega), ← q1] at hb
        exact r3 _ u b hu hb

theorem parts_full : ∀ {parts : List (Nat × Operand)} {k : Nat} {ps : List Src}, partsFull k parts = some ps →
    parts = ((parts.map (·.2)).zipIdx k).map (fun p => (p.2, p.1)) ∧ srcs (parts.map (·.2)) = some ps
  | [], k, ps, h => by simp [partsFull] at h; subst h; exact ⟨rfl, rfl⟩
  | (i, x) :: r, k, ps, h => by
    simp only [partsFull] at h
    split at h
    · rename_i hi
      simp only [Option.bind_eq_bind, Option.bind_eq_some_iff] at h
      obtain ⟨s, h1, r', h2, h3⟩ := h
      cases h3
      obtain ⟨g1, g2⟩ := parts_full h2
      refine ⟨?_, ?_⟩
      · simp only [List.map_cons, List.zipIdx_cons]
        rw [← g1, hi]
      · simp only [List.map_cons, srcs, h1, g2]; rfl
    · simp at h

theorem run_buildSlice (t : TypeId) (e : TypeId) (i : TypeInfo) (z : Value) (ht : P.underlying t = some (.slice e)) (hi : P.info? e = some i) (hz : i.zero = some z) (hzs : z.cells.size = i.size)
    (w : World) (vals : List Value) (hv : ∀ v ∈ vals, v.cells.size = i.size) (hcap : vals.length * i.size ≤ 16777216) :
    (Instr.buildSlice t vals.length ((vals.zipIdx.map fun p => (p.2, p.1)).toArray)).run P w =
      .ok (.slice (some ⟨w.heap.size, 0, none⟩) vals.length vals.length) (w.alloc (.cells (vals.flatMap (·.cells.toList)).toArray e)) := by
  have hn : ¬ (16777216 < vals.length * i.size) := by omega
  by_cases h0 : vals.length * i.size = 0
  · obtain ⟨us, g1, g2⟩ := fill_full i.size vals 0 ((Array.range (vals.length * i.size)).map ((#[] : Array Value)[· % 0]!)) hv (by simp)
    have hus : us = (vals.flatMap (·.cells.toList)).toArray := by
      apply Array.ext'
      rw [g2]
      simp [h0]
    have g1' : Instr.fill (fun i_1 => some (i_1 * i.size, i.size)) #[] (List.map (fun p => (p.snd, p.fst)) vals.zipIdx) = some us := by
      rw [← g1]; congr 1; simp [h0]
    simp only [Instr.buildSlice, Sem.run_bind, run_underlying ht, Result.andThen_ok, sizeOf, typeInfo, run_program, hi, Sem.run_pure, h0]
    simp [g1', newRow, hus, show Array.range 0 = #[] from rfl]
  · obtain ⟨us, g1, g2⟩ := fill_full i.size vals 0 ((Array.range (vals.length * i.size)).map (z.cells[· % z.cells.size]!)) hv (by simp)
    have hus : us = (vals.flatMap (·.cells.toList)).toArray := by
      apply Array.ext'
      rw [g2]
      simp only [Nat.zero_mul, List.take_zero, List.nil_append, Nat.zero_add]
      rw [List.drop_eq_nil_of_le (by simp)]; simp
    simp only [Instr.buildSlice, Sem.run_bind, run_underlying ht, Result.andThen_ok, sizeOf, typeInfo, run_program, hi, Sem.run_pure, h0, zeroValue, hz]
    simp only [hzs] at g1
    simp [hn, h0, hi, hz, hzs, g1, newRow, hus]

theorem zipIdx_map_eval (xs : List Operand) (f : Operand → Value) (k : Nat) : (((xs.zipIdx k).map (fun p => (p.2, p.1))).map fun p => (p.1, f p.2)) = ((xs.map f).zipIdx k).map (fun p => (p.2, p.1)) := by
  induction xs generalizing k with
  | nil => rfl
  | cons x xs ih => simp only [List.zipIdx_cons, List.map_cons, ih]

/-- What a literal of a slice leaves. -/
theorem bsl_left {n0 : Nat} (hn : n0 ≤ E.H.length) (hok : HOk E) (he : RepEnv E env tmps) {t e : TypeId} {i : TypeInfo} {z : Value} (ht : P.underlying t = some (.slice e)) (hi : P.info? e = some i) (hz : i.zero = some z)
    (hzs : z.cells.size = i.size) {parts : Array (Nat × Operand)} {ps : List Src} (hp : partsFull 0 parts.toList = some ps) (hcap : ps.length * i.size ≤ 16777216) (hpos : 0 < i.size)
    (hfit : ∀ s ∈ ps, (s.ev env).fit = true ∧ (s.ev env).cells.length = i.size) :
    (Left P n0 E tmps (do pure (Next.value (← Instr.buildSlice t ps.length (parts.map fun (i, x) => (i, Act.eval ⟨tmps, []⟩ x))))) (.mu E.H.length 0 ps.length (some ps.length)) env (E.H ++ [some ⟨i.size, ps.map (·.ev env)⟩])) ∧
    ((∀ s ∈ ps, ∀ c ∈ (s.ev env).cells, Cl c) → Left P n0 E tmps (do pure (Next.value (← Instr.buildSlice t ps.length (parts.map fun (i, x) => (i, Act.eval ⟨tmps, []⟩ x))))) (.sl i.size (ps.map (·.ev env))) env E.H) := by
  obtain ⟨g1, g2⟩ := parts_full hp
  obtain ⟨hl, hr⟩ := rep_srcs he g2
  have hl' : (parts.toList.map (·.2)).length = ps.length := hl.symm
  obtain ⟨q1, q2, q3⟩ := flat_rep (vals := (parts.toList.map (·.2)).map (Act.eval ⟨tmps, []⟩)) (as := ps.map (·.ev env)) (by simp at hl' ⊢; omega) hr (by
    intro a ha
    obtain ⟨s, hs, rfl⟩ := List.mem_map.1 ha
    exact (hfit s hs).1)
  have hv : ∀ v ∈ (parts.toList.map (·.2)).map (Act.eval ⟨tmps, []⟩), v.cells.size = i.size := by
    intro v hv
    obtain ⟨k, hk, rfl⟩ := List.getElem_of_mem hv
    have hk' : k < ps.length := by simp at hk hl'; omega
    have := rep_cells (hr k _ _ (List.getElem?_eq_getElem hk) (by rw [List.getElem?_map, List.getElem?_eq_getElem hk']; rfl)) (hfit _ (List.getElem_mem hk')).1
    rw [← Array.length_toList, this.1, (hfit _ (List.getElem_mem hk')).2]
  have hlen : ((parts.toList.map (·.2)).map (Act.eval ⟨tmps, []⟩)).length = ps.length := by simp at hl' ⊢; omega
  have hrun := run_buildSlice (P := P) t e i z ht hi hz hzs E.w _ hv (by rw [hlen]; exact hcap)
  rw [hlen] at hrun
  have harr : (parts.map fun (i, x) => (i, Act.eval ⟨tmps, []⟩ x)) = (((((parts.toList.map (·.2)).map (Act.eval ⟨tmps, []⟩)).zipIdx).map fun p => (p.2, p.1)).toArray) := by
    rw [← zipIdx_map_eval, ← g1]
    apply Array.ext'
    simp
  rw [harr]
  have hw : ∀ x ∈ ps.map (·.ev env), x.cells.length = i.size := by
    intro x hx
    obtain ⟨s, hs, rfl⟩ := List.mem_map.1 hx
    exact (hfit s hs).2
  constructor
  · obtain ⟨φ', h1, h2, h3, h4, h5⟩ := new_row (env := env) (tmps := tmps) (n0 := n0) hn hok he (w := E.w.alloc (.cells (((parts.toList.map (·.2)).map (Act.eval ⟨tmps, []⟩)).flatMap (·.cells.toList)).toArray e)) rfl rfl rfl (by simp) (alloc_keep _ _) E.w.heap.size (Nat.le_refl _)
      ⟨i.size, ps.map (·.ev env)⟩ hpos hw (heap_alloc_new _ _) (by rw [Blk.flat, ← q1]; simp) (fun k v b hv hb => by
        have hv' := by simpa using hv
        have hv'' : (((parts.toList.map (·.2)).map (Act.eval ⟨tmps, []⟩)).flatMap (·.cells.toList))[k]? = some v := by rw [← hv]; simp
        exact ⟨q2 v (List.mem_of_getElem? hv''), q3 k v b hv'' hb⟩)
    refine ⟨φ', _, _, _, run_val hrun, .inl rfl, h1, ?_, h2, h3⟩
    have := Rep.mu (E := ⟨φ', E.H ++ [some ⟨i.size, ps.map (·.ev env)⟩], E.w.alloc (.cells (((parts.toList.map (·.2)).map (Act.eval ⟨tmps, []⟩)).flatMap (·.cells.toList)).toArray e)⟩) ⟨i.size, ps.map (·.ev env)⟩ E.H.length 0 ps.length (some ps.length) E.w.heap.size 0 ps.length h5 h4
      (.inl (by simp)) (Nat.le_refl _) (by
        simp only
        rw [rowSize_of (heap_alloc_new _ _)]
        have hf := flat_len hw
        rw [← q1] at hf
        simp only [List.size_toArray, hf, List.length_map, Nat.zero_add]
        exact Nat.le_refl _) (fun c hc => by cases hc; rfl)
    exact this
  · intro hcl
    have hx := Ext.of_heap (S := (· < E.H.length)) (E := E) (w := E.w.alloc (.cells (((parts.toList.map (·.2)).map (Act.eval ⟨tmps, []⟩)).flatMap (·.cells.toList)).toArray e)) rfl rfl rfl (by simp) (alloc_keep _ _) hok
    refine ⟨E.φ, _, _, _, run_val hrun, .inl rfl, hok.of_heap rfl rfl rfl (by simp) (alloc_keep _ _), ?_, he.mono hx, hx.sub (fun j hj => Nat.lt_of_lt_of_le hj hn)⟩
    have := Rep.sl (E := ⟨E.φ, E.H, E.w.alloc (.cells (((parts.toList.map (·.2)).map (Act.eval ⟨tmps, []⟩)).flatMap (·.cells.toList)).toArray e)⟩) (some ⟨E.w.heap.size, 0, none⟩) ps.length i.size (ps.map (·.ev env))
      (((parts.toList.map (·.2)).map (Act.eval ⟨tmps, []⟩)).flatMap (·.cells.toList)) E.w.heap.size 0 (by simp) hpos hw (by
        intro c hc
        obtain ⟨x, hx, hc⟩ := List.mem_flatMap.1 hc
        obtain ⟨s, hs, rfl⟩ := List.mem_map.1 hx
        exact hcl s hs c hc) (.inr ⟨rfl, by
        rintro ⟨id, blk, hl, hp⟩
        have := hok.lt hl hp
        omega⟩) q1 (by
        intro k v hk
        refine ⟨?_, q2 v (List.mem_of_getElem? hk)⟩
        rw [cell_of_row _ _ _ _ _ _ (heap_alloc_new _ _), Nat.zero_add]
        simpa using hk) (fun k v a hk ha => (q3 k v a hk ha).mono' hx)
    simpa using this

theorem mksl_left {n0 : Nat} (hn : n0 ≤ E.H.length) (hok : HOk E) (he : RepEnv E env tmps) {t e : TypeId} {i : TypeInfo} {z : Value} (ht : P.underlying t = some (.slice e)) (hi : P.info? e = some i) (hz : i.zero = some z)
    (hzs : z.cells.size = i.size) (hzo : zeroOk z = true) (hpos : 0 < i.size) {kl kc : IntKind} {l c : Int} (h0 : 0 ≤ l) (hlc : l ≤ c) (hbytes : (i.bytes : Int) * c ≤ 281474976710656) (h63 : c ≤ 9223372036854775807) :
    Left P n0 E tmps (do pure (Next.value (← Instr.makeSlice t (.int kl l) (.int kc c)))) (.mu E.H.length 0 l.toNat (some c.toNat)) env (E.H ++ [some ⟨i.size, List.replicate l.toNat (zeroAV z)⟩]) := by
  obtain ⟨z1, z2, z3⟩ := zero_rep E hzo
  obtain ⟨q1, q2, q3⟩ := rep_cells z1 z2
  have hrun := run_make (P := P) E.w t e i z ht hi hz kl kc l c h0 hlc hbytes h63
  have hw : ∀ x ∈ List.replicate l.toNat (zeroAV z), x.cells.length = i.size := by
    intro x hx
    rw [List.eq_of_mem_replicate hx, z3, hzs]
  have hfl := flat_len hw
  rw [List.length_replicate] at hfl
  have hmul : l.toNat * i.size ≤ c.toNat * i.size := Nat.mul_le_mul_right _ (by omega)
  obtain ⟨φ', h1, h2, h3, h4, h5⟩ := new_row (env := env) (tmps := tmps) (n0 := n0) hn hok he (w := E.w.alloc (.cells (madeCells z.cells (c.toNat * i.size)) e)) rfl rfl rfl (by simp) (alloc_keep _ _) E.w.heap.size (Nat.le_refl _)
    ⟨i.size, List.replicate l.toNat (zeroAV z)⟩ hpos hw (heap_alloc_new _ _) (by rw [Blk.flat, hfl, size_madeCells]; exact hmul) (fun k v b hv hb => by
      have hk : k < l.toNat * i.size := by have := lt_of_live' hb; rw [Blk.flat, hfl] at this; exact this
      have hj : k % i.size < i.size := Nat.mod_lt _ hpos
      have hbi : k / i.size < l.toNat := Nat.div_lt_of_lt_mul (by rw [Nat.mul_comm]; exact hk)
      have hfg := flat_get hw (i := k / i.size) (by simpa using hbi) (k % i.size) hj
      rw [show k / i.size * i.size + k % i.size = k from by rw [Nat.mul_comm]; exact Nat.div_add_mod k i.size] at hfg
      have hfg' : (List.replicate l.toNat (zeroAV z)).getD (k / i.size) .top = zeroAV z := by simp [List.getElem?_replicate, hbi]
      rw [hfg'] at hfg
      rw [Blk.flat] at hb
      simp only at hb
      rw [hfg] at hb
      have hvz : z.cells.toList[k % i.size]? = some v := by
        rw [madeCells] at hv
        rw [Array.getElem?_map, Array.getElem?_range] at hv
        rw [if_pos (by omega)] at hv
        simp only [Option.map_some, Option.some.injEq] at hv
        rw [← hv, hzs]
        have : k % i.size < z.cells.size := by omega
        simp [this]
      exact ⟨q2 v (List.mem_of_getElem? hvz), q3 _ v b hvz hb⟩)
  refine ⟨φ', _, _, _, run_val hrun, .inl rfl, h1, ?_, h2, h3⟩
  exact Rep.mu (E := ⟨φ', E.H ++ [some ⟨i.size, List.replicate l.toNat (zeroAV z)⟩], E.w.alloc (.cells (madeCells z.cells (c.toNat * i.size)) e)⟩) ⟨i.size, List.replicate l.toNat (zeroAV z)⟩ E.H.length 0 l.toNat (some c.toNat) E.w.heap.size 0 c.toNat h5 h4
    (.inl (by simp)) (by omega) (by
      simp only
      rw [rowSize_of (heap_alloc_new _ _), size_madeCells]; simp) (fun d hd => by cases hd; rfl)

end
end Go.Abs

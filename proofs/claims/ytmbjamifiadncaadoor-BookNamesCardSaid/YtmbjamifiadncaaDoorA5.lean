/- Operations that write or make memory do in the model what they say. -/
import Derived.Test.YtmbjamifiadncaaDoorA4
set_option linter.unusedVariables false
set_option linter.unusedSimpArgs false
namespace Go.Abs

section
variable {P : Program} {E : Emb} {env : Env} {tmps : Array Value}

theorem RepEnv.mono {E' : Emb} (he : RepEnv E env tmps) (hx : Ext (· < E.H.length) E E') : RepEnv E' env tmps := fun t => (he t).mono' hx

theorem look_scrub (id : Nat) (env : Env) (t : Nat) : look (scrub id env) t = if nref id (look env t) then look env t else .top := by
  induction env with
  | nil => cases h : nref id AV.top <;> simp [scrub, look, h]
  | cons p r ih =>
    obtain ⟨k, v⟩ := p
    simp only [scrub, List.map_cons, look]
    split
    · rfl
    · exact ih

theorem RepEnv.scrub {E' : Emb} {id : Nat} (he : RepEnv E env tmps) (hx : Ext (· ≠ id) E E') : RepEnv E' (Abs.scrub id env) tmps := by
  intro t
  rw [look_scrub]
  split
  · rename_i h; exact (he t).mono hx (nref_iff.1 h)
  · exact .top _

/-- What an appended or copied thing yields. -/
theorem src_sound (hok : HOk E) {wd : Nat} {tx : TypeId} {str : Bool} (hk : (str = false ∧ ∃ e', P.underlying tx = some (.slice e')) ∨ (str = true ∧ P.underlying tx = some .string ∧ wd = 1))
    {v : Value} {a : AV} (hr : Rep E v a) {ys : List AV} (h : srcEls E.H wd str a = some ys) :
    ∃ news : List Value, Go.Src P wd tx v ys.length news E.w ∧ (∀ y ∈ ys, y.cells.length = wd) ∧ news.length = (ys.flatMap AV.cells).length ∧
      ∀ (k : Nat) u b, news[k]? = some u → (ys.flatMap AV.cells)[k]? = some b → Rep E u b := by
  cases hr with
  | str s =>
    simp only [srcEls] at h
    split at h
    · rename_i hs
      cases h
      rcases hk with ⟨h1, _⟩ | ⟨_, hk, rfl⟩
      · rw [hs] at h1; cases h1
      · have hfl : (byteAVs s).flatMap AV.cells = byteAVs s := by
          unfold byteAVs
          generalize s.data.toList = l
          induction l with
          | nil => rfl
          | cons b l ih => simp only [List.map_cons, List.flatMap_cons, ih]; rfl
        have hln : (byteAVs s).length = s.size := by unfold byteAVs; rw [List.length_map, Array.length_toList]; rfl
        refine ⟨byteCells s, by rw [hln]; exact Go.Src.ofString E.w hk s, ?_, ?_, ?_⟩
        · intro y hy
          unfold byteAVs at hy
          obtain ⟨b, _, rfl⟩ := List.mem_map.1 hy
          rfl
        · rw [hfl, hln, byteCells_length]
        · intro k u b hk hb
          rw [hfl] at hb
          unfold byteCells at hk
          unfold byteAVs at hb
          rw [List.getElem?_map] at hk hb
          cases hx : s.data.toList[k]? with
          | none => simp [hx] at hk
          | some c => simp [hx] at hk hb; subst hk; subst hb; exact .int _ _
    · simp at h
  | nil =>
    simp only [srcEls] at h
    split at h
    · simp at h
    · rename_i hs
      cases h
      rcases hk with ⟨_, e', hk⟩ | ⟨h1, _⟩
      · exact ⟨[], Go.Src.ofNil E.w hk 0, by simp, rfl, fun k u b hk => by simp at hk⟩
      · exact absurd h1 hs
  | sl base cap wd' xs vs b o hcap hpos hw hcl hbase hlen hcell hrep =>
    simp only [srcEls] at h
    split at h
    · rename_i hs
      cases h
      obtain ⟨hs, rfl⟩ := hs
      rcases hk with ⟨_, e', hk⟩ | ⟨h1, _⟩
      · have hfl := flat_len hw
        rcases hbase with rfl | ⟨rfl, hm⟩
        · simp at hlen; subst hlen
          refine ⟨[], ?_, by simp, rfl, fun k u b hk => by simp at hk⟩
          cases base with
          | none => exact Go.Src.ofNil E.w hk cap
          | some ad => exact Go.Src.ofSlice E.w hk ad 0 cap [] (by simp) (fun j u hj => by simp at hj) (fun u hu => by simp at hu)
        · refine ⟨vs, Go.Src.ofSlice E.w hk ⟨b, o, none⟩ _ cap vs (by rw [hlen, hfl]) (fun j u hj => by rw [Addr.add_lit]; exact (hcell j u hj).1) ?_, hw, hlen, hrep⟩
          intro u hu
          obtain ⟨k, hk, rfl⟩ := List.getElem_of_mem hu
          exact (hcell k _ (List.getElem?_eq_getElem hk)).2
      · rw [hs] at h1; cases h1
    · simp at h
  | mu blk id off len oc bn q cap hlive hbn hq hlen hsz hoc =>
    simp only [srcEls, Option.bind_eq_some_iff] at h
    obtain ⟨blk', hb', h⟩ := h
    have hb2 := hrow_some hb'
    rw [hlive] at hb2; cases hb2
    split at h
    · rename_i hs
      cases h
      obtain ⟨hs, hwd, hle⟩ := hs
      rcases hk with ⟨_, e', hk⟩ | ⟨h1, _⟩
      · have hw := hok.wids id blk hlive
        have hfl : blk.flat.length = blk.xs.length * blk.wd := flat_len hw
        obtain ⟨c, e, r⟩ := hok.row id blk bn hlive hbn
        subst hwd
        have hl : ((blk.xs.drop off).take len).length = len := by simp; omega
        have hf : ((blk.xs.drop off).take len).flatMap AV.cells = (blk.flat.drop (off * blk.wd)).take (len * blk.wd) := by
          rw [flat_take (wd := blk.wd) (fun x hx => hw x (List.mem_of_mem_drop hx)), flat_drop hw]; rfl
        have hmul : (off + len) * blk.wd ≤ blk.xs.length * blk.wd := Nat.mul_le_mul_right _ hle
        have hmul' : (off + len) * blk.wd = off * blk.wd + len * blk.wd := Nat.add_mul ..
        have hfit := r.fits
        have hnl : ((c.toList.drop (off * blk.wd)).take (len * blk.wd)).length = len * blk.wd := by
          rw [List.length_take, List.length_drop, Array.length_toList]; omega
        have one : ∀ u ∈ (c.toList.drop (off * blk.wd)).take (len * blk.wd), u.oneCell' = true := by
          intro u hu
          obtain ⟨k, hk, rfl⟩ := List.getElem_of_mem hu
          rw [hnl] at hk
          refine r.one (off * blk.wd + k) _ (by omega) ?_
          rw [List.getElem_take, List.getElem_drop]
          simp
        refine ⟨(c.toList.drop (off * blk.wd)).take (len * blk.wd), ?_, fun y hy => hw y (List.mem_of_mem_drop (List.mem_of_mem_take hy)), ?_, ?_⟩
        · rw [hl]
          by_cases hz : len = 0
          · subst hz
            exact Go.Src.ofSlice E.w hk _ 0 cap _ (by simp) (fun j u hj => by simp at hj) (fun u hu => by simp at hu)
          · have hq' : q = off * blk.wd := hq.resolve_right (by omega)
            refine Go.Src.ofSlice E.w hk _ len cap _ hnl (fun j u hj => ?_) one
            rw [Addr.add_lit, hq']
            rw [cell_of_row _ _ _ _ _ _ r.heap]
            rw [List.getElem?_take] at hj
            split at hj
            · simpa using hj
            · simp at hj
        · rw [hf, hnl, List.length_take, List.length_drop]; omega
        · intro k u b hku hkb
          rw [hf] at hkb
          rw [List.getElem?_take] at hku hkb
          split at hku
          · rename_i hlt
            simp only [hlt, if_true] at hkb
            rw [List.getElem?_drop] at hku hkb
            exact r.rep _ u b (by simpa using hku) hkb
          · simp at hku
      · rw [hs] at h1; cases h1
    · simp at h
  | mu0 blk id off oc hlive hbn hoc =>
    simp only [srcEls, Option.bind_eq_some_iff] at h
    obtain ⟨blk', hb', h⟩ := h
    split at h
    · rename_i hs
      cases h
      rcases hk with ⟨_, e', hk⟩ | ⟨h1, _⟩
      · simp only [List.take_zero]
        exact ⟨[], Go.Src.ofNil E.w hk 0, by simp, rfl, fun k u b hk => by simp at hk⟩
      · rw [hs.1] at h1; cases h1
    · simp at h
  | dead v a id hr hd h1 =>
    cases a <;> simp [AV.ref] at hr
    · subst hr; simp [srcEls, hrow, hd] at h
    · simp [srcEls] at h
  | _ => simp [srcEls] at h

/-- In place. -/
theorem run_append_room_row (w : World) (t tx ty e : TypeId) (i : TypeInfo) (ht : P.underlying t = some (.slice e)) (hi : P.info? e = some i) (g sLen sCap : Nat) (cur : Array Value) (et : TypeId)
    (hg : w.heap[g]? = some (.cells cur et (0, 0))) (x : Value) (n : Nat) (news : List Value) (hs : Go.Src P i.size tx x n news w)
    (hroom : sLen + n ≤ sCap) (hfit : sLen * i.size + news.length ≤ cur.size) :
    (Builtin.append_ #[t, tx] ty #[.slice (some ⟨g, 0, none⟩) sLen sCap, x]).run P w =
      .ok (.slice (some ⟨g, 0, none⟩) (sLen + n) sCap) (w.setRow g (cur.toList.take (sLen * i.size) ++ news ++ cur.toList.drop (sLen * i.size + news.length)).toArray) := by
  have hst := run_storeCells_at P g (sLen * i.size) et news 0 cur w hg (by simpa using hfit) hs.one
  simp only [Nat.add_zero] at hst
  rcases hs.kind with ⟨e', hk⟩ | hk <;> simp [Builtin.append_, run_underlying ht, run_underlying hk, sizeOf, typeInfo, hi, hs.len, hroom, hs.cells, Addr.add_lit, hst]

theorem run_append_nothing' (w : World) (t tx ty e : TypeId) (i : TypeInfo) (ht : P.underlying t = some (.slice e)) (hi : P.info? e = some i)
    (x : Value) (hs : Go.Src P i.size tx x 0 [] w) :
    (Builtin.append_ #[t, tx] ty #[.slice none 0 0, x]).run P w = .ok (.slice none 0 0) w := by
  rcases hs.kind with ⟨e', hk⟩ | hk <;> simp [Builtin.append_, run_underlying ht, run_underlying hk, sizeOf, typeInfo, hi, hs.len, hs.cells]

/-- What an effect leaves. -/
def Left (P : Program) (n0 : Nat) (E : Emb) (tmps : Array Value) (s : Sem Next) (a : AV) (env' : Env) (H' : Heap) : Prop :=
  ∃ φ' w' nx v, s.run P E.w = .ok nx w' ∧ (nx = .value v ∨ (nx = .skip ∧ v = undef)) ∧ HOk ⟨φ', H', w'⟩ ∧ Rep ⟨φ', H', w'⟩ v a ∧ RepEnv ⟨φ', H', w'⟩ env' tmps ∧ Ext (· < n0) E ⟨φ', H', w'⟩

theorem run_val {s : Sem Value} {w w' : World} {v : Value} (hs : s.run P w = .ok v w') : (do pure (Next.value (← s)) : Sem Next).run P w = .ok (.value v) w' := by simp [hs]

theorem alloc_keep (w : World) (o : Obj) : ∀ b, b < w.heap.size → (w.alloc o).heap[b]? = w.heap[b]? := fun b hb => by
  show (w.heap.push o)[b]? = _
  rw [Array.getElem?_push, if_neg (by omega)]

theorem cells_get (v : Value) : (v.cells.toList.toArray) = v.cells := Array.toArray_toList ..

/-- A new row at the next block. -/
theorem new_row {n0 : Nat} (hn : n0 ≤ E.H.length) (hok : HOk E) (he : RepEnv E env tmps) {w : World} (os : w.os = E.w.os) (tape : w.tape = E.w.tape) (out : w.output = E.w.output) (size : E.w.heap.size ≤ w.heap.size)
    (keep : ∀ b, b < E.w.heap.size → w.heap[b]? = E.w.heap[b]?) (b : Nat) (hb : E.w.heap.size ≤ b) (blk : Blk) (hpos : 0 < blk.wd) (hw : ∀ x ∈ blk.xs, x.cells.length = blk.wd) {c : Array Value} {e : TypeId}
    (hh : w.heap[b]? = some (.cells c e (0, 0))) (hfit : blk.flat.length ≤ c.size)
    (hnew : ∀ (k : Nat) v a, c[k]? = some v → blk.flat[k]? = some a → v.oneCell' = true ∧ Rep E v a) :
    ∃ φ', HOk ⟨φ', E.H ++ [some blk], w⟩ ∧ RepEnv ⟨φ', E.H ++ [some blk], w⟩ env tmps ∧ Ext (· < n0) E ⟨φ', E.H ++ [some blk], w⟩ ∧ φ' E.H.length = some b ∧ (E.H ++ [some blk])[E.H.length]? = some (some blk) := by
  obtain ⟨h1, h2⟩ := hok.alloc os tape out size (some b) (fun b' hb' => by cases hb'; exact hb) keep blk hpos hw (.inr ⟨b, c, e, rfl, hh, hfit, hnew⟩)
  exact ⟨_, h1, he.mono h2, h2.sub (fun i hi => Nat.lt_of_lt_of_le hi hn), by simp, by simp⟩

theorem box_left {n0 : Nat} (hn : n0 ≤ E.H.length) (hok : HOk E) (he : RepEnv E env tmps) (t : TypeId) {x : Value} {a : AV} (hr : Rep E x a) (hf : a.fit = true) {n : Nat} (hl : a.cells.length = n) (hpos : 0 < n) :
    Left P n0 E tmps (do pure (Next.value (← Instr.box t x))) (.loc E.H.length 0 0) env (E.H ++ [some ⟨n, [a]⟩]) := by
  obtain ⟨q1, q2, q3⟩ := rep_cells hr hf
  have hflat : (⟨n, [a]⟩ : Blk).flat = a.cells := by simp [Blk.flat]
  obtain ⟨φ', h1, h2, h3, h4, h5⟩ := new_row (env := env) (tmps := tmps) (n0 := n0) hn hok he (w := E.w.alloc (.cells x.cells t)) rfl rfl rfl (by simp) (alloc_keep _ _) E.w.heap.size (Nat.le_refl _) ⟨n, [a]⟩ hpos
    (by simpa using hl) (c := x.cells) (e := t) (heap_alloc_new _ _) (by rw [hflat, ← q1]; simp)
    (fun k v b hv hb => by
      rw [hflat] at hb
      have hv' : x.cells.toList[k]? = some v := by simpa using hv
      exact ⟨q2 v (List.mem_of_getElem? hv'), q3 k v b hv' hb⟩)
  refine ⟨φ', _, _, .pointer (some ⟨E.w.heap.size, 0, none⟩), run_val ?_, .inl rfl, h1, ?_, h2, h3⟩
  · simp [Instr.box, newVar, newRow]
  · have := Rep.loc (E := ⟨φ', E.H ++ [some ⟨n, [a]⟩], E.w.alloc (.cells x.cells t)⟩) ⟨n, [a]⟩ E.H.length 0 0 E.w.heap.size h5 h4
    simpa using this

theorem upd_cells {x v : AV} {wd off n : Nat} (hx : x.cells.length = wd) (hv : v.cells.length = n) (hle : off + n ≤ wd) : (upd x wd off n v).cells = splice x.cells off v.cells := by
  unfold upd
  split
  · rename_i h
    obtain ⟨rfl, rfl⟩ := h
    unfold splice
    rw [List.take_zero, List.drop_eq_nil_of_le (by omega)]; simp
  · rfl

theorem flat_set {xs : List AV} {wd : Nat} (h : ∀ x ∈ xs, x.cells.length = wd) {i : Nat} (hi : i < xs.length) {y : AV} (hy : y.cells.length = wd) :
    (xs.set i y).flatMap AV.cells = splice (xs.flatMap AV.cells) (i * wd) y.cells := by
  induction xs generalizing i with
  | nil => simp at hi
  | cons x xs ih =>
    have hx := h x (by simp)
    cases i with
    | zero =>
      simp only [List.set_cons_zero, List.flatMap_cons, splice, Nat.zero_mul, List.take_zero, List.nil_append, Nat.zero_add]
      rw [hy, ← hx, List.drop_left]
    | succ i =>
      simp only [List.set_cons_succ, List.flatMap_cons]
      rw [ih (fun z hz => h z (by simp [hz])) (by simpa using hi)]
      unfold splice
      have e : (i + 1) * wd = x.cells.length + i * wd := by rw [hx, Nat.add_mul]; omega
      rw [e, List.take_length_add_append, Nat.add_assoc, List.drop_length_add_append]
      simp [List.append_assoc]

theorem splice_splice {cs as bs : List AV} {p off : Nat} (hp : p + as.length ≤ cs.length) (h : (cs.drop p).take as.length = as) (hoff : off + bs.length ≤ as.length) :
    splice cs p (splice as off bs) = splice cs (p + off) bs := by
  have e1 : cs = cs.take p ++ (as ++ cs.drop (p + as.length)) := by
    conv => lhs; rw [← List.take_append_drop p cs, ← List.take_append_drop as.length (cs.drop p), h]
    simp [List.append_assoc, List.drop_drop]
  have l1 : (splice as off bs).length = as.length := by simp [splice]; omega
  have lp : (cs.take p).length = p := by simp; omega
  generalize cs.take p = c1 at e1 lp
  generalize cs.drop (p + as.length) = c2 at e1
  subst e1
  subst lp
  unfold splice at l1 ⊢
  rw [l1]
  have a1 : (c1 ++ (as ++ c2)).take c1.length = c1 := List.take_left
  have a2 : (c1 ++ (as ++ c2)).drop (c1.length + as.length) = c2 := by rw [List.drop_length_add_append]; exact List.drop_left
  have a3 : (c1 ++ (as ++ c2)).take (c1.length + off) = c1 ++ as.take off := by rw [List.take_length_add_append, List.take_append_of_le_length (by omega)]
  have a4 : (c1 ++ (as ++ c2)).drop (c1.length + off + bs.length) = as.drop (off + bs.length) ++ c2 := by
    rw [Nat.add_assoc, List.drop_length_add_append, List.drop_append_of_le_length (by omega)]
  rw [a1, a2, a3, a4]
  simp [List.append_assoc]

theorem store_left {n0 : Nat} (hn : n0 ≤ E.H.length) (hok : HOk E) (he : RepEnv E env tmps) {t : TypeId} {p x : Value} {id i off n : Nat} {a : AV} (hp : Rep E p (.loc id i off)) (hr : Rep E x a) (hs : sizeD P t = some n)
    {blk : Blk} (hb : hrow E.H id = some blk) (hi : i < blk.xs.length) (hf : a.fit = true) (hl : a.cells.length = n) (hle : off + n ≤ blk.wd) :
    Left P n0 E tmps (do Instr.storeAt t p x; pure .skip) .top env (E.H.set id (some ⟨blk.wd, blk.xs.set i (upd (blk.xs.getD i .top) blk.wd off n a)⟩)) := by
  have hlive := hrow_some hb
  unfold sizeD at hs
  simp only [Option.map_eq_some_iff] at hs
  obtain ⟨inf, hinf, hsz⟩ := hs
  cases hp with
  | loc blk' _ _ _ bn hlive' hbn =>
    rw [hlive] at hlive'; cases hlive'
    obtain ⟨q1, q2, q3⟩ := rep_cells hr hf
    obtain ⟨c, e, r⟩ := hok.row id blk bn hlive hbn
    have hw := hok.wids id blk hlive
    have hxl : (blk.xs.getD i .top).cells.length = blk.wd := hw _ (getD_mem hi)
    have huc := upd_cells hxl hl hle
    have hul : (upd (blk.xs.getD i .top) blk.wd off n a).cells.length = blk.wd := by rw [huc]; simp only [splice, List.length_append, List.length_take, List.length_drop]; omega
    have hfl : blk.flat.length = blk.xs.length * blk.wd := flat_len hw
    have hmul : (i + 1) * blk.wd ≤ blk.xs.length * blk.wd := Nat.mul_le_mul_right _ hi
    have hmul' : (i + 1) * blk.wd = i * blk.wd + blk.wd := by rw [Nat.add_mul]; omega
    have hfits := r.fits
    have hat : (blk.flat.drop (i * blk.wd)).take (blk.xs.getD i .top).cells.length = (blk.xs.getD i .top).cells := by
      apply List.ext_getElem?
      intro k
      rw [List.getElem?_take, List.getElem?_drop, hxl]
      split
      · rename_i hk; exact flat_get hw hi k hk
      · rename_i hk; rw [List.getElem?_eq_none (by omega)]
    have hflat' : (blk.xs.set i (upd (blk.xs.getD i .top) blk.wd off n a)).flatMap AV.cells = splice blk.flat (i * blk.wd + off) a.cells := by
      rw [flat_set hw hi hul, huc]
      exact splice_splice (by rw [hxl]; show _ ≤ blk.flat.length; omega) hat (by omega)
    have hst := run_storeCells_at P bn (i * blk.wd + off) e x.cells.toList 0 c E.w r.heap (by rw [q1]; omega) q2
    simp only [Nat.add_zero] at hst
    have hsp : splice blk.flat (i * blk.wd + off) a.cells = blk.flat.take (i * blk.wd + off) ++ a.cells ++ blk.flat.drop (i * blk.wd + off + a.cells.length) := rfl
    obtain ⟨h1, h2⟩ := hok.write hlive hbn r (c.toList.take (i * blk.wd + off) ++ x.cells.toList ++ c.toList.drop (i * blk.wd + off + x.cells.toList.length)).toArray
      (blk.xs.set i (upd (blk.xs.getD i .top) blk.wd off n a)) (by simp; simp at q1; omega)
      (fun y hy => by
        rcases List.mem_or_eq_of_mem_set hy with hy | rfl
        · exact hw y hy
        · exact hul)
      (by rw [hflat', hsp]; simp; simp at q1; omega)
      (fun k v b hv hb => by
        rw [hflat', hsp, List.append_assoc] at hb
        have hv' : (c.toList.take (i * blk.wd + off) ++ (x.cells.toList ++ c.toList.drop (i * blk.wd + off + x.cells.toList.length)))[k]? = some v := by simpa [List.append_assoc] using hv
        have tc : (c.toList.take (i * blk.wd + off)).length = i * blk.wd + off := by simp; omega
        have tf : (blk.flat.take (i * blk.wd + off)).length = i * blk.wd + off := by simp; omega
        rcases Nat.lt_or_ge k (i * blk.wd + off) with hk | hk
        · rw [List.getElem?_append_left (by omega)] at hv' hb
          rw [List.getElem?_take] at hv' hb
          simp only [hk, if_true] at hv' hb
          have hv'' : c[k]? = some v := by simpa using hv'
          exact ⟨r.one k v (by omega) hv'', r.rep k v b hv'' hb⟩
        · rw [List.getElem?_append_right (by omega), tc] at hv'
          rw [List.getElem?_append_right (by omega), tf] at hb
          rcases Nat.lt_or_ge (k - (i * blk.wd + off)) x.cells.toList.length with hk' | hk'
          · rw [List.getElem?_append_left hk'] at hv'
            rw [List.getElem?_append_left (by omega)] at hb
            exact ⟨q2 v (List.mem_of_getElem? hv'), q3 _ v b hv' hb⟩
          · rw [List.getElem?_append_right hk'] at hv'
            rw [List.getElem?_append_right (by omega)] at hb
            rw [List.getElem?_drop] at hv' hb
            rw [q1] at hv'
            have hv'' : c[i * blk.wd + off + a.cells.length + (k - (i * blk.wd + off) - a.cells.length)]? = some v := by simpa using hv'
            exact ⟨r.one _ v (lt_of_live' hb) hv'', r.rep _ v b hv'' hb⟩)
    refine ⟨E.φ, _, .skip, undef, ?_, .inr ⟨rfl, rfl⟩, h1, .top _, he.mono h2, h2.sub (fun j hj => Nat.lt_of_lt_of_le hj hn)⟩
    have hsz' : x.cells.size = inf.size := by rw [← Array.length_toList, q1, hl, hsz]
    simp [Instr.storeAt, Instr.sureAddr, storeVar, sizeOf, typeInfo, hinf, hsz', hst]
  | dead v a id' hr' hd h1 =>
    simp [AV.ref] at hr'; subst hr'
    rw [hlive] at hd; cases hd

end
end Go.Abs

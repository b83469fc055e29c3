/- Ghost steps: what a row holds may be told as a value once it is no longer written; a nil may be told as an empty row. -/
import Derived.Test.YtmbjamifiadncaaDoorA12
set_option linter.unusedVariables false
set_option linter.unusedSimpArgs false
namespace Go.Abs

/-- The row id told as a value. -/
def frz (id : Nat) (b : Blk) : AV → AV
  | .mu i off len oc => if i = id then (if off + len ≤ b.xs.length then .sl b.wd ((b.xs.drop off).take len) else .top) else .mu i off len oc
  | .loc i k off => if i = id then (if k < b.xs.length then .ro (b.xs.getD k .top) off else .top) else .loc i k off
  | .agg cs => .agg (cs.map (frz id b))
  | .tup cs => .tup (cs.map (frz id b))
  | .fn f cs => .fn f (cs.map (frz id b))
  | .bfn f cs => .bfn f (cs.map (frz id b))
  | .top => .top
  | .int k n => .int k n
  | .bool b => .bool b
  | .str s => .str s
  | .nil => .nil
  | .lit v => .lit v
  | .sl wd xs => .sl wd xs
  | .ro x off => .ro x off

section
variable {id : Nat} {b : Blk}
theorem frz_ref {a : AV} (h : Ref (· ≠ id) a) : frz id b a = a := by
  induction h with
  | top => simp only [frz]
  | int k n => simp only [frz]
  | bool b => simp only [frz]
  | str s => simp only [frz]
  | nil => simp only [frz]
  | lit v => simp only [frz]
  | sl wd xs => simp only [frz]
  | ro x off => simp only [frz]
  | mu i off len oc h => simp only [frz]; rw [if_neg h]
  | loc i k off h => simp only [frz]; rw [if_neg h]
  | agg cs h ih => simp only [frz]; rw [List.map_congr_left (g := fun x => x) ih]; simp
  | tup cs h ih => simp only [frz]; rw [List.map_congr_left (g := fun x => x) ih]; simp
  | fn f cs h ih => simp only [frz]; rw [List.map_congr_left (g := fun x => x) ih]; simp
  | bfn f cs h ih => simp only [frz]; rw [List.map_congr_left (g := fun x => x) ih]; simp
theorem frz_cl {a : AV} (h : Cl a) : frz id b a = a := frz_ref h.ref
theorem frz_cells (a : AV) : (frz id b a).cells = a.cells.map (frz id b) := by
  cases a
  case mu i off len oc =>
    simp only [frz, cells_mu, List.map_cons, List.map_nil]
    by_cases h : i = id
    · simp only [h, if_true]; split <;> rfl
    · simp only [h, if_false]; rfl
  case loc i k off =>
    simp only [frz, cells_loc, List.map_cons, List.map_nil]
    by_cases h : i = id
    · simp only [h, if_true]; split <;> rfl
    · simp only [h, if_false]; rfl
  all_goals simp only [frz, AV.cells, List.map_cons, List.map_nil]
end

def frzB (id : Nat) (b : Blk) (x : Blk) : Blk := ⟨x.wd, x.xs.map (frz id b)⟩
def frzH (id : Nat) (b : Blk) (H : Heap) : Heap := (H.map (Option.map (frzB id b))).set id none
def frzE (id : Nat) (b : Blk) (env : Env) : Env := env.map fun p => (p.1, frz id b p.2)

theorem frzB_flat (id : Nat) (b x : Blk) : (frzB id b x).flat = x.flat.map (frz id b) := by
  obtain ⟨wd, xs⟩ := x
  simp only [frzB, Blk.flat]
  induction xs with
  | nil => rfl
  | cons x xs ih => simp only [List.map_cons, List.flatMap_cons, List.map_append, frz_cells, ih]

theorem frzH_get (id : Nat) (b : Blk) (H : Heap) (j : Nat) : (frzH id b H)[j]? = if j = id then (if j < H.length then some none else none) else (H[j]?).map (Option.map (frzB id b)) := by
  unfold frzH
  rw [List.getElem?_set]
  by_cases h : id = j
  · subst h; simp
  · rw [if_neg h, if_neg (fun e => h e.symm)]; simp

theorem frzH_live {id : Nat} {b : Blk} {H : Heap} {j : Nat} {x : Blk} (h : (frzH id b H)[j]? = some (some x)) : j ≠ id ∧ ∃ y, H[j]? = some (some y) ∧ x = frzB id b y := by
  rw [frzH_get] at h
  split at h
  · split at h <;> simp at h
  · rename_i hj
    cases hy : H[j]? with
    | none => simp [hy] at h
    | some o =>
      cases o with
      | none => simp [hy] at h
      | some y => simp [hy] at h; exact ⟨hj, y, rfl, h.symm⟩

theorem frz_ext {E : Emb} {id : Nat} {b : Blk} : Ext All E ⟨E.φ, frzH id b E.H, E.w⟩ :=
  ⟨rfl, rfl, rfl, Nat.le_refl _, fun i _ hi => by simp [frzH]; exact hi, fun _ _ _ => rfl,
    fun i blk' _ _ h => by obtain ⟨_, y, h1, h2⟩ := frzH_live h; exact ⟨y, h1, by rw [h2]; rfl⟩,
    fun _ _ _ _ _ _ _ => rfl, fun bb _ ⟨j, x, h, hp⟩ => by obtain ⟨_, y, h1, h2⟩ := frzH_live h; exact ⟨j, y, h1, hp⟩, fun _ _ _ => rfl⟩

theorem flat_drop_take {b : Blk} (hw : ∀ x ∈ b.xs, x.cells.length = b.wd) (off len k : Nat) (h : off + len ≤ b.xs.length) (hk : k < len * b.wd) :
    (((b.xs.drop off).take len).flatMap AV.cells)[k]? = b.flat[off * b.wd + k]? := by
  have e : b.flat = (b.xs.take off).flatMap AV.cells ++ (((b.xs.drop off).take len).flatMap AV.cells ++ ((b.xs.drop off).drop len).flatMap AV.cells) := by
    rw [← List.flatMap_append, List.take_append_drop, ← List.flatMap_append, List.take_append_drop]; rfl
  have hl : ∀ (l : List AV), (∀ x ∈ l, x.cells.length = b.wd) → (l.flatMap AV.cells).length = l.length * b.wd := by
    intro l
    induction l with
    | nil => simp
    | cons x l ih =>
      intro h
      rw [List.flatMap_cons, List.length_append, ih (fun y hy => h y (by simp [hy])), h x (by simp), List.length_cons, Nat.add_mul]
      omega
  have h1 : ((b.xs.take off).flatMap AV.cells).length = off * b.wd := by
    rw [hl _ (fun x hx => hw x (List.mem_of_mem_take hx)), List.length_take, Nat.min_eq_left (by omega)]
  have h2 : (((b.xs.drop off).take len).flatMap AV.cells).length = len * b.wd := by
    rw [hl _ (fun x hx => hw x (List.mem_of_mem_drop (List.mem_of_mem_take hx))), List.length_take, List.length_drop, Nat.min_eq_left (by omega)]
  rw [e, List.getElem?_append_right (by omega), h1, Nat.add_sub_cancel_left, List.getElem?_append_left (by omega)]

theorem cells_len_flat {wd : Nat} {l : List AV} (h : ∀ x ∈ l, x.cells.length = wd) : (l.flatMap AV.cells).length = l.length * wd := by
  induction l with
  | nil => simp
  | cons x l ih =>
    rw [List.flatMap_cons, List.length_append, ih (fun y hy => h y (by simp [hy])), h x (by simp), List.length_cons, Nat.add_mul]
    omega

/-- A stretch of cells of a row. -/
theorem row_vals {E : Emb} {bl : Nat} {b : Blk} {c : Array Value} {e : TypeId} (r : RowOk E bl b c e) (q n : Nat) (h : q + n ≤ b.flat.length) :
    ∃ vs : List Value, vs.length = n ∧ (∀ (k : Nat) v, vs[k]? = some v → E.w.cell? ⟨bl, q + k, none⟩ = some v ∧ v.oneCell' = true) ∧ (∀ (k : Nat) v a, vs[k]? = some v → b.flat[q + k]? = some a → Rep E v a) := by
  have hf := r.fits
  refine ⟨(c.toList.drop q).take n, by simp; omega, ?_, ?_⟩
  · intro k v hv
    have hlt := lt_of_live' hv
    simp at hlt
    have hv' : c[q + k]? = some v := by
      rw [List.getElem?_take, if_pos (by omega), List.getElem?_drop] at hv
      simpa using hv
    refine ⟨?_, r.one (q + k) v (by omega) hv'⟩
    simp [World.cell?, r.heap, hv']
  · intro k v a hv ha
    have hlt := lt_of_live' hv
    simp at hlt
    have hv' : c[q + k]? = some v := by
      rw [List.getElem?_take, if_pos (by omega), List.getElem?_drop] at hv
      simpa using hv
    exact r.rep (q + k) v a hv' ha

theorem frz_rep {E : Emb} (hok : HOk E) {id : Nat} {b : Blk} (hl : E.H[id]? = some (some b)) (hcl : ∀ c ∈ b.flat, Cl c) {v : Value} {a : AV} (hr : Rep E v a) : Rep ⟨E.φ, frzH id b E.H, E.w⟩ v (frz id b a) := by
  have hx := frz_ext (E := E) (id := id) (b := b)
  have leaf : ∀ {v a}, Rep E v a → Ref (· ≠ id) a → Rep ⟨E.φ, frzH id b E.H, E.w⟩ v (frz id b a) := by
    intro v a h hn
    rw [frz_ref hn]
    exact h.mono hx (hn.mono fun _ _ => trivial)
  have clr : ∀ {v a}, Rep E v a → Cl a → Rep ⟨E.φ, frzH id b E.H, E.w⟩ v a := fun h hc => h.mono hx hc.ref
  have hnm : ∀ bl, E.φ id = some bl → ¬ (Emb.mk E.φ (frzH id b E.H) E.w).Mut bl := by
    intro bl hb ⟨j, x, h, hp⟩
    obtain ⟨h0, y, h1, _⟩ := frzH_live h
    exact h0 (hok.inj _ _ _ _ bl h1 hl hp hb)
  have hpos := hok.wpos id b hl
  have hwd := hok.wids id b hl
  induction hr with
  | top v => simp only [frz]; exact .top _
  | int k n => exact leaf (.int k n) (.int k n)
  | bool b => exact leaf (.bool b) (.bool b)
  | str s => exact leaf (.str s) (.str s)
  | nil => exact leaf .nil .nil
  | lit v => exact leaf (.lit v) (.lit v)
  | sl base cap wd xs vs bl o hcap hp hw hc hbase hlen hcell hrep ih => exact leaf (.sl base cap wd xs vs bl o hcap hp hw hc hbase hlen hcell hrep) (.sl wd xs)
  | ro x off bl o vs hb hp hc hlen hcell hrep ih => exact leaf (.ro x off bl o vs hb hp hc hlen hcell hrep) (.ro x off)
  | mu blk i off len oc bl q cap hlive hb hq hlen hsz hoc =>
    by_cases hi : i = id
    · subst hi
      rw [hl] at hlive
      cases hlive
      simp only [frz, if_true]
      split
      · rename_i hle
        have hcl' : ∀ c ∈ ((b.xs.drop off).take len).flatMap AV.cells, Cl c := by
          intro c hc
          obtain ⟨x, hx, hc⟩ := List.mem_flatMap.1 hc
          exact hcl c (List.mem_flatMap.2 ⟨x, List.mem_of_mem_drop (List.mem_of_mem_take hx), hc⟩)
        have hlen2 : ((b.xs.drop off).take len).length = len := by simp; omega
        have hw2 : ∀ x ∈ (b.xs.drop off).take len, x.cells.length = b.wd := fun x hx => hwd x (List.mem_of_mem_drop (List.mem_of_mem_take hx))
        rcases Nat.eq_zero_or_pos len with h0 | h0
        · have : (b.xs.drop off).take len = [] := by rw [h0]; simp
          rw [this, h0]
          exact .sl _ cap b.wd [] [] bl q (Nat.zero_le _) hpos (by simp) (by simp) (.inl rfl) rfl (fun k v hk => by simp at hk) (fun k v a hk => by simp at hk)
        · have hq' : q = off * b.wd := by
            rcases hq with hq | ⟨hq, _⟩
            · exact hq
            · omega
          subst hq'
          obtain ⟨c, e, r⟩ := hok.row i b bl hl hb
          have hfl : b.flat.length = b.xs.length * b.wd := cells_len_flat hwd
          have hle2 : off * b.wd + len * b.wd ≤ b.flat.length := by rw [hfl, ← Nat.add_mul]; exact Nat.mul_le_mul_right _ hle
          obtain ⟨vs, v1, v2, v3⟩ := row_vals r (off * b.wd) (len * b.wd) hle2
          have key := Rep.sl (E := ⟨E.φ, frzH i b E.H, E.w⟩) (some ⟨bl, off * b.wd, none⟩) cap b.wd ((b.xs.drop off).take len) vs bl (off * b.wd) (by rw [hlen2]; exact hlen) hpos hw2 hcl' (.inr ⟨rfl, hnm bl hb⟩) (by rw [cells_len_flat hw2, hlen2, v1]) v2 (by
            intro k v a hk ha
            have hkl := lt_of_live' hk
            rw [v1] at hkl
            have ha' := ha
            rw [flat_drop_take hwd off len k hle hkl] at ha'
            exact clr (v3 k v a hk ha') (hcl' a (List.mem_of_getElem? ha)))
          rw [hlen2] at key
          exact key
      · exact .top _
    · exact leaf (.mu blk i off len oc bl q cap hlive hb hq hlen hsz hoc) (.mu i off len oc hi)
  | mu0 blk i off oc hlive hb hoc =>
    by_cases hi : i = id
    · subst hi
      rw [hl] at hlive
      cases hlive
      simp only [frz, if_true]
      split
      · simp only [List.take_zero]
        exact .sl none 0 b.wd [] [] 0 0 (Nat.zero_le _) hpos (by simp) (by simp) (.inl rfl) rfl (fun k v hk => by simp at hk) (fun k v a hk => by simp at hk)
      · exact .top _
    · exact leaf (.mu0 blk i off oc hlive hb hoc) (.mu i off 0 oc hi)
  | loc blk i k off bl hlive hb =>
    by_cases hi : i = id
    · subst hi
      rw [hl] at hlive
      cases hlive
      simp only [frz, if_true]
      split
      · rename_i hk
        obtain ⟨c, e, r⟩ := hok.row i b bl hl hb
        have hfl : b.flat.length = b.xs.length * b.wd := cells_len_flat hwd
        have hxc : (b.xs.getD k .top).cells = ((b.xs.drop k).take 1).flatMap AV.cells := by
          rw [List.getD_eq_getElem?_getD, List.getElem?_eq_getElem hk, Option.getD_some, List.drop_eq_getElem_cons hk, List.take_succ_cons]
          simp
        have hmem : b.xs.getD k .top ∈ b.xs := by rw [List.getD_eq_getElem?_getD, List.getElem?_eq_getElem hk, Option.getD_some]; exact List.getElem_mem hk
        have hle2 : k * b.wd + 1 * b.wd ≤ b.flat.length := by rw [hfl, ← Nat.add_mul]; exact Nat.mul_le_mul_right _ hk
        obtain ⟨vs, v1, v2, v3⟩ := row_vals r (k * b.wd) (1 * b.wd) hle2
        rw [Nat.one_mul] at v1
        have hcl2 : ∀ c ∈ (b.xs.getD k .top).cells, Cl c := fun c hc => hcl c (List.mem_flatMap.2 ⟨_, hmem, hc⟩)
        exact .ro (b.xs.getD k .top) off bl (k * b.wd) vs (hnm bl hb) (by rw [hwd _ hmem]; exact hpos) hcl2 (by rw [hwd _ hmem, v1]) v2 (by
          intro j v a hj ha
          have hjl := lt_of_live' hj
          rw [v1] at hjl
          refine clr (v3 j v a hj ?_) (hcl2 a (List.mem_of_getElem? ha))
          rw [← flat_drop_take hwd k 1 j hk (by omega), ← hxc]
          exact ha)
      · exact .top _
    · exact leaf (.loc blk i k off bl hlive hb) (.loc i k off hi)
  | dead v a i hr hd h1 =>
    have hi : i ≠ id := by rintro rfl; rw [hl] at hd; simp at hd
    have hn : Ref (· ≠ id) a := by
      cases a <;> simp [AV.ref] at hr
      · subst hr; exact .mu _ _ _ _ hi
      · subst hr; exact .loc _ _ _ hi
    exact leaf (.dead v a i hr hd h1) hn
  | agg vs cs hlen h1 hrep ih =>
    simp only [frz]
    exact .agg vs _ (by simp [hlen]) h1 (fun k v a hk ha => by
      simp at ha
      obtain ⟨a0, h0, rfl⟩ := ha
      exact ih k v a0 hk h0)
  | tup vs cs hlen hrep ih =>
    simp only [frz]
    exact .tup vs _ (by simp [hlen]) (fun k v a hk ha => by
      simp at ha
      obtain ⟨a0, h0, rfl⟩ := ha
      exact ih k v a0 hk h0)
  | fn f vs cs hlen hrep ih =>
    simp only [frz]
    exact .fn f vs _ (by simp [hlen]) (fun k v a hk ha => by
      simp at ha
      obtain ⟨a0, h0, rfl⟩ := ha
      exact ih k v a0 hk h0)
  | bfn f vs cs hlen hrep ih =>
    simp only [frz]
    exact .bfn f vs _ (by simp [hlen]) (fun k v a hk ha => by
      simp at ha
      obtain ⟨a0, h0, rfl⟩ := ha
      exact ih k v a0 hk h0)

theorem frz_ok {E : Emb} (hok : HOk E) {id : Nat} {b : Blk} (hl : E.H[id]? = some (some b)) (hcl : ∀ c ∈ b.flat, Cl c) : HOk ⟨E.φ, frzH id b E.H, E.w⟩ := by
  refine ⟨fun j x h => ?_, fun j x h => ?_, fun j x bl h hp => ?_, fun j x h hp => ?_, fun i j x y bl h1 h2 p1 p2 => ?_⟩
  · obtain ⟨_, y, h1, rfl⟩ := frzH_live h; exact hok.wpos j y h1
  · obtain ⟨_, y, h1, rfl⟩ := frzH_live h
    intro z hz
    simp only [frzB, List.mem_map] at hz
    obtain ⟨z0, hz0, rfl⟩ := hz
    rw [frz_cells, List.length_map]; exact hok.wids j y h1 z0 hz0
  · obtain ⟨_, y, h1, rfl⟩ := frzH_live h
    obtain ⟨c, e, r⟩ := hok.row j y bl h1 hp
    refine ⟨c, e, r.heap, by rw [frzB_flat, List.length_map]; exact r.fits, fun k v hk hv => r.one k v (by rw [frzB_flat, List.length_map] at hk; exact hk) hv, fun k v a hk ha => ?_⟩
    rw [frzB_flat] at ha
    simp at ha
    obtain ⟨a0, h0, rfl⟩ := ha
    exact frz_rep hok hl hcl (r.rep k v a0 hk h0)
  · obtain ⟨_, y, h1, rfl⟩ := frzH_live h
    simp [frzB, hok.emp j y h1 hp]
  · obtain ⟨_, x', h1, _⟩ := frzH_live h1
    obtain ⟨_, y', h2, _⟩ := frzH_live h2
    exact hok.inj i j _ _ bl h1 h2 p1 p2

theorem look_frzE (id : Nat) (b : Blk) (env : Env) (t : Nat) : look (frzE id b env) t = frz id b (look env t) := by
  induction env with
  | nil => simp only [frzE, List.map_nil, look, frz]
  | cons p env ih =>
    simp only [frzE, List.map_cons, look]
    split
    · rfl
    · exact ih

section
variable {x : Cx} {todo : List AItem} {env : Env} {H : Heap} {R : AV → Heap → Prop}

theorem Safe.freezeG {id : Nat} {b : Blk} (hid : x.n0 ≤ id) (hl : H[id]? = some (some b)) (hcl : ∀ c ∈ b.flat, Cl c) (h : Safe x todo (frzE id b env) (frzH id b H) R) : Safe x todo env H R := by
  intro φ w tmps bf k cs hg hn hb hk ht hsz hok he
  have hok' := frz_ok hok hl hcl
  obtain ⟨v, w', fr, r, φ', H', q1, q2, q3, q4, q5, q6⟩ := h φ w tmps bf k cs hg (by simp [frzH]; exact hn) hb hk ht hsz hok' (fun t => by rw [look_frzE]; exact frz_rep hok hl hcl (he t))
  exact ⟨v, w', fr, r, φ', H', q1, q2, q3, q4, (frz_ext.sub fun _ _ => trivial).trans q5, q6⟩

def frzL (id : Nat) (b : Blk) (L : Heap) : Heap := L.map (Option.map (frzB id b))
theorem frzL_nil (id : Nat) (b : Blk) : frzL id b [] = [] := rfl
theorem frzL_cons (id : Nat) (b : Blk) (x : Blk) (L : Heap) : frzL id b (some x :: L) = some ⟨x.wd, x.xs.map (frz id b)⟩ :: frzL id b L := rfl
theorem frzL_none (id : Nat) (b : Blk) (L : Heap) : frzL id b (none :: L) = none :: frzL id b L := rfl

theorem blk_frz {id : Nat} {b y : Blk} (h : ∀ a ∈ y.flat, Ref (· ≠ id) a) : frzB id b y = y := by
  obtain ⟨wd, xs⟩ := y
  simp only [frzB, Blk.mk.injEq, true_and]
  rw [List.map_congr_left (g := fun x => x)]
  · simp
  · intro a ha
    have hc : ∀ c ∈ a.cells, Ref (· ≠ id) c := fun c hc => h c (List.mem_flatMap.2 ⟨a, ha, hc⟩)
    cases a
    case agg cs => exact frz_ref (.agg cs hc)
    all_goals exact frz_ref (hc _ (by simp [AV.cells]))

theorem frzH_hap (hH : HRefs H) (i : Nat) (b : Blk) (L : Heap) : frzH (lid H i) b (hap H L) = hap H ((frzL (lid H i) b L).set i none) := by
  unfold frzH hap
  rw [List.map_append]
  have : H.map (Option.map (frzB (lid H i) b)) = H := by
    rw [List.map_congr_left (g := fun x => x)]
    · simp
    · intro o ho
      obtain ⟨j, hj, rfl⟩ := List.getElem_of_mem ho
      cases hy : H[j] with
      | none => rfl
      | some y =>
        simp only [Option.map_some]
        rw [blk_frz]
        intro a ha
        refine (hH j y (by rw [List.getElem?_eq_getElem hj, hy]) a ha).mono fun k hk => ?_
        show k ≠ lid H i
        unfold lid; omega
  rw [this, List.set_append_right _ _ (by simp [lid]), show lid H i - H.length = i by simp [lid]]
  rfl

/-- The call's own i-th row told as a value. -/
theorem Safe.freeze (i : Nat) {L : Heap} {b : Blk} (hH : HRefs H) (hx : x.n0 = H.length) (hl : L[i]? = some (some b)) (hcl : ∀ c ∈ b.flat, Cl c)
    (h : Safe x todo (frzE (lid H i) b env) (hap H ((frzL (lid H i) b L).set i none)) R) : Safe x todo env (hap H L) R := by
  refine Safe.freezeG (id := lid H i) (b := b) (by rw [hx]; exact lid_ge H i) ?_ hcl ?_
  · unfold hap lid
    rw [List.getElem?_append_right (by omega), Nat.add_sub_cancel_left]; exact hl
  · rw [frzH_hap hH]; exact h

theorem frzE_nil (id : Nat) (b : Blk) : frzE id b [] = [] := rfl
theorem frzE_cons (id : Nat) (b : Blk) (t : Nat) (a : AV) (env : Env) : frzE id b ((t, a) :: env) = (t, frz id b a) :: frzE id b env := rfl

/-- A nil told as an empty row. -/
theorem Safe.nilrow (t wd : Nat) {L : Heap} (hwd : 0 < wd) (ht : look env t = .nil) (h : Safe x todo ((t, .mu (lid H L.length) 0 0 none) :: env) (hap H (L ++ [some ⟨wd, []⟩])) R) : Safe x todo env (hap H L) R := by
  intro φ w tmps bf k cs hg hn hb hk htd hsz hok he
  obtain ⟨hok', hx⟩ := hok.alloc (w := w) rfl rfl rfl (Nat.le_refl _) none (by simp) (fun _ _ => rfl) ⟨wd, []⟩ hwd (by simp) (.inl ⟨rfl, rfl⟩)
  simp only [hap, List.append_assoc] at hok' hx
  obtain ⟨v, w', fr, r, φ', H', q1, q2, q3, q4, q5, q6⟩ := h _ w tmps bf k cs hg (by simp only [hap, List.length_append] at hn ⊢; omega) hb hk htd hsz (by simpa [hap] using hok') (fun j => by
    simp only [look]
    split
    · rename_i hj
      subst hj
      have h0 := he t
      rw [ht] at h0
      have hv : tmps.getD t undef = .slice none 0 0 := by
        generalize tmps.getD t undef = u at h0
        cases h0 with
        | nil => rfl
        | dead v a i hr hd h1 => simp [AV.ref] at hr
      rw [hv]
      refine .mu0 ⟨wd, []⟩ _ 0 none ?_ ?_ (by simp)
      · simp only [hap, lid]
        rw [← List.append_assoc, List.getElem?_append_right (by simp)]; simp
      · simp [lid, hap]
    · have := (he j).mono' hx
      simpa [hap] using this)
  refine ⟨v, w', fr, r, φ', H', q1, q2, q3, q4, ?_, q6⟩
  have hx' := hx.sub (T := (· < x.n0)) (fun i hi => Nat.lt_of_lt_of_le hi hn)
  exact hx'.trans (by simpa [hap] using q5)

/-- A nil told as a slice without elements. -/
theorem rep_nil_sl {E : Emb} {v : Value} (wd : Nat) (hwd : 0 < wd) (h : Rep E v .nil) : Rep E v (.sl wd []) := by
  cases h with
  | nil => exact .sl none 0 wd [] [] 0 0 (Nat.zero_le _) hwd (by simp) (by simp) (.inl rfl) rfl (fun k v hk => by simp at hk) (fun k v a hk => by simp at hk)
  | dead v a i hr hd h1 => simp [AV.ref] at hr

theorem Safe.nilsl (t wd : Nat) (hwd : 0 < wd) (ht : look env t = .nil) (h : Safe x todo ((t, .sl wd []) :: env) H R) : Safe x todo env H R := by
  intro φ w tmps bf k cs hg hn hb hk htd hsz hok he
  refine h φ w tmps bf k cs hg hn hb hk htd hsz hok fun j => ?_
  simp only [look]
  split
  · rename_i hj
    subst hj
    have h0 := he t
    rw [ht] at h0
    exact rep_nil_sl wd hwd h0
  · exact he j

/-- A value told as another that tells no more. -/
theorem Safe.told (t : Nat) (a : AV) (hr : ∀ E v, Rep E v (look env t) → Rep E v a) (h : Safe x todo ((t, a) :: env) H R) : Safe x todo env H R := by
  intro φ w tmps bf k cs hg hn hb hk htd hsz hok he
  refine h φ w tmps bf k cs hg hn hb hk htd hsz hok fun j => ?_
  simp only [look]
  split
  · rename_i hj
    subst hj
    exact hr _ _ (he t)
  · exact he j
end

/-! ### Functions that only answer -/
/-- Called over any rows, it answers r and leaves the rows. -/
def PureC (P : Program) (f : FuncId) (args : List AV) (r : AV) : Prop := ∀ H, ACalls P f args H fun r' H' => r' = r ∧ H' = H

theorem ACalls.cut {P : Program} {f : FuncId} {args : List AV} {H : Heap} {r : AV} (hr : Ref (· < H.length) r) (h : ACalls P f args H fun r' H' => r' = r ∧ ∃ L, H' = hap H L) : ACalls P f args H fun r' H' => r' = r ∧ H' = H := by
  refine ⟨h.1, fun φ w vs hok hl hrep => (h.2 φ w vs hok hl hrep).mono ?_⟩
  rintro e w' ⟨v, r', φ', H', rfl, ⟨rfl, L, rfl⟩, q1, q2, q3, q4⟩
  have hfree : ∀ (j : Nat) bj, j < H.length → (hap H L)[j]? = some (some bj) → ∀ a ∈ bj.flat, Ref (· < H.length) a := by
    intro j bj hj hb
    simp only [hap] at hb
    rw [List.getElem?_append_left hj] at hb
    exact hok.refs hb
  have hcut := HOk.cut q1 H.length hfree
  have ht : (hap H L).take H.length = H := by simp [hap]
  simp only [ht] at hcut
  refine ⟨v, r', φ', H, rfl, ⟨rfl, rfl⟩, hcut.1, q2.mono hcut.2 hr, Nat.le_refl _, q4.trans hcut.2⟩

theorem PureC.intro {P : Program} {mu : Nat → Nat → Bool} {f : FuncId} {fn : Func} (hf : P.funcs[f]? = some fn) {ac : ACode} {rs : List ResV} {nt : Nat} (hc : fchk P mu fn = some (ac, rs, nt))
    {args : List AV} {r : AV} (ha : args.length ≤ nt) (hr : Cl r) (h : ∀ H, HRefs H → Safe ⟨P, mu, f, nt, rs, H.length⟩ [.code ac] (envOf 0 args) (hap H []) fun r' H' => r' = r ∧ ∃ L, H' = hap H L) : PureC P f args r := by
  intro H
  refine ACalls.cut hr.ref (ACalls.intro hf hc ha fun hH => ?_)
  have := h H hH
  rw [hap_nil] at this
  exact this

/-- In a region: a call that only answers. -/
theorem astep_pure {P : Program} {n0 : Nat} {f : FuncId} {args : List Src} {d : Option Nat} {K : Env → Heap → Prop} {env : Env} {H : Heap} {r : AV} (h : PureC P f (args.map (·.ev env)) r) (k : K (put d r env) H) : astep P n0 (.call f args) d K env H := by
  simp only [astep]
  exact (h H).mono fun r' H' ⟨h1, h2⟩ => by subst h1; subst h2; exact k
theorem dstep_pure {P : Program} {n0 : Nat} {f : FuncId} {args : List Src} {d : Option Nat} {K : Env → Heap → Prop} {env : Env} {H : Heap} {r : AV} (h : PureC P f (args.map (·.ev env)) r) (k : K (put d r env) H) : dstep P n0 (.call f args) d K env H :=
  ⟨r, fun L => h (H ++ L), k⟩

end Go.Abs

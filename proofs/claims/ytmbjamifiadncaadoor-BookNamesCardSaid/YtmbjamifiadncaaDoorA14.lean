/- The evaluator's rules: effects, drawn regions; all in one bundle. -/
import Derived.Test.YtmbjamifiadncaaDoorA13
set_option linter.unusedVariables false
set_option linter.unusedSimpArgs false
set_option linter.defProp false
namespace Go.Abs

section
variable (P : Program) (n0 : Nat) (K : Env → Heap → Prop) (env : Env) (H : Heap)
theorem dops_nil : dops P n0 [] K env H = K env H := rfl
theorem dops_none (d : Option Nat) (o : AOp) (l : List AIns) : dops P n0 (⟨d, none, o⟩ :: l) K env H = dstep P n0 o d (dops P n0 l K) env H := rfl
theorem dops_some (d : Option Nat) (t : Nat) (want : Bool) (o : AOp) (l : List AIns) :
    dops P n0 (⟨d, some (t, want), o⟩ :: l) K env H = gguard want (look env t) fun c => if c = want then dstep P n0 o d (dops P n0 l K) env H else dops P n0 l K (put d (.tup []) env) H := rfl
theorem dstep_p (o : POp) (d : Option Nat) : dstep P n0 (.p o) d K env H = obind (pv o env H) fun v => K (put d v env) H := rfl
theorem dstep_e (o : EOp) (d : Option Nat) : dstep P n0 (.e o) d K env H = ebind (ev n0 o env H) fun v env' H' => K (put d v env') H' := rfl

/-- A call in a drawn region. -/
def dcall (P : Program) (f : FuncId) (args : List AV) (H : Heap) (K : AV → Prop) : Prop := ∃ r, (∀ L, ACalls P f args (H ++ L) fun r' H' => r' = r ∧ H' = H ++ L) ∧ K r
def dres (K : Env → Heap → Prop) (d : Option Nat) (env : Env) (H : Heap) : AV → Prop := fun r => K (put d r env) H
theorem dres_eq (d : Option Nat) (r : AV) : dres K d env H r = K (put d r env) H := rfl
theorem dstep_call (f : FuncId) (args : List Src) (d : Option Nat) : dstep P n0 (.call f args) d K env H = dcall P f (args.map (·.ev env)) H (dres K d env H) := rfl
def dcallv (P : Program) (g : AV) (args : List AV) (H : Heap) (K : AV → Prop) : Prop := match g with
  | .fn f caps => dcall P f (args ++ caps) H K
  | _ => False
theorem dstep_callv (g : Src) (args : List Src) (d : Option Nat) : dstep P n0 (.callv g args) d K env H = dcallv P (g.ev env) (args.map (·.ev env)) H (dres K d env H) := by
  simp only [dstep, dcallv]; split <;> simp_all [dcall, dres]
theorem dcallv_fn (f : FuncId) (caps args : List AV) (K : AV → Prop) : dcallv P (.fn f caps) args H K = dcall P f (args ++ caps) H K := rfl
end

@[congr] theorem dops_congr {P : Program} {n0 : Nat} {l : List AIns} {K : Env → Heap → Prop} {env env' : Env} {H H' : Heap} (h : env = env') (h' : H = H') : dops P n0 l K env H = dops P n0 l K env' H' := by rw [h, h']
@[congr] theorem dstep_congr {P : Program} {n0 : Nat} {o : AOp} {d : Option Nat} {K : Env → Heap → Prop} {env env' : Env} {H H' : Heap} (h : env = env') (h' : H = H') : dstep P n0 o d K env H = dstep P n0 o d K env' H' := by rw [h, h']
@[congr] theorem dcall_congr {P : Program} {f : FuncId} {as as' : List AV} {H H' : Heap} {K : AV → Prop} (h : as = as') (h' : H = H') : dcall P f as H K = dcall P f as' H' K := by rw [h, h']
@[congr] theorem dcallv_congr {P : Program} {g g' : AV} {as as' : List AV} {H H' : Heap} {K : AV → Prop} (h : g = g') (h2 : as = as') (h' : H = H') : dcallv P g as H K = dcallv P g' as' H' K := by rw [h, h2, h']

theorem PureC.acall {P : Program} {f : FuncId} {args : List AV} {H : Heap} {r : AV} {R : AV → Heap → Prop} (h : PureC P f args r) (k : R r H) : ACalls P f args H R :=
  (h H).mono fun r' H' ⟨h1, h2⟩ => by subst h1; subst h2; exact k
theorem PureC.dcall {P : Program} {f : FuncId} {args : List AV} {H : Heap} {r : AV} {K : AV → Prop} (h : PureC P f args r) (k : K r) : dcall P f args H K := ⟨r, fun L => h (H ++ L), k⟩

/-! ### Closed -/
theorem clb_cl {a : AV} (h : Cl a) : clb a = true := clb_iff.2 h
theorem nref_cl {id : Nat} {a : AV} (h : Cl a) : nref id a = true := nref_iff.2 h.ref
theorem clb_int (k : IntKind) (n : Int) : clb (.int k n) = true := clb_cl (.int k n)
theorem clb_bool (b : Bool) : clb (.bool b) = true := clb_cl (.bool b)
theorem clb_str (s : ByteArray) : clb (.str s) = true := clb_cl (.str s)
theorem clb_nil : clb .nil = true := clb_cl .nil
theorem nref_top (id : Nat) : nref id .top = true := nref_cl .top
theorem nref_int (id : Nat) (k : IntKind) (n : Int) : nref id (.int k n) = true := nref_cl (.int k n)
theorem nref_bool (id : Nat) (b : Bool) : nref id (.bool b) = true := nref_cl (.bool b)
theorem nref_str (id : Nat) (s : ByteArray) : nref id (.str s) = true := nref_cl (.str s)
theorem nref_nil (id : Nat) : nref id .nil = true := nref_cl .nil
theorem nref_lit (id : Nat) (v : Value) : nref id (.lit v) = true := nref_cl (.lit v)
theorem nref_sl (id wd : Nat) (xs : List AV) : nref id (.sl wd xs) = true := nref_iff.2 (.sl wd xs)
theorem nref_ro (id off : Nat) (x : AV) : nref id (.ro x off) = true := nref_iff.2 (.ro x off)
theorem nref_agg (id : Nat) (cs : List AV) : nref id (.agg cs) = cs.all (nref id) := by
  rw [Bool.eq_iff_iff, nref_iff, List.all_eq_true]
  constructor
  · intro h c hc; cases h with | agg _ h => exact nref_iff.2 (h c hc)
  · intro h; exact .agg _ fun c hc => nref_iff.1 (h c hc)
theorem nref_tup (id : Nat) (cs : List AV) : nref id (.tup cs) = cs.all (nref id) := by
  rw [Bool.eq_iff_iff, nref_iff, List.all_eq_true]
  constructor
  · intro h c hc; cases h with | tup _ h => exact nref_iff.2 (h c hc)
  · intro h; exact .tup _ fun c hc => nref_iff.1 (h c hc)
theorem nref_fn (id : Nat) (f : FuncId) (cs : List AV) : nref id (.fn f cs) = cs.all (nref id) := by
  rw [Bool.eq_iff_iff, nref_iff, List.all_eq_true]
  constructor
  · intro h c hc; cases h with | fn _ _ h => exact nref_iff.2 (h c hc)
  · intro h; exact .fn _ _ fun c hc => nref_iff.1 (h c hc)
theorem nref_bfn (id : Nat) (f : FuncId) (cs : List AV) : nref id (.bfn f cs) = cs.all (nref id) := by
  rw [Bool.eq_iff_iff, nref_iff, List.all_eq_true]
  constructor
  · intro h c hc; cases h with | bfn _ _ h => exact nref_iff.2 (h c hc)
  · intro h; exact .bfn _ _ fun c hc => nref_iff.1 (h c hc)
theorem nref_mu (H : Heap) (i j off len : Nat) (oc : Option Nat) : nref (lid H i) (.mu (lid H j) off len oc) = decide (j ≠ i) := by
  rw [Bool.eq_iff_iff, nref_iff, decide_eq_true_eq]
  constructor
  · intro h; cases h with | mu _ _ _ _ h => intro e; exact h (by rw [e])
  · intro h; exact .mu _ _ _ _ (by simp only [lid]; omega)
theorem nref_loc (H : Heap) (i j k off : Nat) : nref (lid H i) (.loc (lid H j) k off) = decide (j ≠ i) := by
  rw [Bool.eq_iff_iff, nref_iff, decide_eq_true_eq]
  constructor
  · intro h; cases h with | loc _ _ _ h => intro e; exact h (by rw [e])
  · intro h; exact .loc _ _ _ (by simp only [lid]; omega)
theorem scrub_nil (id : Nat) : scrub id [] = [] := rfl
theorem scrub_cons (id t : Nat) (a : AV) (env : Env) : scrub id ((t, a) :: env) = (t, if nref id a then a else .top) :: scrub id env := rfl

theorem frz_int (id : Nat) (b : Blk) (k : IntKind) (n : Int) : frz id b (.int k n) = .int k n := by simp only [frz]
theorem frz_bool (id : Nat) (b : Blk) (c : Bool) : frz id b (.bool c) = .bool c := by simp only [frz]
theorem frz_str (id : Nat) (b : Blk) (s : ByteArray) : frz id b (.str s) = .str s := by simp only [frz]
theorem frz_nil (id : Nat) (b : Blk) : frz id b .nil = .nil := by simp only [frz]
theorem frz_top (id : Nat) (b : Blk) : frz id b .top = .top := by simp only [frz]
theorem frz_lit (id : Nat) (b : Blk) (v : Value) : frz id b (.lit v) = .lit v := by simp only [frz]
theorem frz_sl (id : Nat) (b : Blk) (wd : Nat) (xs : List AV) : frz id b (.sl wd xs) = .sl wd xs := by simp only [frz]
theorem frz_ro (id : Nat) (b : Blk) (x : AV) (off : Nat) : frz id b (.ro x off) = .ro x off := by simp only [frz]
theorem frz_agg (id : Nat) (b : Blk) (cs : List AV) : frz id b (.agg cs) = .agg (cs.map (frz id b)) := by simp only [frz]
theorem frz_tup (id : Nat) (b : Blk) (cs : List AV) : frz id b (.tup cs) = .tup (cs.map (frz id b)) := by simp only [frz]
theorem frz_fn (id : Nat) (b : Blk) (f : FuncId) (cs : List AV) : frz id b (.fn f cs) = .fn f (cs.map (frz id b)) := by simp only [frz]
theorem frz_mu_same (H : Heap) (i : Nat) (b : Blk) (len : Nat) (oc : Option Nat) (h : len = b.xs.length) : frz (lid H i) b (.mu (lid H i) 0 len oc) = .sl b.wd b.xs := by
  simp [frz, h]
theorem frz_mu_part (H : Heap) (i : Nat) (b : Blk) (off len : Nat) (oc : Option Nat) (h : off + len ≤ b.xs.length) : frz (lid H i) b (.mu (lid H i) off len oc) = .sl b.wd ((b.xs.drop off).take len) := by
  simp [frz, h]
theorem frz_mu_other (H : Heap) (i j : Nat) (b : Blk) (off len : Nat) (oc : Option Nat) (h : j ≠ i) : frz (lid H i) b (.mu (lid H j) off len oc) = .mu (lid H j) off len oc := by
  have : lid H j ≠ lid H i := by simp only [lid]; omega
  simp [frz, this]
theorem frz_loc_other (H : Heap) (i j : Nat) (b : Blk) (k off : Nat) (h : j ≠ i) : frz (lid H i) b (.loc (lid H j) k off) = .loc (lid H j) k off := by
  have : lid H j ≠ lid H i := by simp only [lid]; omega
  simp [frz, this]
theorem frz_loc_same (H : Heap) (i : Nat) (b : Blk) (k off : Nat) (h : k < b.xs.length) : frz (lid H i) b (.loc (lid H i) k off) = .ro (b.xs.getD k .top) off := by
  simp [frz, h]

/-! ### Effects -/
section
variable (n0 : Nat) (env : Env) (H L : Heap)
def storeV (n : Nat) (p v : AV) (env : Env) (H : Heap) : Option (AV × Env × Heap) := match p with
  | .loc id i off => (hrow H id).bind fun b =>
        if i < b.xs.length ∧ v.fit = true ∧ v.cells.length = n ∧ off + n ≤ b.wd then some (.top, env, H.set id (some ⟨b.wd, b.xs.set i (upd (b.xs.getD i .top) b.wd off n v)⟩)) else none
  | _ => none
theorem ev_store (n : Nat) (a v : Src) : ev n0 (.store n a v) env H = storeV n (a.ev env) (v.ev env) env H := by simp only [ev, storeV]; split <;> simp_all
theorem storeV_loc (n i k off : Nat) (v : AV) {b : Blk} (hl : L[i]? = some (some b)) (hk : k < b.xs.length) (hf : v.fit = true) (hn : v.cells.length = n) (ho : off + n ≤ b.wd) :
    storeV n (.loc (lid H i) k off) v env (hap H L) = some (.top, env, hap H (L.set i (some ⟨b.wd, b.xs.set k (upd (b.xs.getD k .top) b.wd off n v)⟩))) := by
  simp only [storeV, hrow_hap, hl, Option.join_some, Option.bind_some, set_hap]
  rw [if_pos ⟨hk, hf, hn, ho⟩]
theorem ev_box (n : Nat) (v : Src) : ev n0 (.box n v) env H = if (v.ev env).fit = true ∧ (v.ev env).cells.length = n ∧ 0 < n then some (.loc H.length 0 0, env, H ++ [some ⟨n, [v.ev env]⟩]) else none := rfl
theorem ev_bsl (wd : Nat) (ps : List Src) : ev n0 (.bsl wd ps) env H = if 0 < wd ∧ ps.all (fun s => (s.ev env).fit && decide ((s.ev env).cells.length = wd) && (s.ev env).cells.all clb) then some (.sl wd (ps.map (·.ev env)), env, H) else none := rfl
theorem ev_bslm (wd : Nat) (ps : List Src) : ev n0 (.bslm wd ps) env H = if 0 < wd ∧ ps.all (fun s => (s.ev env).fit && decide ((s.ev env).cells.length = wd)) then
      some (.mu H.length 0 ps.length (some ps.length), env, H ++ [some ⟨wd, ps.map (·.ev env)⟩]) else none := rfl
def mkslV (wd bytes : Nat) (z l c : AV) (env : Env) (H : Heap) : Option (AV × Env × Heap) := match l, c with
    | .int _ l, .int _ c => if 0 < wd ∧ 0 ≤ l ∧ l ≤ c ∧ (bytes : Int) * c ≤ 281474976710656 ∧ c ≤ 9223372036854775807 then
        some (.mu H.length 0 l.toNat (some c.toNat), env, H ++ [some ⟨wd, List.replicate l.toNat z⟩]) else none
    | _, _ => none
theorem ev_mksl (wd bytes : Nat) (z : AV) (l c : Src) : ev n0 (.mksl wd bytes z l c) env H = mkslV wd bytes z (l.ev env) (c.ev env) env H := by simp only [ev, mkslV]; split <;> simp_all
theorem mkslV_int (wd bytes : Nat) (z : AV) (k k' : IntKind) (l c : Nat) (h0 : 0 < wd) (h1 : l ≤ c) (h2 : bytes * c ≤ 281474976710656) (h3 : c ≤ 9223372036854775807) :
    mkslV wd bytes z (.int k l) (.int k' c) env (hap H L) = some (.mu (lid H L.length) 0 l (some c), env, hap H (L ++ [some ⟨wd, List.replicate l z⟩])) := by
  simp only [mkslV, len_hap, app_hap, Int.toNat_natCast]
  rw [if_pos ⟨h0, by omega, by omega, by rw [← Int.natCast_mul]; omega, by omega⟩]
noncomputable def appV (n0 wd bytes : Nat) (str : Bool) (x y : AV) (env : Env) (H : Heap) : Option (AV × Env × Heap) := (srcEls H wd str y).bind fun ys =>
      match x with
      | .nil => if 0 < wd ∧ ys.length * bytes ≤ 140737488355328 ∧ ys.length ≤ 9223372036854775807 then some (.mu H.length 0 ys.length none, env, H ++ [some ⟨wd, ys⟩]) else none
      | .mu id off len oc => (hrow H id).bind fun r =>
          if r.wd = wd ∧ off = 0 ∧ len ≤ r.xs.length ∧ n0 ≤ id ∧ 0 < ys.length ∧ (oc.any fun c => decide (len + ys.length ≤ c)) = true then
            some (.mu id 0 (len + ys.length) oc, env, H.set id (some ⟨wd, r.xs.take len ++ ys⟩)) else
          if r.wd = wd ∧ off = 0 ∧ len ≤ r.xs.length ∧ n0 ≤ id ∧ free H id = true ∧ (ys.flatMap AV.cells).all (nref id) = true ∧ (r.xs.flatMap AV.cells).all (nref id) = true ∧
              (len + ys.length) * bytes ≤ 140737488355328 ∧ len + ys.length ≤ 9223372036854775807 then
            some (.mu id 0 (len + ys.length) (capAfter oc (len + ys.length)), scrub id env, H.set id (some ⟨wd, r.xs.take len ++ ys⟩)) else
          if r.wd = wd ∧ off + len ≤ r.xs.length ∧ 0 < ys.length ∧ (oc.any fun c => decide (c < len + ys.length)) = true ∧ (len + ys.length) * bytes ≤ 140737488355328 ∧ len + ys.length ≤ 9223372036854775807 then
            some (.mu H.length 0 (len + ys.length) none, env, H ++ [some ⟨wd, (r.xs.drop off).take len ++ ys⟩]) else none
      | _ => none
theorem ev_app (wd bytes : Nat) (str : Bool) (a b : Src) : ev n0 (.app wd bytes str a b) env H = appV n0 wd bytes str (a.ev env) (b.ev env) env H := by
  simp only [ev, appV]; cases srcEls H wd str (b.ev env) <;> simp only [Option.bind_none, Option.bind_some]; split <;> simp_all
theorem appV_nil (wd bytes : Nat) (str : Bool) (y : AV) (ys : List AV) (hy : srcEls (hap H L) wd str y = some ys) (h0 : 0 < wd) (h1 : ys.length * bytes ≤ 140737488355328) (h2 : ys.length ≤ 9223372036854775807) :
    appV n0 wd bytes str .nil y env (hap H L) = some (.mu (lid H L.length) 0 ys.length none, env, hap H (L ++ [some ⟨wd, ys⟩])) := by
  simp only [appV, hy, Option.bind_some, len_hap, app_hap]
  rw [if_pos ⟨h0, h1, h2⟩]

/-- No row of these names the i-th. -/
def Aside (H : Heap) (L : Heap) (i : Nat) : Prop := ∀ (j : Nat) b, L[j]? = some (some b) → ∀ a ∈ b.flat, Ref (· ≠ lid H i) a
theorem aside_cl {H L : Heap} {i : Nat} (h : ∀ b, some b ∈ L → ∀ a ∈ b.flat, Cl a) : Aside H L i := fun j b hb a ha => (h b (List.mem_of_getElem? hb) a ha).ref

theorem free_hap {H L : Heap} {i : Nat} (hH : HRefs H) (h : Aside H L i) : free (hap H L) (lid H i) = true := by
  rw [free_iff]
  intro j bj hj hb a ha
  rcases Nat.lt_or_ge j H.length with hlt | hge
  · simp only [hap] at hb
    rw [List.getElem?_append_left hlt] at hb
    exact (hH j bj hb a ha).mono fun k hk => by show k ≠ lid H i; simp only [lid]; omega
  · simp only [hap] at hb
    rw [List.getElem?_append_right hge] at hb
    exact h _ bj hb a ha

theorem appV_own (wd bytes : Nat) (str : Bool) (i len : Nat) (oc : Option Nat) (y : AV) (xs ys : List AV) (hH : HRefs H) (hl : L[i]? = some (some ⟨wd, xs⟩)) (hlen : len = xs.length) (hn : n0 ≤ lid H i) (hy : srcEls (hap H L) wd str y = some ys) (ha : Aside H L i)
    (hys : ∀ a ∈ ys.flatMap AV.cells, Ref (· ≠ lid H i) a) (h1 : (len + ys.length) * bytes ≤ 140737488355328) (h2 : len + ys.length ≤ 9223372036854775807) (hoc : (oc.any fun c => decide (len + ys.length ≤ c)) = false) :
    appV n0 wd bytes str (.mu (lid H i) 0 len oc) y env (hap H L) = some (.mu (lid H i) 0 (len + ys.length) (capAfter oc (len + ys.length)), scrub (lid H i) env, hap H (L.set i (some ⟨wd, xs ++ ys⟩))) := by
  subst hlen
  simp only [appV, hy, Option.bind_some, hrow_hap, hl, Option.join_some, set_hap]
  rw [if_neg (fun h => by rw [hoc] at h; exact absurd h.2.2.2.2.2 (by decide)), if_pos]
  · simp
  · refine ⟨trivial, trivial, Nat.le_refl _, hn, free_hap hH ha, ?_, ?_, h1, h2⟩
    · rw [List.all_eq_true]; intro a h; exact nref_iff.2 (hys a h)
    · rw [List.all_eq_true]; intro a h; exact nref_iff.2 (ha i _ hl a h)
/-- Where there is room, what else names the row stays. -/
theorem appV_room (wd bytes : Nat) (str : Bool) (i len c : Nat) (y : AV) (xs ys : List AV) (hl : L[i]? = some (some ⟨wd, xs⟩)) (hlen : len = xs.length) (hn : n0 ≤ lid H i) (hy : srcEls (hap H L) wd str y = some ys) (h0 : 0 < ys.length) (hc : len + ys.length ≤ c) :
    appV n0 wd bytes str (.mu (lid H i) 0 len (some c)) y env (hap H L) = some (.mu (lid H i) 0 (len + ys.length) (some c), env, hap H (L.set i (some ⟨wd, xs ++ ys⟩))) := by
  subst hlen
  simp only [appV, hy, Option.bind_some, hrow_hap, hl, Option.join_some, set_hap]
  rw [if_pos]
  · simp
  · exact ⟨trivial, trivial, Nat.le_refl _, hn, h0, by simpa using hc⟩
theorem srcEls_sl (wd : Nat) (xs : List AV) : srcEls H wd false (.sl wd xs) = some xs := by simp [srcEls]
theorem srcEls_nil (wd : Nat) : srcEls H wd false .nil = some [] := by simp [srcEls]
theorem srcEls_str (wd : Nat) (s : ByteArray) : srcEls H wd true (.str s) = some (byteAVs s) := by simp [srcEls]
theorem srcEls_mu (wd i off len : Nat) (oc : Option Nat) (xs : List AV) (hl : L[i]? = some (some ⟨wd, xs⟩)) (h : off + len ≤ xs.length) : srcEls (hap H L) wd false (.mu (lid H i) off len oc) = some ((xs.drop off).take len) := by
  simp [srcEls, hrow_hap, hl, h]
end

theorem fit_int (k : IntKind) (n : Int) : (AV.int k n).fit = true := rfl
theorem fit_bool (b : Bool) : (AV.bool b).fit = true := rfl
theorem fit_str (s : ByteArray) : (AV.str s).fit = true := rfl
theorem fit_agg (cs : List AV) : (AV.agg cs).fit = true := rfl
theorem fit_sl (wd : Nat) (xs : List AV) : (AV.sl wd xs).fit = true := rfl
theorem fit_nil : AV.nil.fit = true := rfl
theorem fit_mu (id off len : Nat) (oc : Option Nat) : (AV.mu id off len oc).fit = true := rfl
theorem fit_loc (id i off : Nat) : (AV.loc id i off).fit = true := rfl
theorem fit_fn (f : FuncId) (cs : List AV) : (AV.fn f cs).fit = true := rfl
theorem fit_ro (x : AV) (off : Nat) : (AV.ro x off).fit = true := rfl

theorem upd_whole (x : AV) (wd : Nat) (v : AV) : upd x wd 0 wd v = v := by simp [upd]
theorem resL_nil (env : Env) (H : Heap) : resL env H [] = some [] := rfl
theorem resL_tmp (env : Env) (H : Heap) (t : Nat) (r : List ResV) : resL env H (.tmp t :: r) = (resL env H r).map (look env t :: ·) := rfl
theorem resL_cell (env : Env) (H : Heap) (t : Nat) (n : Option Nat) (r : List ResV) : resL env H (.cell t n :: r) = (loadV H n (look env t)).bind fun a => (resL env H r).map (a :: ·) := rfl
theorem oneOf_one (a : AV) : oneOf [a] = a := rfl
theorem oneOf_two (a b : AV) (r : List AV) : oneOf (a :: b :: r) = .tup (a :: b :: r) := rfl
theorem oneOf_nil : oneOf [] = .tup [] := rfl

/-- What a call answers with. -/
def gret (o : Option (List AV)) (k : AV → Prop) : Prop := match o with
  | some as => k (oneOf as)
  | none => False
theorem gret_some (as : List AV) (k : AV → Prop) : gret (some as) k = k (oneOf as) := rfl
@[congr] theorem gret_congr {x y : Option (List AV)} {k : AV → Prop} (h : x = y) : gret x k = gret y k := by rw [h]
theorem Safe.retn {x : Cx} {todo : List AItem} {env : Env} {H : Heap} {R : AV → Heap → Prop} (h : gret (resL env H x.rs) fun r => R r H) : Safe x (.code .ret :: todo) env H R := by
  unfold gret at h
  split at h
  · rename_i as ha; exact Safe.ret ha h
  · exact h.elim
theorem Safe.donen {x : Cx} {env : Env} {H : Heap} {R : AV → Heap → Prop} (h : gret (resL env H x.rs) fun r => R r H) : Safe x [] env H R := by
  unfold gret at h
  split at h
  · rename_i as ha; exact Safe.done ha h
  · exact h.elim
theorem zero_lt_one' : (0 < 1) = True := by decide

theorem aexit_cons (id i : Nat) (k : List AItem) : aexit id (.inBlock i :: k) = if i = id then some k else aexit id k := rfl

/-- The evaluator. -/
def EV := And.intro (And.intro (And.intro (@gguard_bool) (@gguard_undef)) (And.intro (@ares_eq) (@dres_eq))) <| And.intro (And.intro (And.intro (And.intro (And.intro (And.intro (And.intro (@aops_nil) (@aops_none)) (And.intro (@aops_some) (And.intro (@astep_p) (@astep_e)))) (And.intro (And.intro (@astep_call) (@astep_callv)) (And.intro (@callvK_fn) (And.intro (@dops_nil) (@dops_none))))) (And.intro (And.intro (And.intro (@dops_some) (@dstep_p)) (And.intro (@dstep_e) (And.intro (@dstep_call) (@dstep_callv)))) (And.intro (And.intro (@dcallv_fn) (@obind_some)) (And.intro (@obind_none) (And.intro (@ebind_some) (@ebind_none)))))) (And.intro (And.intro (And.intro (And.intro (@gcond_bool) (@src_t)) (And.intro (@src_c) (And.intro (@look_cons) (@look_nil)))) (And.intro (And.intro (@put_some) (@put_none)) (And.intro (@envOf_nil) (And.intro (@envOf_cons) (@pv_mv))))) (And.intro (And.intro (And.intro (@pv_pick) (@pickV_bool)) (And.intro (@pickV_and) (And.intro (@pickV_or) (@pv_len)))) (And.intro (And.intro (@pv_lens) (@lenS_str)) (And.intro (@pv_bin) (And.intro (@pv_beq) (@beqV_f))))))) (And.intro (And.intro (And.intro (And.intro (And.intro (@beqV_t) (@pv_un)) (And.intro (@unV_neg) (And.intro (@unV_not) (@pv_conv)))) (And.intro (And.intro (@convV_int) (@pv_ext)) (And.intro (@extV_tup) (And.intro (@pv_fldp) (@fldV_ro))))) (And.intro (And.intro (And.intro (@fldV_loc) (@pv_idxp)) (And.intro (@pv_idxs) (And.intro (@idxS_str) (@pv_load)))) (And.intro (And.intro (@pv_slc) (@pv_slcs)) (And.intro (@pv_bld) (And.intro (@pv_mkfn) (@pv_mnx)))))) (And.intro (And.intro (And.intro (And.intro (@mnxV_int) (@pv_b2s)) (And.intro (@b2sV_sl1) (And.intro (@lenV_sl) (@lenV_nil)))) (And.intro (And.intro (@lenV_mu) (@binV_shl)) (And.intro (@binV_shr) (And.intro (@binV_add) (@binV_sub))))) (And.intro (And.intro (And.intro (@binV_mul) (@binV_or)) (And.intro (@binV_and) (And.intro (@binV_xor) (@binV_eql)))) (And.intro (And.intro (@binV_neq) (And.intro (@binV_lss) (@binV_leq))) (And.intro (@binV_gtr) (And.intro (@binV_geq) (@binV_seql)))))))) (And.intro (And.intro (And.intro (And.intro (And.intro (And.intro (@binV_sneq) (@loadV_def)) (And.intro (@atV_ro) (And.intro (@atV_loc) (@cells_agg)))) (And.intro (And.intro (@cells_int) (@cells_bool)) (And.intro (@cells_str) (And.intro (@cells_nil) (@cells_lit))))) (And.intro (And.intro (And.intro (@cells_sl) (@cells_mu)) (And.intro (@cells_loc) (And.intro (@cells_fn) (@hrow_hap)))) (And.intro (And.intro (@len_hap) (@set_hap)) (And.intro (@app_hap) (And.intro (@lid_eq) (@bind_some')))))) (And.intro (And.intro (And.intro (And.intro (@join_some) (@keep_nil)) (And.intro (@keep_cons) (And.intro (@ev_store) (@ev_box)))) (And.intro (And.intro (@ev_bsl) (@ev_bslm)) (And.intro (@ev_mksl) (And.intro (@ev_app) (@fit_int))))) (And.intro (And.intro (And.intro (@fit_bool) (@fit_str)) (And.intro (@fit_agg) (And.intro (@fit_sl) (@fit_nil)))) (And.intro (And.intro (@fit_mu) (@fit_loc)) (And.intro (@fit_fn) (And.intro (@fit_ro) (@clb_int))))))) (And.intro (And.intro (And.intro (And.intro (And.intro (@clb_bool) (@clb_str)) (And.intro (@clb_nil) (And.intro (@nref_top) (@nref_int)))) (And.intro (And.intro (@nref_bool) (@nref_str)) (And.intro (@nref_nil) (And.intro (@nref_lit) (@nref_sl))))) (And.intro (And.intro (And.intro (@nref_ro) (@nref_agg)) (And.intro (@nref_tup) (And.intro (@nref_fn) (@nref_mu)))) (And.intro (And.intro (@nref_loc) (@scrub_nil)) (And.intro (@scrub_cons) (And.intro (@frz_int) (@frz_bool)))))) (And.intro (And.intro (And.intro (And.intro (@frz_str) (@frz_nil)) (And.intro (@frz_top) (And.intro (@frz_lit) (@frz_sl)))) (And.intro (And.intro (@frz_ro) (@frz_agg)) (And.intro (@frz_tup) (And.intro (@frz_fn) (@frzE_nil))))) (And.intro (And.intro (And.intro (@frzE_cons) (@frzL_nil)) (And.intro (@frzL_cons) (And.intro (@frzL_none) (@upd_whole)))) (And.intro (And.intro (@resL_nil) (And.intro (@resL_tmp) (@resL_cell))) (And.intro (@oneOf_one) (And.intro (@oneOf_two) (And.intro @oneOf_nil (And.intro @gret_some @zero_lt_one')))))))))
def EVC := And.intro (And.intro (And.intro (And.intro (And.intro (@List.map_cons.{0,0}) (@List.map_nil.{0,0})) (And.intro (@List.length_cons.{0}) (And.intro (@List.length_nil.{0}) (@List.cons_append.{0})))) (And.intro (And.intro (@List.nil_append.{0}) (@List.all_cons.{0})) (And.intro (@List.all_nil.{0}) (And.intro (@Option.map_some.{0,0}) (@Option.map_none.{0,0}))))) (And.intro (And.intro (And.intro (@Option.bind_some.{0,0}) (@Option.bind_none.{0,0})) (And.intro (@Option.isSome_some.{0}) (And.intro (@List.getElem?_cons_zero.{0}) (@List.getElem?_cons_succ.{0})))) (And.intro (And.intro (@List.set_cons_zero.{0}) (@List.set_cons_succ.{0})) (And.intro (@Option.join_some.{0}) (And.intro (@List.getD_cons_zero.{0}) (@List.drop_zero.{0})))))) (And.intro (And.intro (And.intro (And.intro (And.intro (@if_true.{0}) (@if_true.{1})) (And.intro (@if_false.{0}) (@if_false.{1}))) (And.intro (@Bool.false_eq_true) (And.intro (@Bool.true_and) (@Bool.and_true)))) (And.intro (And.intro (@Bool.not_true) (@Bool.not_false)) (And.intro (@decide_true) (And.intro (@decide_false) (@Bool.and_self))))) (And.intro (And.intro (And.intro (@ne_eq.{1}) (@not_true_eq_false)) (And.intro (@not_false_eq_true) (And.intro (@and_self) (@and_true)))) (And.intro (And.intro (@true_and) (@Nat.zero_add)) (And.intro (@Nat.add_zero) (And.intro (@Option.some.injEq.{0}) (@Nat.lt_add_one))))))

end Go.Abs

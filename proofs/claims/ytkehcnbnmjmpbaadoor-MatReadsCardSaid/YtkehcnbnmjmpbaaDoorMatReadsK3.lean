/- Part 3 of the proof of MatReads: A14, A15, A16, A17, A18, A19, A22, A23, A25, A26, A27, M1, D1, D2, D3, D4, D5, D7, D10, Num. -/
import Derived.Test.YtkehcnbnmjmpbaaDoorMatReadsK2
import Derived.Below
import Derived.Lib.Join
import Derived.Test.YtkehcnbnmjmpbaaDoorProg
set_option linter.unusedVariables false
set_option linter.unusedSimpArgs false
set_option linter.defProp false
namespace Go.Abs
section
variable (P : Program) (n0 : Nat) (K : Env → Heap → Prop) (env : Env) (H : Heap)
theorem c3X : dops P n0 [] K env H = K env H := rfl
theorem c2l (d : Option Nat) (o : AOp) (l : List AIns) : dops P n0 (⟨d, none, o⟩ :: l) K env H = a6W P n0 o d (dops P n0 l K) env H := rfl
theorem c2k (d : Option Nat) (t : Nat) (want : Bool) (o : AOp) (l : List AIns) :
    dops P n0 (⟨d, some (t, want), o⟩ :: l) K env H = a7f want (look env t) fun c => if c = want then a6W P n0 o d (dops P n0 l K) env H else dops P n0 l K (put d (.tup []) env) H := rfl
theorem c6i (o : POp) (d : Option Nat) : a6W P n0 (.p o) d K env H = b0A (pv o env H) fun v => K (put d v env) H := rfl
theorem c6j (o : EOp) (d : Option Nat) : a6W P n0 (.e o) d K env H = b1u (ev n0 o env H) fun v env' H' => K (put d v env') H' := rfl
/-- A call in a drawn region. -/
def dcall (P : Program) (f : FuncId) (args : List AV) (H : Heap) (K : AV → Prop) : Prop := ∃ r, (∀ L, ACalls P f args (H ++ L) fun r' H' => r' = r ∧ H' = H ++ L) ∧ K r
def dres (K : Env → Heap → Prop) (d : Option Nat) (env : Env) (H : Heap) : AV → Prop := fun r => K (put d r env) H
theorem c6l (d : Option Nat) (r : AV) : dres K d env H r = K (put d r env) H := rfl
theorem c0K (f : FuncId) (args : List Src) (d : Option Nat) : a6W P n0 (.call f args) d K env H = dcall P f (args.map (·.ev env)) H (dres K d env H) := rfl
def b7U (P : Program) (g : AV) (args : List AV) (H : Heap) (K : AV → Prop) : Prop := match g with
  | .fn f caps => dcall P f (args ++ caps) H K
  | _ => False
theorem b8X (g : Src) (args : List Src) (d : Option Nat) : a6W P n0 (.callv g args) d K env H = b7U P (g.ev env) (args.map (·.ev env)) H (dres K d env H) := by
  simp only [a6W, b7U]; split <;> simp_all [dcall, dres]
theorem c2o (f : FuncId) (caps args : List AV) (K : AV → Prop) : b7U P (.fn f caps) args H K = dcall P f (args ++ caps) H K := rfl
end
/-- A call in a drawn region that hands out rows of its own. -/
def dgcall (P : Program) (f : FuncId) (args : List AV) (H : Heap) (K : AV → Heap → Prop) : Prop := ∃ r L, (ACalls P f args H fun r' H' => r' = r ∧ H' = H ++ L) ∧ K r (H ++ L)
theorem a0b (P : Program) (n0 : Nat) (K : Env → Heap → Prop) (env : Env) (H : Heap) (f : FuncId) (args : List Src) (d : Option Nat) : a6W P n0 (.gcall f args) d K env H = dgcall P f (args.map (·.ev env)) H (ares K d env) := rfl
def b4v (P : Program) (g : AV) (args : List AV) (H : Heap) (K : AV → Heap → Prop) : Prop := match g with
  | .fn f caps => dgcall P f (args ++ caps) H K
  | _ => False
theorem a0a (P : Program) (n0 : Nat) (K : Env → Heap → Prop) (env : Env) (H : Heap) (g : Src) (args : List Src) (d : Option Nat) : a6W P n0 (.gcallv g args) d K env H = b4v P (g.ev env) (args.map (·.ev env)) H (ares K d env) := by
  simp only [a6W, b4v]; split <;> simp_all [dgcall, ares]
theorem a0d (P : Program) (H : Heap) (f : FuncId) (caps args : List AV) (K : AV → Heap → Prop) : b4v P (.fn f caps) args H K = dgcall P f (args ++ caps) H K := rfl
@[congr] theorem c4R {P : Program} {f : FuncId} {aXs as' : List AV} {H H' : Heap} {K : AV → Heap → Prop} (h : aXs = as') (h' : H = H') : dgcall P f aXs H K = dgcall P f as' H' K := by rw [h, h']
@[congr] theorem c3Y {P : Program} {g g' : AV} {aXs as' : List AV} {H H' : Heap} {K : AV → Heap → Prop} (h : g = g') (h2 : aXs = as') (h' : H = H') : b4v P g aXs H K = b4v P g' as' H' K := by rw [h, h2, h']
@[congr] theorem c6E {P : Program} {n0 : Nat} {l : List AIns} {K : Env → Heap → Prop} {env env' : Env} {H H' : Heap} (h : env = env') (h' : H = H') : dops P n0 l K env H = dops P n0 l K env' H' := by rw [h, h']
@[congr] theorem c6k {P : Program} {n0 : Nat} {o : AOp} {d : Option Nat} {K : Env → Heap → Prop} {env env' : Env} {H H' : Heap} (h : env = env') (h' : H = H') : a6W P n0 o d K env H = a6W P n0 o d K env' H' := by rw [h, h']
@[congr] theorem c6m {P : Program} {f : FuncId} {aXs as' : List AV} {H H' : Heap} {K : AV → Prop} (h : aXs = as') (h' : H = H') : dcall P f aXs H K = dcall P f as' H' K := by rw [h, h']
@[congr] theorem c4S {P : Program} {g g' : AV} {aXs as' : List AV} {H H' : Heap} {K : AV → Prop} (h : g = g') (h2 : aXs = as') (h' : H = H') : b7U P g aXs H K = b7U P g' as' H' K := by rw [h, h2, h']
theorem a0o.acall {P : Program} {f : FuncId} {args : List AV} {H : Heap} {r : AV} {R : AV → Heap → Prop} (h : a0o P f args r) (k : R r H) : ACalls P f args H R :=
  (h H).mono fun r' H' ⟨h1, h2⟩ => by subst h1; subst h2; exact k
theorem a0o.dcall {P : Program} {f : FuncId} {args : List AV} {H : Heap} {r : AV} {K : AV → Prop} (h : a0o P f args r) (k : K r) : dcall P f args H K := ⟨r, fun L => h (H ++ L), k⟩
theorem a0o.dgcall {P : Program} {f : FuncId} {args : List AV} {H : Heap} {r : AV} {K : AV → Heap → Prop} (h : a0o P f args r) (k : K r H) : dgcall P f args H K := ⟨r, [], by simpa using h H, by simpa using k⟩
theorem b2F {a : AV} (h : Cl a) : clb a = true := b6C.2 h
theorem a1J {id : Nat} {a : AV} (h : Cl a) : nref id a = true := a0i.2 h.ref
theorem c6q (k : IntKind) (n : Int) : clb (.int k n) = true := b2F (.int k n)
theorem c4b (b : Bool) : clb (.bool b) = true := b2F (.bool b)
theorem c6o (s : ByteArray) : clb (.str s) = true := b2F (.str s)
theorem c6p : clb .nil = true := b2F .nil
theorem c3l (id : Nat) : nref id .top = true := a1J .top
theorem a8z (id : Nat) (k : IntKind) (n : Int) : nref id (.int k n) = true := a1J (.int k n)
theorem c1D (id : Nat) (b : Bool) : nref id (.bool b) = true := a1J (.bool b)
theorem c3m (id : Nat) (s : ByteArray) : nref id (.str s) = true := a1J (.str s)
theorem c3n (id : Nat) : nref id .nil = true := a1J .nil
theorem c3o (id : Nat) (v : Value) : nref id (.lit v) = true := a1J (.lit v)
theorem c1C (id wd : Nat) (xs : List AV) : nref id (.sl wd xs) = true := a0i.2 (.sl wd xs)
theorem c5B (id off : Nat) (x : AV) : nref id (.ro x off) = true := a0i.2 (.ro x off)
theorem c3p (id : Nat) (cs : List AV) : nref id (.agg cs) = cs.all (nref id) := by
  rw [Bool.eq_iff_iff, a0i, List.all_eq_true]
  constructor
  · intro h c hc; cases h with | agg _ h => exact a0i.2 (h c hc)
  · intro h; exact .agg _ fun c hc => a0i.1 (h c hc)
theorem c3k (id : Nat) (cs : List AV) : nref id (.tup cs) = cs.all (nref id) := by
  rw [Bool.eq_iff_iff, a0i, List.all_eq_true]
  constructor
  · intro h c hc; cases h with | tup _ h => exact a0i.2 (h c hc)
  · intro h; exact .tup _ fun c hc => a0i.1 (h c hc)
theorem c5D (id : Nat) (f : FuncId) (cs : List AV) : nref id (.fn f cs) = cs.all (nref id) := by
  rw [Bool.eq_iff_iff, a0i, List.all_eq_true]
  constructor
  · intro h c hc; cases h with | fn _ _ h => exact a0i.2 (h c hc)
  · intro h; exact .fn _ _ fun c hc => a0i.1 (h c hc)
theorem c5C (H : Heap) (i j off len : Nat) (oc : Option Nat) : nref (lid H i) (.mu (lid H j) off len oc) = decide (j ≠ i) := by
  rw [Bool.eq_iff_iff, a0i, decide_eq_true_eq]
  constructor
  · intro h; cases h with | mu _ _ _ _ h => intro e; exact h (by rw [e])
  · intro h; exact .mu _ _ _ _ (by simp only [lid]; omega)
theorem b6m (H : Heap) (i j k off : Nat) : nref (lid H i) (.loc (lid H j) k off) = decide (j ≠ i) := by
  rw [Bool.eq_iff_iff, a0i, decide_eq_true_eq]
  constructor
  · intro h; cases h with | loc _ _ _ h => intro e; exact h (by rw [e])
  · intro h; exact .loc _ _ _ (by simp only [lid]; omega)
theorem c1p (id : Nat) : scrub id [] = [] := rfl
theorem c0c (id t : Nat) (a : AV) (env : Env) : scrub id ((t, a) :: env) = (t, if nref id a then a else .top) :: scrub id env := rfl
theorem c5V (id : Nat) (b : Blk) (k : IntKind) (n : Int) : frz id b (.int k n) = .int k n := by simp only [frz]
theorem c3I (id : Nat) (b : Blk) (c : Bool) : frz id b (.bool c) = .bool c := by simp only [frz]
theorem c5R (id : Nat) (b : Blk) (s : ByteArray) : frz id b (.str s) = .str s := by simp only [frz]
theorem c5S (id : Nat) (b : Blk) : frz id b .nil = .nil := by simp only [frz]
theorem c5Q (id : Nat) (b : Blk) : frz id b .top = .top := by simp only [frz]
theorem c5U (id : Nat) (b : Blk) (v : Value) : frz id b (.lit v) = .lit v := by simp only [frz]
theorem c7j (id : Nat) (b : Blk) (wd : Nat) (xs : List AV) : frz id b (.sl wd xs) = .sl wd xs := by simp only [frz]
theorem c7k (id : Nat) (b : Blk) (x : AV) (off : Nat) : frz id b (.ro x off) = .ro x off := by simp only [frz]
theorem c5W (id : Nat) (b : Blk) (cs : List AV) : frz id b (.agg cs) = .agg (cs.map (frz id b)) := by simp only [frz]
theorem c5P (id : Nat) (b : Blk) (cs : List AV) : frz id b (.tup cs) = .tup (cs.map (frz id b)) := by simp only [frz]
theorem c7l (id : Nat) (b : Blk) (f : FuncId) (cs : List AV) : frz id b (.fn f cs) = .fn f (cs.map (frz id b)) := by simp only [frz]
theorem b4q (H : Heap) (i : Nat) (b : Blk) (len : Nat) (oc : Option Nat) (h : len = b.xs.length) : frz (lid H i) b (.mu (lid H i) 0 len oc) = .sl b.wd b.xs := by
  simp [frz, h]
theorem b6x (H : Heap) (i j : Nat) (b : Blk) (k off : Nat) (h : j ≠ i) : frz (lid H i) b (.loc (lid H j) k off) = .loc (lid H j) k off := by
  have : lid H j ≠ lid H i := by simp only [lid]; omega
  simp [frz, this]
section
variable (n0 : Nat) (env : Env) (H L : Heap)
def a4Z (n : Nat) (p v : AV) (env : Env) (H : Heap) : Option (AV × Env × Heap) := match p with
  | .loc id i off => (hrow H id).bind fun b =>
        if i < b.xs.length ∧ v.fit = true ∧ v.cells.length = n ∧ off + n ≤ b.wd then some (.top, env, H.set id (some ⟨b.wd, b.xs.set i (upd (b.xs.getD i .top) b.wd off n v)⟩)) else none
  | _ => none
theorem c3U (n : Nat) (a v : Src) : ev n0 (.store n a v) env H = a4Z n (a.ev env) (v.ev env) env H := by simp only [ev, a4Z]; split <;> simp_all
theorem b0T (n i k off : Nat) (v : AV) {b : Blk} (hl : L[i]? = some (some b)) (hk : k < b.xs.length) (hf : v.fit = true) (hn : v.cells.length = n) (ho : off + n ≤ b.wd) :
    a4Z n (.loc (lid H i) k off) v env (hap H L) = some (.top, env, hap H (L.set i (some ⟨b.wd, b.xs.set k (upd (b.xs.getD k .top) b.wd off n v)⟩))) := by
  simp only [a4Z, a1U, hl, Option.join_some, Option.bind_some, a4v]
  rw [if_pos ⟨hk, hf, hn, ho⟩]
theorem c7t (n : Nat) (v : Src) : ev n0 (.box n v) env H = if (v.ev env).fit = true ∧ (v.ev env).cells.length = n ∧ 0 < n then some (.loc H.length 0 0, env, H ++ [some ⟨n, [v.ev env]⟩]) else none := rfl
theorem c7s (wd : Nat) (ps : List Src) : ev n0 (.bsl wd ps) env H = if 0 < wd ∧ ps.all (fun s => (s.ev env).fit && decide ((s.ev env).cells.length = wd) && (s.ev env).cells.all clb) then some (.sl wd (ps.map (·.ev env)), env, H) else none := rfl
theorem c6f (wd : Nat) (ps : List Src) : ev n0 (.bslm wd ps) env H = if 0 < wd ∧ ps.all (fun s => (s.ev env).fit && decide ((s.ev env).cells.length = wd)) then
      some (.mu H.length 0 ps.length (some ps.length), env, H ++ [some ⟨wd, ps.map (·.ev env)⟩]) else none := rfl
def c1L (wd bytes : Nat) (z l c : AV) (env : Env) (H : Heap) : Option (AV × Env × Heap) := match l, c with
    | .int _ l, .int _ c => if 0 < wd ∧ 0 ≤ l ∧ l ≤ c ∧ (bytes : Int) * c ≤ 281474976710656 ∧ c ≤ 9223372036854775807 then
        some (.mu H.length 0 l.toNat (some c.toNat), env, H ++ [some ⟨wd, List.replicate l.toNat z⟩]) else none
    | _, _ => none
theorem c6e (wd bytes : Nat) (z : AV) (l c : Src) : ev n0 (.mksl wd bytes z l c) env H = c1L wd bytes z (l.ev env) (c.ev env) env H := by simp only [ev, c1L]; split <;> simp_all
theorem b7n (wd bytes : Nat) (z : AV) (k k' : IntKind) (l c : Nat) (h0 : 0 < wd) (h1 : l ≤ c) (h2 : bytes * c ≤ 281474976710656) (h3 : c ≤ 9223372036854775807) :
    c1L wd bytes z (.int k l) (.int k' c) env (hap H L) = some (.mu (lid H L.length) 0 l (some c), env, hap H (L ++ [some ⟨wd, List.replicate l z⟩])) := by
  simp only [c1L, b8C, b9e, Int.toNat_natCast]
  rw [if_pos ⟨h0, by omega, by omega, by rw [← Int.natCast_mul]; omega, by omega⟩]
noncomputable def appV (n0 wd bytes : Nat) (str : Bool) (x y : AV) (env : Env) (H : Heap) : Option (AV × Env × Heap) := (a0z H wd str y).bind fun ys =>
      match x with
      | .nil => if 0 < wd ∧ ys.length * bytes ≤ 140737488355328 ∧ ys.length ≤ 9223372036854775807 then some (.mu H.length 0 ys.length none, env, H ++ [some ⟨wd, ys⟩]) else none
      | .mu id off len oc => (hrow H id).bind fun r =>
          if r.wd = wd ∧ off = 0 ∧ len ≤ r.xs.length ∧ n0 ≤ id ∧ 0 < ys.length ∧ (oc.any fun c => decide (len + ys.length ≤ c)) = true then
            some (.mu id 0 (len + ys.length) oc, env, H.set id (some ⟨wd, r.xs.take len ++ ys⟩)) else
          if r.wd = wd ∧ off = 0 ∧ len ≤ r.xs.length ∧ n0 ≤ id ∧ free H id = true ∧ (ys.flatMap AV.cells).all (nref id) = true ∧ (r.xs.flatMap AV.cells).all (nref id) = true ∧
              (len + ys.length) * bytes ≤ 140737488355328 ∧ len + ys.length ≤ 9223372036854775807 then
            some (.mu id 0 (len + ys.length) (a0H oc (len + ys.length)), scrub id env, H.set id (some ⟨wd, r.xs.take len ++ ys⟩)) else
          if r.wd = wd ∧ off + len ≤ r.xs.length ∧ 0 < ys.length ∧ (oc.any fun c => decide (c < len + ys.length)) = true ∧ (len + ys.length) * bytes ≤ 140737488355328 ∧ len + ys.length ≤ 9223372036854775807 then
            some (.mu H.length 0 (len + ys.length) none, env, H ++ [some ⟨wd, (r.xs.drop off).take len ++ ys⟩]) else
          if r.wd = wd ∧ off = 0 ∧ len ≤ r.xs.length ∧ n0 ≤ id ∧ (ys.flatMap AV.cells).all (nref id) = true ∧ r.xs.all (nref id) = true ∧ (len + ys.length) * bytes ≤ 140737488355328 ∧ len + ys.length ≤ 9223372036854775807 then
            some (.mu id 0 (len + ys.length) (a0H oc (len + ys.length)), scrub id env, (a0P id H).set id (some ⟨wd, r.xs.take len ++ ys⟩)) else none
      | _ => none
theorem c7u (wd bytes : Nat) (str : Bool) (a b : Src) : ev n0 (.app wd bytes str a b) env H = appV n0 wd bytes str (a.ev env) (b.ev env) env H := by
  simp only [ev, appV]; cases a0z H wd str (b.ev env) <;> simp only [Option.bind_none, Option.bind_some]; split <;> simp_all
theorem b9L (wd bytes : Nat) (str : Bool) (y : AV) (ys : List AV) (hy : a0z (hap H L) wd str y = some ys) (h0 : 0 < wd) (h1 : ys.length * bytes ≤ 140737488355328) (h2 : ys.length ≤ 9223372036854775807) :
    appV n0 wd bytes str .nil y env (hap H L) = some (.mu (lid H L.length) 0 ys.length none, env, hap H (L ++ [some ⟨wd, ys⟩])) := by
  simp only [appV, hy, Option.bind_some, b8C, b9e]
  rw [if_pos ⟨h0, h1, h2⟩]
/-- No row of these names the i-th. -/
def c4A (H : Heap) (L : Heap) (i : Nat) : Prop := ∀ (j : Nat) b, L[j]? = some (some b) → ∀ a ∈ b.flat, Ref (· ≠ lid H i) a
theorem b6D {H L : Heap} {i : Nat} (h : ∀ b, some b ∈ L → ∀ a ∈ b.flat, Cl a) : c4A H L i := fun j b hb a ha => (h b (List.mem_of_getElem? hb) a ha).ref
theorem c3N {H L : Heap} {i : Nat} (hH : a0r H) (h : c4A H L i) : free (hap H L) (lid H i) = true := by
  rw [b3c]
  intro j bj hj hb a ha
  rcases Nat.lt_or_ge j H.length with hlt | hge
  · simp only [hap] at hb
    rw [List.getElem?_append_left hlt] at hb
    exact (hH j bj hb a ha).mono fun k hk => by show k ≠ lid H i; simp only [lid]; omega
  · simp only [hap] at hb
    rw [List.getElem?_append_right hge] at hb
    exact h _ bj hb a ha
theorem b6G (wd bytes : Nat) (str : Bool) (i len : Nat) (oc : Option Nat) (y : AV) (xs ys : List AV) (hH : a0r H) (hl : L[i]? = some (some ⟨wd, xs⟩)) (hlen : len = xs.length) (hn : n0 ≤ lid H i) (hy : a0z (hap H L) wd str y = some ys) (ha : c4A H L i)
    (hys : ∀ a ∈ ys.flatMap AV.cells, Ref (· ≠ lid H i) a) (h1 : (len + ys.length) * bytes ≤ 140737488355328) (h2 : len + ys.length ≤ 9223372036854775807) (hoc : (oc.any fun c => decide (len + ys.length ≤ c)) = false) :
    appV n0 wd bytes str (.mu (lid H i) 0 len oc) y env (hap H L) = some (.mu (lid H i) 0 (len + ys.length) (a0H oc (len + ys.length)), scrub (lid H i) env, hap H (L.set i (some ⟨wd, xs ++ ys⟩))) := by
  subst hlen
  simp only [appV, hy, Option.bind_some, a1U, hl, Option.join_some, a4v]
  rw [if_neg (fun h => by rw [hoc] at h; exact absurd h.2.2.2.2.2 (by decide)), if_pos]
  · simp
  · refine ⟨trivial, trivial, Nat.le_refl _, hn, c3N hH ha, ?_, ?_, h1, h2⟩
    · rw [List.all_eq_true]; intro a h; exact a0i.2 (hys a h)
    · rw [List.all_eq_true]; intro a h; exact a0i.2 (ha i _ hl a h)
theorem a2Q (wd : Nat) (xs : List AV) : a0z H wd false (.sl wd xs) = some xs := by simp [a0z]
end
theorem c6b (k : IntKind) (n : Int) : (AV.int k n).fit = true := rfl
theorem c3Q (b : Bool) : (AV.bool b).fit = true := rfl
theorem c5Y (s : ByteArray) : (AV.str s).fit = true := rfl
theorem c6c (cs : List AV) : (AV.agg cs).fit = true := rfl
theorem c7m (wd : Nat) (xs : List AV) : (AV.sl wd xs).fit = true := rfl
theorem c5Z : AV.nil.fit = true := rfl
theorem c7o (id off len : Nat) (oc : Option Nat) : (AV.mu id off len oc).fit = true := rfl
theorem c6a (id i off : Nat) : (AV.loc id i off).fit = true := rfl
theorem c7p (f : FuncId) (cs : List AV) : (AV.fn f cs).fit = true := rfl
theorem c7n (x : AV) (off : Nat) : (AV.ro x off).fit = true := rfl
theorem a7u (x : AV) (wd : Nat) (v : AV) : upd x wd 0 wd v = v := by simp [upd]
theorem c3c (env : Env) (H : Heap) : resL env H [] = some [] := rfl
theorem c3b (env : Env) (H : Heap) (t : Nat) (r : List ResV) : resL env H (.tmp t :: r) = (resL env H r).map (look env t :: ·) := rfl
theorem c1r (env : Env) (H : Heap) (t : Nat) (n : Option Nat) (r : List ResV) : resL env H (.cell t n :: r) = (b2Q H n (look env t)).bind fun a => (resL env H r).map (a :: ·) := rfl
theorem c1z (a : AV) : b2O [a] = a := rfl
theorem c1y (a b : AV) (r : List AV) : b2O (a :: b :: r) = .tup (a :: b :: r) := rfl
theorem c1A : b2O [] = .tup [] := rfl
/-- What a call answers with. -/
def gret (o : Option (List AV)) (k : AV → Prop) : Prop := match o with
  | some aXs => k (b2O aXs)
  | none => False
theorem c2c (aXs : List AV) (k : AV → Prop) : gret (some aXs) k = k (b2O aXs) := rfl
@[congr] theorem c6D {x y : Option (List AV)} {k : AV → Prop} (h : x = y) : gret x k = gret y k := by rw [h]
theorem Safe.retn {x : Cx} {todo : List AItem} {env : Env} {H : Heap} {R : AV → Heap → Prop} (h : gret (resL env H x.rs) fun r => R r H) : Safe x (.code .ret :: todo) env H R := by
  unfold gret at h
  split at h
  · rename_i aXs ha; exact Safe.ret ha h
  · exact h.elim
theorem Safe.donen {x : Cx} {env : Env} {H : Heap} {R : AV → Heap → Prop} (h : gret (resL env H x.rs) fun r => R r H) : Safe x [] env H R := by
  unfold gret at h
  split at h
  · rename_i aXs ha; exact Safe.done ha h
  · exact h.elim
theorem a7r : (0 < 1) = True := by decide
/-- The evaluator. -/
def EV := And.intro (And.intro (And.intro (@b8Q) (@b7O)) (And.intro (@c6y) (@c6l))) <| And.intro (And.intro (And.intro (And.intro (And.intro (And.intro (And.intro (@c4z) (@c2H)) (And.intro (@c2G) (And.intro (@c6v) (@c6w)))) (And.intro (And.intro (@c0Q) (@b9b)) (And.intro (@c2y) (And.intro (@c3X) (@c2l))))) (And.intro (And.intro (And.intro (@c2k) (@c6i)) (And.intro (@c6j) (And.intro (@c0K) (@b8X)))) (And.intro (And.intro (@c2o) (@c0n)) (And.intro (@c0o) (And.intro (@c0I) (@c0J)))))) (And.intro (And.intro (And.intro (And.intro (@c0F) (@c7E)) (And.intro (@c7F) (And.intro (@c1Q) (@c3B)))) (And.intro (And.intro (@c3g) (@c3h)) (And.intro (@c2i) (And.intro (@c0H) (@c5p))))) (And.intro (And.intro (And.intro (@c5o) (@c0m)) (And.intro (@b7k) (And.intro (@c3i) (@c6T)))) (And.intro (And.intro (@c5r) (@b9x)) (And.intro (@c6W) (And.intro (@c6X) (@c7z))))))) (And.intro (And.intro (And.intro (And.intro (And.intro (@c7y) (@c7H)) (And.intro (@c5b) (And.intro (@c5a) (@c5v)))) (And.intro (And.intro (@c2p) (@c6U)) (And.intro (@c3T) (And.intro (@c5u) (@c5X))))) (And.intro (And.intro (And.intro (@c3O) (@c5t)) (And.intro (@c5s) (And.intro (@b9E) (@c1v)))) (And.intro (And.intro (@c6R) (@c5n)) (And.intro (@c6V) (And.intro (@c5q) (@c6S)))))) (And.intro (And.intro (And.intro (And.intro (@c3v) (@c6Y)) (And.intro (@c4x) (And.intro (@b8D) (@c3D)))) (And.intro (And.intro (@b1m) (@c4l)) (And.intro (@c4k) (And.intro (@c4w) (@c4j))))) (And.intro (And.intro (And.intro (@c4p) (@c6t)) (And.intro (@c4v) (And.intro (@c4i) (@c4u)))) (And.intro (And.intro (@c4o) (And.intro (@c4q) (@c4r))) (And.intro (@c4s) (And.intro (@c4t) (@b8a)))))))) (And.intro (And.intro (And.intro (And.intro (And.intro (And.intro (@c2B) (@c1R)) (And.intro (@c7B) (And.intro (@b4B) (@c2w)))) (And.intro (And.intro (@c2v) (@c0M)) (And.intro (@c2r) (And.intro (@c2t) (@c2u))))) (And.intro (And.intro (And.intro (@c4c) (@b9I)) (And.intro (@b7V) (And.intro (@c4d) (@a1U)))) (And.intro (And.intro (@b8C) (@a4v)) (And.intro (@b9e) (And.intro (@c7g) (@c0P)))))) (And.intro (And.intro (And.intro (And.intro (@join_some) (@c3E)) (And.intro (@c1V) (And.intro (@c3U) (@c7t)))) (And.intro (And.intro (@c7s) (@c6f)) (And.intro (@c6e) (And.intro (@c7u) (@c6b))))) (And.intro (And.intro (And.intro (@c3Q) (@c5Y)) (And.intro (@c6c) (And.intro (@c7m) (@c5Z)))) (And.intro (And.intro (@c7o) (@c6a)) (And.intro (@c7p) (And.intro (@c7n) (@c6q))))))) (And.intro (And.intro (And.intro (And.intro (And.intro (@c4b) (@c6o)) (And.intro (@c6p) (And.intro (@c3l) (@a8z)))) (And.intro (And.intro (@c1D) (@c3m)) (And.intro (@c3n) (And.intro (@c3o) (@c1C))))) (And.intro (And.intro (And.intro (@c5B) (@c3p)) (And.intro (@c3k) (And.intro (@c5D) (@c5C)))) (And.intro (And.intro (@b6m) (@c1p)) (And.intro (@c0c) (And.intro (@c5V) (@c3I)))))) (And.intro (And.intro (And.intro (And.intro (@c5R) (@c5S)) (And.intro (@c5Q) (And.intro (@c5U) (@c7j)))) (And.intro (And.intro (@c7k) (@c5W)) (And.intro (@c5P) (And.intro (@c7l) (@c3M))))) (And.intro (And.intro (And.intro (@c2f) (@c3J)) (And.intro (@c2e) (And.intro (@c2d) (@a7u)))) (And.intro (And.intro (@c3c) (And.intro (@c3b) (@c1r))) (And.intro (@c1z) (And.intro (@c1y) (And.intro @c1A (And.intro @c2c @a7r)))))))))
def EVC := And.intro (And.intro (And.intro (And.intro (And.intro (@List.map_cons.{0,0}) (@List.map_nil.{0,0})) (And.intro (@List.length_cons.{0}) (And.intro (@List.length_nil.{0}) (@List.cons_append.{0})))) (And.intro (And.intro (@List.nil_append.{0}) (@List.all_cons.{0})) (And.intro (@List.all_nil.{0}) (And.intro (@Option.map_some.{0,0}) (@Option.map_none.{0,0}))))) (And.intro (And.intro (And.intro (@Option.bind_some.{0,0}) (@Option.bind_none.{0,0})) (And.intro (@Option.isSome_some.{0}) (And.intro (@List.getElem?_cons_zero.{0}) (@List.getElem?_cons_succ.{0})))) (And.intro (And.intro (@List.set_cons_zero.{0}) (@List.set_cons_succ.{0})) (And.intro (@Option.join_some.{0}) (And.intro (@List.getD_cons_zero.{0}) (@List.drop_zero.{0})))))) (And.intro (And.intro (And.intro (And.intro (And.intro (@if_true.{0}) (@if_true.{1})) (And.intro (@if_false.{0}) (@if_false.{1}))) (And.intro (@Bool.false_eq_true) (And.intro (@Bool.true_and) (@Bool.and_true)))) (And.intro (And.intro (@Bool.not_true) (@Bool.not_false)) (And.intro (@decide_true) (And.intro (@decide_false) (@Bool.and_self))))) (And.intro (And.intro (And.intro (@ne_eq.{1}) (@not_true_eq_false)) (And.intro (@not_false_eq_true) (And.intro (@and_self) (@and_true)))) (And.intro (And.intro (@true_and) (@Nat.zero_add)) (And.intro (@Nat.add_zero) (And.intro (@Option.some.injEq.{0}) (@Nat.lt_add_one))))))
end Go.Abs
namespace Go.Abs
/-- Whatever is the one is the other. -/
def Le (a b : AV) : Prop := ∀ E v, Rep E v a → Rep E v b
theorem Le.refl (a : AV) : Le a a := fun _ _ h => h
theorem Le.trans {a b c : AV} (h : Le a b) (k : Le b c) : Le a c := fun E v r => k E v (h E v r)
theorem Le.nil (wd : Nat) (h : 0 < wd) : Le .nil (.sl wd []) := fun E v r => a5P wd h r
theorem Le.top (a : AV) : Le a .top := fun E v r => .top v
theorem Le.agg {aXs bs : List AV} (hl : aXs.length = bs.length) (h : ∀ (k : Nat) a b, aXs[k]? = some a → bs[k]? = some b → Le a b) : Le (.agg aXs) (.agg bs) := by
  intro E v r
  cases r with
  | agg vs _ hlen h1 hrep =>
    refine .agg vs bs (by omega) h1 fun k v b hv hb => ?_
    have hk := a0h hb
    exact h k _ b (List.getElem?_eq_getElem (by omega)) hb E v (hrep k v _ hv (List.getElem?_eq_getElem (by omega)))
  | dead v a id hr hd h1 => simp [AV.ref] at hr
theorem Le.tup {aXs bs : List AV} (hl : aXs.length = bs.length) (h : ∀ (k : Nat) a b, aXs[k]? = some a → bs[k]? = some b → Le a b) : Le (.tup aXs) (.tup bs) := by
  intro E v r
  cases r with
  | tup vs _ hlen hrep =>
    refine .tup vs bs (by omega) fun k v b hv hb => ?_
    have hk := a0h hb
    exact h k _ b (List.getElem?_eq_getElem (by omega)) hb E v (hrep k v _ hv (List.getElem?_eq_getElem (by omega)))
  | dead v a id hr hd h1 => simp [AV.ref] at hr
theorem Le.agg2 {a b c d : AV} (h : Le a c) (k : Le b d) : Le (.agg [a, b]) (.agg [c, d]) := Le.agg rfl fun i x y hx hy => by
  match i with
  | 0 => cases hx; cases hy; exact h
  | 1 => cases hx; cases hy; exact k
theorem Le.tup3 {a b e c d f : AV} (h : Le a c) (k : Le b d) (l : Le e f) : Le (.tup [a, b, e]) (.tup [c, d, f]) := Le.tup rfl fun i x y hx hy => by
  match i with
  | 0 => cases hx; cases hy; exact h
  | 1 => cases hx; cases hy; exact k
  | 2 => cases hx; cases hy; exact l
theorem ACalls.cutL {P : Program} {f : FuncId} {args : List AV} {H : Heap} {r : AV} (hr : Ref (· < H.length) r) (h : ACalls P f args H fun r' H' => Le r' r ∧ ∃ L, H' = hap H L) : ACalls P f args H fun r' H' => r' = r ∧ H' = H := by
  refine ⟨h.1, fun φ w vs hok hl hrep => (h.2 φ w vs hok hl hrep).mono ?_⟩
  rintro e w' ⟨v, r', φ', H', rfl, ⟨hle, L, rfl⟩, q1, q2, q3, q4⟩
  have hfree : ∀ (j : Nat) bj, j < H.length → (hap H L)[j]? = some (some bj) → ∀ a ∈ bj.flat, Ref (· < H.length) a := by
    intro j bj hj hb
    simp only [hap] at hb
    rw [List.getElem?_append_left hj] at hb
    exact hok.refs hb
  have hcut := HOk.cut q1 H.length hfree
  have ht : (hap H L).take H.length = H := by simp [hap]
  simp only [ht] at hcut
  exact ⟨v, r, φ', H, rfl, ⟨rfl, rfl⟩, hcut.1, (hle _ _ q2).mono hcut.2 hr, Nat.le_refl _, q4.trans hcut.2⟩
theorem a0o.introL {P : Program} {mu : Nat → Nat → Bool} {f : FuncId} {fn : Func} (hf : P.funcs[f]? = some fn) {ac : ACode} {rs : List ResV} {nt : Nat} (hc : fchk P mu fn = some (ac, rs, nt))
    {args : List AV} {r : AV} (ha : args.length ≤ nt) (hr : Cl r) (h : ∀ H, a0r H → Safe ⟨P, mu, f, nt, rs, H.length⟩ [.code ac] (a8G 0 args) (hap H []) fun r' H' => Le r' r ∧ ∃ L, H' = hap H L) : a0o P f args r := by
  intro H
  refine ACalls.cutL hr.ref (ACalls.intro hf hc ha fun hH => ?_)
  have := h H hH
  rw [a4L] at this
  exact this
theorem c5g (n i off : Nat) (v : AV) (env : Env) (H L : Heap) : a4Z n (.loc (lid H i) 0 off) v env (hap H L) = (L[i]?).join.bind fun b =>
    if 0 < b.xs.length ∧ v.fit = true ∧ v.cells.length = n ∧ off + n ≤ b.wd then some (.top, env, hap H (L.set i (some ⟨b.wd, b.xs.set 0 (upd (b.xs.getD 0 .top) b.wd off n v)⟩))) else none := by
  simp only [a4Z, a1U, a4v]
theorem c4h (env : Env) (cs : List AV) : bldV env cs [] = some cs := rfl
theorem c2z (env : Env) (cs : List AV) (off n : Nat) (s : Src) (r : List (Nat × Nat × Src)) :
    bldV env cs ((off, n, s) :: r) = if (s.ev env).cells.length = n ∧ off + n ≤ cs.length ∧ (s.ev env).fit = true then bldV env (a1p cs off (s.ev env).cells) r else none := rfl
theorem c1k (cs : List AV) (off : Nat) (aXs : List AV) : a1p cs off aXs = cs.take off ++ aXs ++ cs.drop (off + aXs.length) := rfl
def EV2 := And.intro (And.intro @c5g (And.intro @c4h (And.intro @c2z @c1k))) (And.intro (And.intro (And.intro (@List.drop_succ_cons.{0}) (@List.take_succ_cons.{0})) (And.intro (@List.take_zero.{0}) (@List.take_nil.{0}))) (And.intro (And.intro (@List.drop_nil.{0}) (@List.append_nil.{0})) (And.intro (@Nat.le_refl) (@Nat.lt_irrefl))))
end Go.Abs
namespace Go.Abs
section
variable {x : Cx} {l : ACode} {todo : List AItem} {R : AV → Heap → Prop}
/-- The structural steps. -/
def stl : Nat → List AItem → List AItem
  | 0, k => k
  | n + 1, .code (.seq a b) :: k => stl n (.code a :: .code b :: k)
  | n + 1, .code .skip :: k => stl n k
  | n + 1, .code (.block id a) :: k => stl n (.code a :: .inBlock id :: k)
  | n + 1, .inBlock _ :: k => stl n k
  | n + 1, .code (.scope a) :: k => stl n (.code a :: .inScope a :: k)
  | n + 1, .inScope _ :: k => stl n k
  | n + 1, .code (.exit id) :: k => match b4H id k with
    | some k' => stl n k'
    | none => .code (.exit id) :: k
  | n + 1, .code (.label _) :: k => stl n k
  | n + 1, .code (.goto l) :: k => match b4G l k with
    | some k' => stl n k'
    | none => .code (.goto l) :: k
  | _, k => k
theorem Safe.stl {env : Env} {H : Heap} : ∀ (n : Nat) (k : List AItem), Safe x (stl n k) env H R → Safe x k env H R := by
  intro n
  induction n with
  | zero => intro k h; cases k <;> exact h
  | succ n ih =>
    intro k h
    unfold Abs.stl at h
    split at h
    · rename_i h0; cases h0
    · rename_i h0; cases h0; exact Safe.seq (ih _ h)
    · rename_i h0; cases h0; exact Safe.skip (ih _ h)
    · rename_i h0; cases h0; exact Safe.block (ih _ h)
    · rename_i h0; cases h0; exact Safe.inBlock (ih _ h)
    · rename_i h0; cases h0; exact Safe.scope (ih _ h)
    · rename_i h0; cases h0; exact Safe.inScope (ih _ h)
    · rename_i h0; cases h0
      split at h
      · rename_i he; exact Safe.exit he (ih _ h)
      · exact h
    · rename_i h0; cases h0; exact Safe.label (ih _ h)
    · rename_i h0; cases h0
      split at h
      · rename_i he; exact Safe.goto he (ih _ h)
      · exact h
    · exact h
theorem Safe.rg {env : Env} {H : Heap} {k k' : List AItem} {b : Bool} {l : List AIns} (e : Abs.stl 40 k = .code (.region l b) :: k')
    (h : if b = true then dops x.P x.n0 l (fun env' H' => Safe x k' env' H' R) env H else aops x.P x.n0 l (fun env' H' => Safe x k' env' H' R) env H) : Safe x k env H R := by
  refine Safe.stl 40 k ?_
  rw [e]
  cases b
  · exact Safe.region h
  · exact Safe.regionD h
theorem Safe.cd {env : Env} {H : Heap} {k k' : List AItem} {s : Src} {a b : ACode} (e : Abs.stl 40 k = .code (.cond s a b) :: k')
    (h : b6w (s.ev env) fun c => if c then Safe x (.code a :: k') env H R else Safe x (.code b :: k') env H R) : Safe x k env H R := by
  refine Safe.stl 40 k ?_
  rw [e]
  exact Safe.cond h
theorem Safe.lp {env : Env} {H : Heap} {k k' : List AItem} {a : ACode} (e : Abs.stl 40 k = .code (.loop a) :: k') (h : Safe x (.inLoop a :: k') env H R) : Safe x k env H R := by
  refine Safe.stl 40 k ?_
  rw [e]
  exact Safe.loop h
theorem Safe.rt {env : Env} {H : Heap} {k k' : List AItem} (e : Abs.stl 40 k = .code .ret :: k') (h : gret (resL env H x.rs) fun r => R r H) : Safe x k env H R := by
  refine Safe.stl 40 k ?_
  rw [e]
  exact Safe.retn h
theorem Safe.loopP (n : Nat) (E : Nat → Env) (G : Nat → Heap) (P : Nat → Prop) {env : Env} {H : Heap} (he : env = E 0) (hG : H = G 0) (h0 : P 0)
    (step : ∀ i, i < n → P i → (P (i + 1) → Safe x (.inLoop l :: todo) (E (i + 1)) (G (i + 1)) R) → Safe x (.inLoop l :: todo) (E i) (G i) R)
    (last : P n → Safe x (.inLoop l :: todo) (E n) (G n) R) : Safe x (.inLoop l :: todo) env H R := by
  subst he; subst hG
  have key : ∀ k i, i + k = n → P i → Safe x (.inLoop l :: todo) (E i) (G i) R := by
    intro k
    induction k with
    | zero => intro i hi hp; rw [show i = n by omega] at hp ⊢; exact last hp
    | succ k ih => intro i hi hp; exact step i (by omega) hp fun hp' => ih (i + 1) (by omega) hp'
  exact key n 0 (by omega) h0
theorem Safe.loopN (n : Nat) (E : Nat → Env) (G : Nat → Heap) {env : Env} {H : Heap} (he : env = E 0) (hG : H = G 0)
    (step : ∀ i, i < n → Safe x (.inLoop l :: todo) (E (i + 1)) (G (i + 1)) R → Safe x (.inLoop l :: todo) (E i) (G i) R)
    (last : Safe x (.inLoop l :: todo) (E n) (G n) R) : Safe x (.inLoop l :: todo) env H R :=
  Safe.loopP n E G (fun _ => True) he hG trivial (fun i hi _ ih => step i hi (ih trivial)) fun _ => last
/-- A loop with a measure. -/
theorem Safe.loopW {α : Type} (μ : α → Nat) (E : α → Env) (G : α → Heap) (P : α → Prop) (a0 : α) {env : Env} {H : Heap} (he : env = E a0) (hG : H = G a0) (h0 : P a0)
    (step : ∀ a, P a → (∀ b, P b → μ b < μ a → Safe x (.inLoop l :: todo) (E b) (G b) R) → Safe x (.inLoop l :: todo) (E a) (G a) R) : Safe x (.inLoop l :: todo) env H R := by
  subst he; subst hG
  have key : ∀ k a, μ a ≤ k → P a → Safe x (.inLoop l :: todo) (E a) (G a) R := by
    intro k
    induction k with
    | zero => intro a ha hp; exact step a hp fun b hb hlt => absurd hlt (by omega)
    | succ k ih => intro a ha hp; exact step a hp fun b hb hlt => ih b (by omega) hb
  exact key (μ a0) a0 (Nat.le_refl _) h0
end
end Go.Abs
namespace Go.Abs
theorem Ref.both {S T : Nat → Prop} {a : AV} (h : Ref S a) (k : Ref T a) : Ref (fun i => S i ∧ T i) a := by
  induction h with
  | top => exact .top
  | int => exact .int _ _
  | bool => exact .bool _
  | str => exact .str _
  | nil => exact .nil
  | lit => exact .lit _
  | sl => exact .sl _ _
  | ro => exact .ro _ _
  | mu i off len oc h => cases k with | mu _ _ _ _ h' => exact .mu i off len oc ⟨h, h'⟩
  | mp b i h => cases k with | mp _ _ h' => exact .mp b i ⟨h, h'⟩
  | mo l => exact .mo l
  | io i n seen => exact .io i n seen
  | loc i k off h => cases k with | loc _ _ _ h' => exact .loc i _ off ⟨h, h'⟩
  | agg cs h ih => cases k with | agg _ h' => exact .agg cs fun c hc => ih c hc (h' c hc)
  | tup cs h ih => cases k with | tup _ h' => exact .tup cs fun c hc => ih c hc (h' c hc)
  | fn f cs h ih => cases k with | fn _ _ h' => exact .fn f cs fun c hc => ih c hc (h' c hc)
  | bfn f cs h ih => cases k with | bfn _ _ h' => exact .bfn f cs fun c hc => ih c hc (h' c hc)
theorem b7u {env : Env} {id : Nat} (h : env.all (fun p => nref id p.2) = true) (t : Nat) : Ref (· ≠ id) (look env t) := by
  induction env with
  | nil => exact .top
  | cons p env ih =>
    simp only [List.all_cons, Bool.and_eq_true] at h
    simp only [look]
    split
    · exact a0i.1 h.1
    · exact ih h.2
theorem Safe.drop {x : Cx} {todo : List AItem} {env : Env} {H L : Heap} {R : AV → Heap → Prop} {o : Option Blk} (hH : a0r H) (hx : x.n0 = H.length) (he : env.all (fun p => nref (lid H L.length) p.2) = true)
    (hL : ∀ b, some b ∈ L → ∀ a ∈ b.flat, nref (lid H L.length) a = true) (h : Safe x todo env (hap H L) R) : Safe x todo env (hap H (L ++ [o])) R := by
  intro φ w tmps b k cs hg hn hb hk htd hsz hok hrep
  have hlen : (hap H (L ++ [o])).length = lid H L.length + 1 := by simp [hap, lid, Nat.add_assoc]
  have lt : ∀ {a}, Ref (· < (hap H (L ++ [o])).length) a → Ref (· ≠ lid H L.length) a → Ref (· < lid H L.length) a := fun h1 h2 => (h1.both h2).mono fun i ⟨q1, q2⟩ => by rw [hlen] at q1; show i < _; omega
  have htake : (hap H (L ++ [o])).take (lid H L.length) = hap H L := by
    simp only [hap, lid, ← List.append_assoc]
    rw [show H.length + L.length = (H ++ L).length by simp, List.take_left']
    rfl
  have hcut := HOk.cut (E := ⟨φ, hap H (L ++ [o]), w⟩) hok (lid H L.length) (by
    intro j bj hj hbj a ha
    refine lt (hok.refs hbj a ha) ?_
    simp only [hap] at hbj
    rcases Nat.lt_or_ge j H.length with hlt | hge
    · rw [List.getElem?_append_left hlt] at hbj
      exact (hH j bj hbj a ha).mono fun i hi => by show i ≠ H.length + L.length; have : i < H.length := hi; omega
    · rw [List.getElem?_append_right hge] at hbj
      have hj2 : j - H.length < L.length := by simp only [lid] at hj; omega
      rw [List.getElem?_append_left hj2] at hbj
      exact a0i.1 (hL bj (List.mem_of_getElem? hbj) a ha))
  simp only [htake] at hcut
  obtain ⟨v, w', fr, r, φ', H', q1, q2, q3, q4, q5, q6⟩ := h φ w tmps b k cs hg (by rw [hx]; simp [hap]) hb hk htd hsz hcut.1 (fun t => (hrep t).mono hcut.2 (lt (hrep t).ref (b7u he t)))
  exact ⟨v, w', fr, r, φ', H', q1, q2, q3, q4, (hcut.2.sub fun i hi => by rw [hx] at hi; show i < H.length + L.length; have : i < H.length := hi; omega).trans q5, q6⟩
/-- The same where the other rows are closed. -/
theorem Safe.dropC {x : Cx} {todo : List AItem} {env : Env} {H L : Heap} {R : AV → Heap → Prop} {o : Option Blk} (hH : a0r H) (hx : x.n0 = H.length) (he : env.all (fun p => nref (lid H L.length) p.2) = true)
    (hL : ∀ b, some b ∈ L → ∀ a ∈ b.flat, Cl a) (h : Safe x todo env (hap H L) R) : Safe x todo env (hap H (L ++ [o])) R :=
  Safe.drop hH hx he (fun b hb a ha => a1J (hL b hb a ha)) h
end Go.Abs
namespace Go.Abs
theorem a0o.ofBelow {P : Program} {f : FuncId} {fn : Func} (hf : P.funcs[f]? = some fn) (hn : (fn.name == "runtime.NumGoroutine") = false) (hb : fn.body.isSome = true) {args : List AV} {r : AV}
    (h : ∀ (E : Emb) (vs : List Value), HOk E → vs.length = args.length → (∀ (k : Nat) v a, vs[k]? = some v → args[k]? = some a → Rep E v a) →
      Calls P f vs.toArray E.w fun e w' => (∃ v, e = .returned v ∧ ∀ E', Rep E' v r) ∧ Go.RowKit.Below E.w.heap.size E.w w') : a0o P f args r := by
  intro H
  refine ⟨⟨fn, hf, hn, hb⟩, fun φ w vs hok hl hrep => (h ⟨φ, H, w⟩ vs hok hl hrep).mono ?_⟩
  rintro e w' ⟨⟨v, rfl, hv⟩, hbl⟩
  exact ⟨v, r, φ, H, rfl, ⟨rfl, rfl⟩, HOk.of_heap (E := ⟨φ, H, w⟩) hbl.os hbl.tape hbl.output hbl.size (fun b hb => hbl.block b hb) hok, hv _, Nat.le_refl _,
    Ext.of_heap (E := ⟨φ, H, w⟩) hbl.os hbl.tape hbl.output hbl.size (fun b hb => hbl.block b hb) hok⟩
end Go.Abs
namespace Go.Abs
theorem a0r.set {H : Heap} (h : a0r H) (id : Nat) {b : Blk} (hb : ∀ a ∈ b.flat, Ref (· < H.length) a) : a0r (H.set id (some b)) := by
  intro j bj hj a ha
  rw [List.length_set]
  rw [List.getElem?_set] at hj
  split at hj
  · split at hj
    · cases hj; exact hb a ha
    · cases hj
  · exact h j bj hj a ha
/-- A function's rows of its own are forgotten; what it wrote below stays. -/
theorem ACalls.eff {P : Program} {mu : Nat → Nat → Bool} {f : FuncId} {fn : Func} (hf : P.funcs[f]? = some fn) {ac : ACode} {rs : List ResV} {nt : Nat} (hc : fchk P mu fn = some (ac, rs, nt))
    {args : List AV} {H : Heap} {R : AV → Heap → Prop} (ha : args.length ≤ nt)
    (h : a0r H → Safe ⟨P, mu, f, nt, rs, H.length⟩ [.code ac] (a8G 0 args) (hap H []) fun r' H' => ∃ H1 L, H' = hap H1 L ∧ H1.length = H.length ∧ a0r H1 ∧ Ref (· < H.length) r' ∧ R r' H1) : ACalls P f args H R := by
  have h0 : ACalls P f args H fun r' H' => ∃ H1 L, H' = hap H1 L ∧ H1.length = H.length ∧ a0r H1 ∧ Ref (· < H.length) r' ∧ R r' H1 := ACalls.intro hf hc ha fun hH => by
    have := h hH
    rw [a4L] at this
    exact this
  refine ⟨h0.1, fun φ w vs hok hl hrep => (h0.2 φ w vs hok hl hrep).mono ?_⟩
  rintro e w' ⟨v, r', φ', H', rfl, ⟨H1, L, rfl, hlen, hrefs, hcl, hR⟩, q1, q2, q3, q4⟩
  have hfree : ∀ (j : Nat) bj, j < H.length → (hap H1 L)[j]? = some (some bj) → ∀ a ∈ bj.flat, Ref (· < H.length) a := by
    intro j bj hj hb
    simp only [hap] at hb
    rw [List.getElem?_append_left (by omega)] at hb
    have := hrefs j bj hb
    rwa [hlen] at this
  have hcut := HOk.cut q1 H.length hfree
  have ht : (hap H1 L).take H.length = H1 := by simp [hap, ← hlen]
  simp only [ht] at hcut
  exact ⟨v, r', φ', H1, rfl, hR, hcut.1, q2.mono hcut.2 hcl, by omega, q4.trans hcut.2⟩
section
variable {H L : Heap} {id : Nat} (hid : id < H.length)
include hid
theorem b6l (b : Blk) : hrow (hap (H.set id (some b)) L) id = some b := by
  rw [c3F _ _ _ (by simpa using hid)]
  simp [hrow, hid]
theorem c5y (b : Option Blk) (b' : Option Blk) : (hap (H.set id b) L).set id b' = hap (H.set id b') L := by
  unfold hap
  rw [List.set_append_left _ _ (by simpa using hid), List.set_set]
theorem c1B (b : Blk) (off len : Nat) (oc : Option Nat) : lenV (hap (H.set id (some b)) L) (.mu id off len oc) = some (.int .i64 len) := by
  rw [b1m, b6l hid]; rfl
theorem c5z (wd : Nat) (X : List AV) (off len j : Nat) (oc : Option Nat) (k : IntKind) (h : j < len) : idxV (hap (H.set id (some ⟨wd, X⟩)) L) wd (.mu id off len oc) (.int k j) = some (.loc id (off + j) 0) := by
  rw [b1r _ _ _ _ _ _ _ _ (by omega) (by omega), b6l hid]
  simp
theorem c7b (b : Blk) (j : Nat) (h : j < b.xs.length) : atV (hap (H.set id (some b)) L) (.loc id j 0) = some (b.xs.getD j .top).cells := by
  rw [b4B, b6l hid]; simp [h]
theorem c7a (env : Env) (b : Blk) (n j : Nat) (v : AV) (h : j < b.xs.length) (hf : v.fit = true) (hn : v.cells.length = n) (ho : n ≤ b.wd) :
    a4Z n (.loc id j 0) v env (hap (H.set id (some b)) L) = some (.top, env, hap (H.set id (some ⟨b.wd, b.xs.set j (upd (b.xs.getD j .top) b.wd 0 n v)⟩)) L) := by
  simp only [a4Z, b6l hid, Option.bind_some, c5y hid]
  rw [if_pos ⟨h, hf, hn, by omega⟩]
end
theorem c2Z {H : Heap} {id : Nat} {b : Option Blk} (h : H[id]? = some b) : H.set id b = H := by
  apply List.ext_getElem?
  intro j
  rw [List.getElem?_set]
  split
  · rename_i e; subst e
    have := (List.getElem?_eq_some_iff.1 h).1
    rw [if_pos this, h]
  · rfl
end Go.Abs
namespace Go.Abs
def fr (n : Nat) (f : Nat → AV) : List AV := (List.range n).map f
/-- Rows bound anew: the outer one, and n inner ones behind it. -/
def hm (G : Heap) (β n : Nat) (O : List AV) (R : Nat → Option Blk) : Heap := G.mapIdx fun j o => if j = β then some ⟨1, O⟩ else if β < j ∧ j ≤ β + n then R (j - (β + 1)) else o
/-- A matrix: inner rows of c elements of w cells; logical row i lies at π i. -/
def orow (β n c : Nat) (oc : Option Nat) (π : Nat → Nat) : List AV := fr n fun i => .mu (β + 1 + π i) 0 c oc
def hM (G : Heap) (β n w c : Nat) (oc : Option Nat) (π : Nat → Nat) (S : Nat → Nat → AV) : Heap := hm G β n (orow β n c oc π) fun j => some ⟨w, fr c (S j)⟩
def swp (π : Nat → Nat) (p r : Nat) : Nat → Nat := fun i => if i = p then π r else if i = r then π p else π i
theorem b0O (H L M : Heap) : hap (hap H L) M = hap H (L ++ M) := by simp [hap]
end Go.Abs
namespace Go.Abs
theorem HOk.hrefs {φ : Nat → Option Nat} {H : Heap} {w : World} (h : HOk ⟨φ, H, w⟩) : a0r H := fun id b hb a ha => h.refs (E := ⟨φ, H, w⟩) hb a ha
/-- A row of what is handed out is no longer written. -/
theorem ACalls.frz {P : Program} {f : FuncId} {args : List AV} {H : Heap} {R R2 : AV → Heap → Prop} (h : ACalls P f args H R)
    (hR : a0r H → ∀ r H', R r H' → ∃ id b, H'[id]? = some (some b) ∧ (0 < b.wd ∧ ∀ c ∈ b.flat, Cl c) ∧ R2 (Abs.frz id b r) (frzH id b H')) : ACalls P f args H R2 := by
  refine ⟨h.1, fun φ w vs hok hl hrep => (h.2 φ w vs hok hl hrep).mono ?_⟩
  rintro e w' ⟨v, r, φ', H', rfl, hr, q1, q2, q3, q4⟩
  obtain ⟨id, b, h1, ⟨h0, h2⟩, h3⟩ := hR hok.hrefs r H' hr
  exact ⟨v, _, φ', _, rfl, h3, c4P q1 h0 h1 h2, b8T q1 h0 h1 h2 q2, by simpa [frzH] using q3, q4.trans ((b8U (E := ⟨φ', H', w'⟩)).sub fun _ _ => trivial)⟩
end Go.Abs
namespace Go.Abs
/-- A row of limbs. -/
structure K0 (r : Blk) : Prop where
  wd : r.wd = 1
  pos : 0 < r.xs.length
  len : r.xs.length ≤ 17592186044416
  el : ∀ x ∈ r.xs, ∃ z : Int, x = .int .u32 z
def NatT (n0 : Nat) (A : Heap) (a : AV) : Prop := a = .nil ∨ ∃ id r, a = .mu id 0 r.xs.length (some r.xs.length) ∧ n0 ≤ id ∧ A[id]? = some (some r) ∧ K0 r
def IntT (n0 : Nat) (A : Heap) (a : AV) : Prop := ∃ b m, a = .agg [.bool b, m] ∧ NatT n0 A m
/-- A row of numbers. -/
structure K1 (n0 : Nat) (A : Heap) (r : Blk) : Prop where
  wd : r.wd = 2
  el : ∀ x ∈ r.xs, IntT n0 A x
def VecT (n0 : Nat) (A : Heap) (a : AV) : Prop := a = .nil ∨ ∃ id off l oc r, a = .mu id off l oc ∧ n0 ≤ id ∧ A[id]? = some (some r) ∧ K1 n0 A r ∧ off + l ≤ r.xs.length ∧ l ≤ 2097152
/-- A row of vectors. -/
structure K2 (n0 : Nat) (A : Heap) (r : Blk) : Prop where
  wd : r.wd = 1
  el : ∀ x ∈ r.xs, VecT n0 A x
def MatT (n0 : Nat) (A : Heap) (a : AV) : Prop := a = .nil ∨ ∃ id off l oc r, a = .mu id off l oc ∧ n0 ≤ id ∧ A[id]? = some (some r) ∧ K2 n0 A r ∧ off + l ≤ r.xs.length ∧ l ≤ 2097152
/-- Rows of limbs stay such. -/
def M0 (n0 : Nat) (A B : Heap) : Prop := ∀ id r, n0 ≤ id → A[id]? = some (some r) → K0 r → ∃ r', B[id]? = some (some r') ∧ K0 r' ∧ r'.xs.length = r.xs.length
def M1 (n0 : Nat) (A B : Heap) : Prop := ∀ id r, n0 ≤ id → A[id]? = some (some r) → K1 n0 A r → ∃ r', B[id]? = some (some r') ∧ K1 n0 B r' ∧ r'.xs.length = r.xs.length
def M2 (n0 : Nat) (A B : Heap) : Prop := ∀ id r, n0 ≤ id → A[id]? = some (some r) → K2 n0 A r → ∃ r', B[id]? = some (some r') ∧ K2 n0 B r' ∧ r'.xs.length = r.xs.length
section
variable {n0 : Nat} {A B C : Heap}
theorem M0.refl : M0 n0 A A := fun id r _ h k => ⟨r, h, k, rfl⟩
theorem M0.trans (h : M0 n0 A B) (k : M0 n0 B C) : M0 n0 A C := fun id r h0 h1 h2 => by
  obtain ⟨r', q1, q2, q3⟩ := h id r h0 h1 h2
  obtain ⟨r2, s1, s2, s3⟩ := k id r' h0 q1 q2
  exact ⟨r2, s1, s2, by omega⟩
theorem M1.refl : M1 n0 A A := fun id r _ h k => ⟨r, h, k, rfl⟩
theorem M1.trans (h : M1 n0 A B) (k : M1 n0 B C) : M1 n0 A C := fun id r h0 h1 h2 => by
  obtain ⟨r', q1, q2, q3⟩ := h id r h0 h1 h2
  obtain ⟨r2, s1, s2, s3⟩ := k id r' h0 q1 q2
  exact ⟨r2, s1, s2, by omega⟩
theorem M2.refl : M2 n0 A A := fun id r _ h k => ⟨r, h, k, rfl⟩
theorem M2.trans (h : M2 n0 A B) (k : M2 n0 B C) : M2 n0 A C := fun id r h0 h1 h2 => by
  obtain ⟨r', q1, q2, q3⟩ := h id r h0 h1 h2
  obtain ⟨r2, s1, s2, s3⟩ := k id r' h0 q1 q2
  exact ⟨r2, s1, s2, by omega⟩
theorem NatT.mono (h : M0 n0 A B) {a : AV} (t : NatT n0 A a) : NatT n0 B a := by
  rcases t with rfl | ⟨id, r, rfl, h0, h1, h2⟩
  · exact .inl rfl
  · obtain ⟨r', q1, q2, q3⟩ := h id r h0 h1 h2
    exact .inr ⟨id, r', by rw [q3], h0, q1, q2⟩
theorem IntT.mono (h : M0 n0 A B) {a : AV} (t : IntT n0 A a) : IntT n0 B a := by
  obtain ⟨b, m, rfl, hm⟩ := t
  exact ⟨b, m, rfl, hm.mono h⟩
theorem K1.mono (h : M0 n0 A B) {r : Blk} (k : K1 n0 A r) : K1 n0 B r := ⟨k.wd, fun x hx => (k.el x hx).mono h⟩
theorem VecT.mono (h : M1 n0 A B) {a : AV} (t : VecT n0 A a) : VecT n0 B a := by
  rcases t with rfl | ⟨id, off, l, oc, r, rfl, h0, h1, h2, h3, h4⟩
  · exact .inl rfl
  · obtain ⟨r', q1, q2, q3⟩ := h id r h0 h1 h2
    exact .inr ⟨id, off, l, oc, r', rfl, h0, q1, q2, by omega, h4⟩
theorem K2.mono (h : M1 n0 A B) {r : Blk} (k : K2 n0 A r) : K2 n0 B r := ⟨k.wd, fun x hx => (k.el x hx).mono h⟩
theorem MatT.mono (h : M2 n0 A B) {a : AV} (t : MatT n0 A a) : MatT n0 B a := by
  rcases t with rfl | ⟨id, off, l, oc, r, rfl, h0, h1, h2, h3, h4⟩
  · exact .inl rfl
  · obtain ⟨r', q1, q2, q3⟩ := h id r h0 h1 h2
    exact .inr ⟨id, off, l, oc, r', rfl, h0, q1, q2, by omega, h4⟩
theorem IntT.nint {k : IntKind} {z : Int} (h : IntT n0 A (.int k z)) : False := by
  obtain ⟨b, m, e, _⟩ := h; cases e
theorem VecT.nint {k : IntKind} {z : Int} (h : VecT n0 A (.int k z)) : False := by
  rcases h with e | ⟨_, _, _, _, _, e, _⟩ <;> cases e
theorem K0.no1 {r : Blk} (h : K0 r) (k : K1 n0 A r) : False := by have := h.wd; have := k.wd; omega
theorem K0.no2 {r : Blk} (h : K0 r) (k : K2 n0 A r) : False := by
  have hx : r.xs[0]'h.pos ∈ r.xs := List.getElem_mem _
  obtain ⟨z, e⟩ := h.el _ hx
  have := k.el _ hx
  rw [e] at this
  exact this.nint
theorem K1.no2 {r : Blk} (h : K1 n0 A r) (k : K2 n0 B r) : False := by have := h.wd; have := k.wd; omega
theorem a3C {H L : Heap} {id : Nat} {x : Option Blk} (h : H[id]? = some x) : (hap H L)[id]? = some x := by
  unfold hap; rw [List.getElem?_append_left (a0f h)]; exact h
theorem c3G (A L : Heap) (x : Option Blk) : (hap A (L ++ [x]))[lid A L.length]? = some x := by
  unfold hap lid
  rw [List.getElem?_append_right (by omega)]
  simp
theorem M0.app (L : Heap) : M0 n0 A (hap A L) := fun id r _ h k => ⟨r, a3C h, k, rfl⟩
theorem M1.app (L : Heap) : M1 n0 A (hap A L) := fun id r _ h k => ⟨r, a3C h, k.mono (.app L), rfl⟩
theorem M2.app (L : Heap) : M2 n0 A (hap A L) := fun id r _ h k => ⟨r, a3C h, k.mono (.app L), rfl⟩
theorem a4M {A : Heap} {β id : Nat} {x : Option Blk} (hβ : β < A.length) : (A.set β x)[id]? = if β = id then some x else A[id]? := by
  rw [List.getElem?_set]
  by_cases e : β = id
  · subst e; simp [hβ]
  · rw [if_neg e, if_neg e]
/-- A row that is none of limbs. -/
theorem M0.set {β : Nat} {x : Option Blk} (h : ∀ r, A[β]? = some (some r) → ¬ K0 r) : M0 n0 A (A.set β x) := fun id r _ h1 k => by
  refine ⟨r, ?_, k, rfl⟩
  rw [List.getElem?_set, if_neg (fun e => by subst e; exact h r h1 k)]; exact h1
theorem M0.set0 {β : Nat} {r r' : Blk} (h : A[β]? = some (some r)) (k' : K0 r') (hl : r'.xs.length = r.xs.length) : M0 n0 A (A.set β (some r')) := fun id s h0 h1 k => by
  have hβ := a0f h
  by_cases e : β = id
  · subst e
    rw [h] at h1; cases h1
    exact ⟨r', by rw [a4M hβ, if_pos rfl], k', hl⟩
  · exact ⟨s, by rw [a4M hβ, if_neg e]; exact h1, k, rfl⟩
/-- Limbs written over. -/
theorem c2W {β : Nat} {r r' : Blk} (h : A[β]? = some (some r)) (k : K0 r) (k' : K0 r') (hl : r'.xs.length = r.xs.length) : M0 n0 A (A.set β (some r')) ∧ M1 n0 A (A.set β (some r')) ∧ M2 n0 A (A.set β (some r')) := by
  have hβ := a0f h
  have m0 : M0 n0 A (A.set β (some r')) := .set0 h k' hl
  have m1 : M1 n0 A (A.set β (some r')) := fun id s h0 h1 k1 => by
    refine ⟨s, ?_, k1.mono m0, rfl⟩
    rw [a4M hβ, if_neg (fun e => by subst e; rw [h] at h1; cases h1; exact k.no1 k1)]; exact h1
  refine ⟨m0, m1, fun id s h0 h1 k2 => ⟨s, ?_, k2.mono m1, rfl⟩⟩
  rw [a4M hβ, if_neg (fun e => by subst e; rw [h] at h1; cases h1; exact k.no2 k2)]; exact h1
/-- A number written over. -/
theorem c6L {β i : Nat} {r : Blk} {a : AV} (h : A[β]? = some (some r)) (k : K1 n0 A r) (ha : IntT n0 A a) : M0 n0 A (A.set β (some ⟨2, r.xs.set i a⟩)) ∧ M1 n0 A (A.set β (some ⟨2, r.xs.set i a⟩)) ∧ M2 n0 A (A.set β (some ⟨2, r.xs.set i a⟩)) := by
  have hβ := a0f h
  have m0 : M0 n0 A (A.set β (some ⟨2, r.xs.set i a⟩)) := .set fun s hs k0 => by rw [h] at hs; cases hs; exact k0.no1 k
  have m1 : M1 n0 A (A.set β (some ⟨2, r.xs.set i a⟩)) := fun id s h0 h1 k1 => by
    by_cases e : β = id
    · subst e
      rw [h] at h1; cases h1
      refine ⟨_, by rw [a4M hβ, if_pos rfl], ⟨rfl, fun x hx => ?_⟩, by simp⟩
      rcases List.mem_or_eq_of_mem_set hx with hx | rfl
      · exact (k1.el x hx).mono m0
      · exact ha.mono m0
    · exact ⟨s, by rw [a4M hβ, if_neg e]; exact h1, k1.mono m0, rfl⟩
  refine ⟨m0, m1, fun id s h0 h1 k2 => ⟨s, ?_, k2.mono m1, rfl⟩⟩
  rw [a4M hβ, if_neg (fun e => by subst e; rw [h] at h1; cases h1; exact k.no2 k2)]; exact h1
end
/-- What a spoiler leaves. -/
structure Sp (n0 : Nat) (A B : Heap) : Prop where
  m0 : M0 n0 A B
  m1 : M1 n0 A B
  m2 : M2 n0 A B
  len : B.length = A.length
  refs : a0r B
  low : ∀ id, id < n0 → B[id]? = A[id]?
theorem Sp.refl {n0 : Nat} {A : Heap} (h : a0r A) : Sp n0 A A := ⟨.refl, .refl, .refl, rfl, h, fun _ _ => rfl⟩
theorem Sp.trans {n0 : Nat} {A B C : Heap} (h : Sp n0 A B) (k : Sp n0 B C) : Sp n0 A C := ⟨h.m0.trans k.m0, h.m1.trans k.m1, h.m2.trans k.m2, by rw [k.len, h.len], k.refs, fun id hi => by rw [k.low id hi, h.low id hi]⟩
/-- Rows that name rows from n0 on alone. -/
def Own (n0 : Nat) (L : Heap) : Prop := ∀ b, some b ∈ L → ∀ a ∈ b.flat, Ref (fun j => n0 ≤ j ∧ j < n0 + L.length) a
theorem c5x (n0 : Nat) : Own n0 [] := fun b hb => by cases hb
theorem Own.app {n0 : Nat} {L M : Heap} (h : Own n0 L) (k : ∀ b, some b ∈ M → ∀ a ∈ b.flat, Ref (fun j => n0 ≤ j ∧ j < n0 + (L ++ M).length) a) : Own n0 (L ++ M) := fun b hb a ha => by
  rcases List.mem_append.1 hb with hb | hb
  · exact (h b hb a ha).mono fun j hj => by simp only [List.length_append]; omega
  · exact k b hb a ha
theorem Own.refs {H L : Heap} (hH : a0r H) (h : Own H.length L) : a0r (hap H L) := by
  intro id b hb a ha
  have hl : (hap H L).length = H.length + L.length := by simp [hap]
  rcases Nat.lt_or_ge id H.length with hi | hi
  · unfold hap at hb
    rw [List.getElem?_append_left hi] at hb
    exact (hH id b hb a ha).mono fun j hj => by rw [hl]; have : j < H.length := hj; show j < _; omega
  · unfold hap at hb
    rw [List.getElem?_append_right hi] at hb
    exact (h b (List.mem_of_getElem? hb) a ha).mono fun j hj => by rw [hl]; show j < _; omega
/-- One of the rows bound anew. -/
theorem Own.set {H L : Heap} (h : Own H.length L) {i : Nat} {b' : Blk} (hb' : ∀ a ∈ b'.flat, Ref (fun j => H.length ≤ j ∧ j < H.length + L.length) a) : Own H.length (L.set i (some b')) := fun b hb a ha => by
  rw [List.length_set]
  rcases List.mem_or_eq_of_mem_set hb with hb | hb
  · exact h b hb a ha
  · cases hb; exact hb' a ha
section
variable {n0 : Nat} {A : Heap}
theorem NatT.ref {a : AV} (h : NatT n0 A a) : Ref (fun j => n0 ≤ j ∧ j < A.length) a := by
  rcases h with rfl | ⟨id, r, rfl, h0, h1, _⟩
  · exact .nil
  · exact .mu _ _ _ _ ⟨h0, a0f h1⟩
theorem IntT.ref {a : AV} (h : IntT n0 A a) : Ref (fun j => n0 ≤ j ∧ j < A.length) a := by
  obtain ⟨b, m, rfl, hm⟩ := h
  refine .agg _ fun c hc => ?_
  simp only [List.mem_cons, List.not_mem_nil, or_false] at hc
  rcases hc with rfl | rfl
  · exact .bool b
  · exact hm.ref
theorem IntT.cells {a : AV} (h : IntT n0 A a) : ∀ c ∈ a.cells, Ref (fun j => n0 ≤ j ∧ j < A.length) c := by
  obtain ⟨b, m, rfl, hm⟩ := h
  intro c hc
  simp only [AV.cells, List.mem_cons, List.not_mem_nil, or_false] at hc
  rcases hc with rfl | rfl
  · exact .bool b
  · exact hm.ref
theorem IntT.fit {a : AV} (h : IntT n0 A a) : a.fit = true ∧ a.cells.length = 2 := by
  obtain ⟨b, m, rfl, hm⟩ := h; exact ⟨rfl, rfl⟩
theorem VecT.ref {a : AV} (h : VecT n0 A a) : Ref (fun j => n0 ≤ j ∧ j < A.length) a := by
  rcases h with rfl | ⟨id, off, l, oc, r, rfl, h0, h1, _⟩
  · exact .nil
  · exact .mu _ _ _ _ ⟨h0, a0f h1⟩
theorem VecT.cells {a : AV} (h : VecT n0 A a) : ∀ c ∈ a.cells, Ref (fun j => n0 ≤ j ∧ j < A.length) c := by
  intro c hc
  have : a.cells = [a] := by rcases h with rfl | ⟨id, off, l, oc, r, rfl, _⟩ <;> rfl
  rw [this] at hc
  simp only [List.mem_cons, List.not_mem_nil, or_false] at hc
  subst hc
  exact h.ref
theorem VecT.fit {a : AV} (h : VecT n0 A a) : a.fit = true ∧ a.cells.length = 1 := by
  rcases h with rfl | ⟨id, off, l, oc, r, rfl, _⟩ <;> exact ⟨rfl, rfl⟩
end
theorem b6v {H X : Heap} (hH : a0r H) (hX : ∀ b, some b ∈ X → ∀ a ∈ b.flat, Cl a) : a0r (hap H X) := Own.refs hH fun b hb a ha => (hX b hb a ha).ref
theorem c5N {H B B' L : Heap} (hl : B.length = B'.length) {id : Nat} {x : Option Blk} (h0 : (hap H B).length ≤ id) (h : (hap (hap H B) L)[id]? = some x) : (hap H (B' ++ L))[id]? = some x := by
  simp only [hap, List.length_append] at h0
  simp only [hap] at h ⊢
  rw [List.getElem?_append_right (by simp only [List.length_append]; omega)] at h
  rw [← List.append_assoc, List.getElem?_append_right (by simp only [List.length_append]; omega), ← h]
  congr 1
  simp only [List.length_append]; omega
theorem c6d {H B B' L : Heap} (ho : Own (hap H B).length L) (hl : B.length = B'.length) (hB : ∀ b, some b ∈ B' → ∀ a ∈ b.flat, Ref (fun j => H.length ≤ j ∧ j < H.length + (B' ++ L).length) a) : Own H.length (B' ++ L) := fun b hb a ha => by
  rcases List.mem_append.1 hb with hb | hb
  · exact hB b hb a ha
  · exact (ho b hb a ha).mono fun j hj => by simp only [hap, List.length_append] at hj ⊢; omega
theorem ACalls.open {P : Program} {mu : Nat → Nat → Bool} {f : FuncId} {fn : Func} (hf : P.funcs[f]? = some fn) {ac : ACode} {rs : List ResV} {nt : Nat} (hc : fchk P mu fn = some (ac, rs, nt))
    {args : List AV} {H : Heap} {R : AV → Heap → Prop} (ha : args.length ≤ nt) (h : a0r H → Safe ⟨P, mu, f, nt, rs, H.length⟩ [.code ac] (a8G 0 args) (hap H []) R) : ACalls P f args H R :=
  ACalls.intro hf hc ha fun hH => by
    have := h hH
    rw [a4L] at this
    exact this
/-- A call that hands out rows of its own, the same at the same rows. -/
def OpC (P : Program) (f : FuncId) (args : List AV) (T : Nat → Heap → AV → Prop) : Prop := ∀ H, a0r H → ∃ r L, (ACalls P f args H fun r' H' => r' = r ∧ H' = hap H L) ∧ T H.length (hap H L) r ∧ Own H.length L
/-- A call that hands out rows of its own. -/
def GrC (P : Program) (f : FuncId) (args : List AV) (T : Nat → Heap → AV → Prop) : Prop := ∀ H, a0r H → ACalls P f args H fun r' H' => ∃ L, H' = hap H L ∧ T H.length H' r' ∧ Own H.length L
theorem OpC.dgcall {P : Program} {f : FuncId} {args : List AV} {T : Nat → Heap → AV → Prop} (h : OpC P f args T) {H : Heap} (hH : a0r H) {K : AV → Heap → Prop} (k : ∀ r L, T H.length (hap H L) r → Own H.length L → K r (hap H L)) : dgcall P f args H K := by
  obtain ⟨r, L, h1, h2, h3⟩ := h H hH
  exact ⟨r, L, h1, k r L h2 h3⟩
theorem GrC.acall {P : Program} {f : FuncId} {args : List AV} {T : Nat → Heap → AV → Prop} (h : GrC P f args T) {H : Heap} (hH : a0r H) {R : AV → Heap → Prop} (k : ∀ r L, T H.length (hap H L) r → Own H.length L → R r (hap H L)) : ACalls P f args H R :=
  (h H hH).mono fun r' H' ⟨L, e, h1, h2⟩ => by subst e; exact k r' L h1 h2
structure Gw (H G : Heap) : Prop where
  len : H.length ≤ G.length
  low : ∀ id, id < H.length → G[id]? = H[id]?
  own : ∀ (id : Nat) b, H.length ≤ id → G[id]? = some (some b) → ∀ a ∈ b.flat, Ref (fun j => H.length ≤ j ∧ j < G.length) a
theorem Gw.refl (H : Heap) : Gw H H := ⟨Nat.le_refl _, fun _ _ => rfl, fun id b h hb => absurd (a0f hb) (by omega)⟩
theorem Gw.refs {H G : Heap} (hH : a0r H) (h : Gw H G) : a0r G := fun id b hb a ha => by
  rcases Nat.lt_or_ge id H.length with hi | hi
  · rw [h.low id hi] at hb
    exact (hH id b hb a ha).mono fun j hj => by have := h.len; show j < _; have : j < H.length := hj; omega
  · exact (h.own id b hi hb a ha).mono fun j hj => hj.2
theorem Gw.out {H G : Heap} (h : Gw H G) : ∃ L, G = hap H L ∧ Own H.length L := by
  have he : G = hap H (G.drop H.length) := by
    apply List.ext_getElem?
    intro j
    unfold hap
    rcases Nat.lt_or_ge j H.length with hj | hj
    · rw [List.getElem?_append_left hj, h.low j hj]
    · rw [List.getElem?_append_right hj, List.getElem?_drop]; congr 1; omega
  refine ⟨_, he, fun b hb a ha => ?_⟩
  obtain ⟨j, hj⟩ := List.mem_iff_getElem?.1 hb
  rw [List.getElem?_drop] at hj
  exact (h.own _ b (by omega) hj a ha).mono fun k hk => by simp only [List.length_drop]; have := h.len; omega
theorem Gw.app {H G L : Heap} (h : Gw H G) (k : ∀ b, some b ∈ L → ∀ a ∈ b.flat, Ref (fun j => H.length ≤ j ∧ j < G.length + L.length) a) : Gw H (hap G L) := by
  have hl : (hap G L).length = G.length + L.length := by simp [hap]
  refine ⟨by rw [hl]; have := h.len; omega, fun id hi => ?_, fun id b hi hb a ha => ?_⟩
  · unfold hap; rw [List.getElem?_append_left (by have := h.len; omega), h.low id hi]
  · rw [hl]
    unfold hap at hb
    rcases Nat.lt_or_ge id G.length with hj | hj
    · rw [List.getElem?_append_left hj] at hb
      exact (h.own id b hi hb a ha).mono fun j hj => by omega
    · rw [List.getElem?_append_right hj] at hb
      exact k b (List.mem_of_getElem? hb) a ha
theorem Gw.own_app {H G L : Heap} (h : Gw H G) (k : Own G.length L) : Gw H (hap G L) := h.app fun b hb a ha => (k b hb a ha).mono fun j hj => by have := h.len; omega
theorem Gw.cl {H G L : Heap} (h : Gw H G) (k : ∀ b, some b ∈ L → ∀ a ∈ b.flat, Cl a) : Gw H (hap G L) := h.app fun b hb a ha => (k b hb a ha).ref
theorem Gw.set {H G : Heap} (h : Gw H G) {β : Nat} (hβ : H.length ≤ β) {b' : Blk} (hb' : ∀ a ∈ b'.flat, Ref (fun j => H.length ≤ j ∧ j < G.length) a) : Gw H (G.set β (some b')) := by
  refine ⟨by rw [List.length_set]; exact h.len, fun id hi => ?_, fun id b hi hb a ha => ?_⟩
  · rw [List.getElem?_set, if_neg (by omega)]; exact h.low id hi
  · rw [List.length_set]
    rw [List.getElem?_set] at hb
    split at hb
    · split at hb
      · cases hb; exact hb' a ha
      · cases hb
    · exact h.own id b hi hb a ha
theorem NatT.low {n0 n1 : Nat} {A : Heap} {a : AV} (h : n0 ≤ n1) (t : NatT n1 A a) : NatT n0 A a := by
  rcases t with rfl | ⟨id, r, rfl, h0, h1, h2⟩
  · exact .inl rfl
  · exact .inr ⟨id, r, rfl, by omega, h1, h2⟩
theorem IntT.low {n0 n1 : Nat} {A : Heap} {a : AV} (h : n0 ≤ n1) (t : IntT n1 A a) : IntT n0 A a := by
  obtain ⟨b, m, rfl, hm⟩ := t
  exact ⟨b, m, rfl, hm.low h⟩
theorem K1.low {n0 n1 : Nat} {A : Heap} {r : Blk} (h : n0 ≤ n1) (t : K1 n1 A r) : K1 n0 A r := ⟨t.wd, fun x hx => (t.el x hx).low h⟩
theorem VecT.low {n0 n1 : Nat} {A : Heap} {a : AV} (h : n0 ≤ n1) (t : VecT n1 A a) : VecT n0 A a := by
  rcases t with rfl | ⟨id, off, l, oc, r, rfl, h0, h1, h2, h3⟩
  · exact .inl rfl
  · exact .inr ⟨id, off, l, oc, r, rfl, by omega, h1, h2.low h, h3⟩
structure ElT (T : Nat → Heap → AV → Prop) (wd : Nat) : Prop where
  app : ∀ {n0 A a} L, T n0 A a → T n0 (hap A L) a
  low : ∀ {n0 n1 A a}, n0 ≤ n1 → T n1 A a → T n0 A a
  set : ∀ {n0 A a β xs x}, A[β]? = some (some ⟨wd, xs⟩) → (∀ y ∈ xs, T n0 A y) → T n0 A a → T n0 (A.set β (some ⟨wd, xs ++ [x]⟩)) a
  cells : ∀ {n0 A a}, T n0 A a → ∀ c ∈ a.cells, Ref (fun j => n0 ≤ j ∧ j < A.length) c
  fit : ∀ {n0 A a}, T n0 A a → a.fit = true ∧ a.cells.length = wd
/-- An append to a row of the call's own that nothing else names. -/
theorem c4y {n0 wd bytes β i id2 : Nat} {env : Env} {G : Heap} {xs : List AV} {y : AV} (hβ : G[β]? = some (some ⟨wd, xs⟩)) (hl : xs.length = i) (hn : n0 ≤ β) (h2 : G[id2]? = some (some ⟨wd, [y]⟩)) (hF : Free G β)
    (hx : ∀ x ∈ xs, ∀ c ∈ x.cells, Ref (· ≠ β) c) (hy : ∀ c ∈ y.cells, Ref (· ≠ β) c) (hb : (i + 1) * bytes ≤ 140737488355328) (hi : i + 1 ≤ 9223372036854775807) :
    appV n0 wd bytes false (.mu β 0 i none) (.mu id2 0 1 (some 1)) env G = some (.mu β 0 (i + 1) none, scrub β env, G.set β (some ⟨wd, xs ++ [y]⟩)) := by
  subst hl
  have h1 : hrow G β = some ⟨wd, xs⟩ := by simp [hrow, hβ]
  have h3 : hrow G id2 = some ⟨wd, [y]⟩ := by simp [hrow, h2]
  simp only [appV, a0z, h1, h3, Option.bind_some, List.drop_zero]
  rw [if_pos (by simp)]
  simp only [Option.bind_some, List.take_succ_cons, List.take_zero, List.length_cons, List.length_nil, Option.any_none]
  rw [if_neg (by simp), if_pos]
  · simp [a0H]
  · refine ⟨trivial, trivial, Nat.le_refl _, hn, b3c.2 hF, ?_, ?_, by omega, by omega⟩
    · simp only [List.flatMap_cons, List.flatMap_nil, List.append_nil, List.all_eq_true]
      exact fun c hc => a0i.2 (hy c hc)
    · simp only [List.all_eq_true, List.mem_flatMap]
      rintro c ⟨x, hx', hc⟩
      exact a0i.2 (hx x hx' c hc)
theorem Free.app {G L : Heap} {β : Nat} (h : Free G β) (hL : ∀ b, some b ∈ L → ∀ a ∈ b.flat, Ref (· ≠ β) a) : Free (hap G L) β := fun j b hj hb a ha => by
  unfold hap at hb
  rcases Nat.lt_or_ge j G.length with hi | hi
  · rw [List.getElem?_append_left hi] at hb
    exact h j b hj hb a ha
  · rw [List.getElem?_append_right hi] at hb
    exact hL b (List.mem_of_getElem? hb) a ha
theorem Free.own {G L : Heap} {β : Nat} (h : Free G β) (hβ : β < G.length) (hL : Own G.length L) : Free (hap G L) β := h.app fun b hb a ha => (hL b hb a ha).mono fun j hj => by show j ≠ β; omega
theorem Free.self {G : Heap} {β : Nat} (h : Free G β) (x : Option Blk) : Free (G.set β x) β := fun j b hj hb a ha => by
  rw [List.getElem?_set, if_neg (Ne.symm hj)] at hb
  exact h j b hj hb a ha
theorem Free.set {G : Heap} {β γ : Nat} (h : Free G β) {b' : Blk} (hb' : ∀ a ∈ b'.flat, Ref (· ≠ β) a) : Free (G.set γ (some b')) β := fun j b hj hb a ha => by
  rw [List.getElem?_set] at hb
  split at hb
  · split at hb
    · cases hb; exact hb' a ha
    · cases hb
  · exact h j b hj hb a ha
theorem Free.last {G : Heap} (h : a0r G) (x : Option Blk) : Free (hap G [x]) G.length := fun j b hj hb a ha => by
  unfold hap at hb
  rcases Nat.lt_or_ge j G.length with hi | hi
  · rw [List.getElem?_append_left hi] at hb
    exact (h j b hb a ha).mono fun k hk => by show k ≠ G.length; have : k < G.length := hk; omega
  · rw [List.getElem?_eq_none (by simp; omega)] at hb
    cases hb
end Go.Abs
namespace Go.Abs
/-- What is known of variables and rows told aXs less. -/
def Told (n0 : Nat) (env : Env) (H : Heap) (env' : Env) (H' : Heap) : Prop := ∀ φ w tmps, HOk ⟨φ, H, w⟩ → a0q ⟨φ, H, w⟩ env tmps → n0 ≤ H.length →
  HOk ⟨φ, H', w⟩ ∧ a0q ⟨φ, H', w⟩ env' tmps ∧ n0 ≤ H'.length ∧ Ext (· < n0) ⟨φ, H, w⟩ ⟨φ, H', w⟩
section
variable {P : Program} {nt : Nat}
theorem b4F {mu : Nat → Nat → Bool} {rid : Nat} {ops : Array Oper} {n0 : Nat} {l2 : List AIns} {K : Env → Heap → Prop} {Q : Exit → Act → World → Prop} {E0 : Emb} (hQ : ∀ a w, Kc n0 nt E0 K a w → Q .normal a w) :
    ∀ (l0 : List Oper) (k : Nat) (l : List AIns), a6j P mu nt rid ops k l0 = some (l ++ l2) → ∀ (E : Emb) (env : Env) (tmps : Array Value), tmps.size = nt → HOk E → a0q E env tmps → n0 ≤ E.H.length → Ext (· < n0) E0 E →
      aops P n0 l (fun env' H' => ∃ env2 H2, Told n0 env' H' env2 H2 ∧ aops P n0 l2 K env2 H2) env E.H → wpList P ops Q l0 ⟨tmps, []⟩ E.w
  | l0, k, [], hl, E, env, tmps, hsz, hok, he, hn, hx, h => by
    simp only [aops] at h
    obtain ⟨env2, H2, ht, h⟩ := h
    obtain ⟨t1, t2, t3, t4⟩ := ht E.φ E.w tmps hok he hn
    exact a8E hQ l0 k l2 hl ⟨E.φ, H2, E.w⟩ env2 tmps hsz t1 t2 t3 (hx.trans t4) h
  | [], k, i :: l, hl, E, env, tmps, hsz, hok, he, hn, hx, h => by
    simp [a6j] at hl
  | o :: l0, k, i :: l, hl, E, env, tmps, hsz, hok, he, hn, hx, h => by
    simp only [a6j] at hl
    split at hl
    · rename_i i' l' hi hl'
      rw [List.cons_append] at hl
      obtain ⟨rfl, rfl⟩ := List.cons.inj (Option.some.inj hl)
      unfold cins at hi
      split at hi
      · rename_i hd
        split at hi
        · rename_i g a hg ha
          cases hi
          have next : ∀ a w, Kc n0 nt E (aops P n0 l (fun env' H' => ∃ env2 H2, Told n0 env' H' env2 H2 ∧ aops P n0 l2 K env2 H2)) a w → wpList P ops Q l0 a w := by
            intro a w ⟨φ, env', H', q1, q2, q3, q4, q5, q6, q7⟩
            have : a = ⟨a.tmps, []⟩ := by cases a; simp at q4; simp [q4]
            rw [this]
            exact b4F hQ l0 (k + 1) l hl' ⟨φ, H', w⟩ env' a.tmps q5 q2 q3 q6 (hx.trans q7) q1
          have hw := a7s (o := o) he hg
          simp only [aops] at h
          unfold wpList
          split at h
          · simp only at hw
            rw [if_pos hw]
            exact .inl (a1z ha hd hsz hok he hn h next)
          · rename_i t want _
            simp only at hw
            simp only [a7f] at h
            have pass : Region.wanted o (yielded ops tmps) = false → aops P n0 l (fun env' H' => ∃ env2 H2, Told n0 env' H' env2 H2 ∧ aops P n0 l2 K env2 H2) (put o.dst (.tup []) env) E.H → wpList P ops Q (o :: l0) ⟨tmps, []⟩ E.w := by
              intro hf h
              unfold wpList
              rw [if_neg (by rw [hf]; simp)]
              refine next _ _ ⟨E.φ, _, E.H, h, hok, ?_, ?_, ?_, hn, Ext.refl _ _⟩
              · subst hsz; exact a5O he hd a9M
              · cases o.dst <;> rfl
              · rw [b0z]; exact hsz
            split at h
            · rename_i c hc
              have hw' := hw.1 c hc
              split at h
              · rename_i hcw
                rw [if_pos (by rw [hw', hcw]; simp)]
                exact .inl (a1z ha hd hsz hok he hn h next)
              · rename_i hcw
                have := pass (by rw [hw']; simpa using hcw) h
                unfold wpList at this
                exact this
            · rename_i hc
              have hw' := hw.2 hc
              rw [if_neg (by cases want <;> simp)] at h
              have := pass hw' h
              unfold wpList at this
              exact this
            · exact h.elim
        · simp at hi
      · simp at hi
    · simp at hl
end
section
variable {x : Cx} {todo : List AItem} {R : AV → Heap → Prop}
/-- A region in two a0S. -/
theorem Safe.region2 {env : Env} {H : Heap} (l1 l2 : List AIns) (h : aops x.P x.n0 l1 (fun env' H' => ∃ env2 H2, Told x.n0 env' H' env2 H2 ∧ aops x.P x.n0 l2 (fun env' H' => Safe x todo env' H' R) env2 H2) env H) : Safe x (.code (.region (l1 ++ l2) false) :: todo) env H R := by
  intro φ w tmps b k cs hg hn hb hk ht hsz hok he
  obtain ⟨i, k', rfl, h1, h2⟩ := a0j ht
  obtain ⟨c, rfl, h1⟩ := a0m h1
  obtain ⟨id, ops, rfl, g1, _⟩ := a2A h1
  have hw := b4F (P := x.P) (nt := x.nt) (rid := id) (ops := ops) (n0 := x.n0) (K := fun env' H' => Safe x todo env' H' R) (E0 := ⟨φ, H, w⟩)
    (Q := fun e a w' => e = .normal ∧ Kc x.n0 x.nt ⟨φ, H, w⟩ (fun env' H' => Safe x todo env' H' R) a w') (fun a w h => ⟨rfl, h⟩) ops.toList 0 l1 g1 ⟨φ, H, w⟩ env tmps hsz hok he hn (Ext.refl _ _) h
  obtain ⟨e, a', w', ⟨rfl, φ1, env1, H1, s1, s2, s3, s4, s5, s6, s7⟩, harr⟩ := wp_region_list hw b k' cs
  have ha : a' = ⟨a'.tmps, []⟩ := by cases a'; simp at s4; simp [s4]
  rw [ha] at harr
  obtain ⟨v, w2, fr, r, φ', H', q1, q2, q3, q4, q5, q6, q7⟩ := s1 φ1 w' a'.tmps b k' cs hg s6 hb hk h2 s5 s2 s3
  exact ⟨v, w2, fr, r, φ', H', q1, q2, q3, q4, s7.trans q5, Steps.trans harr q6, q7⟩
theorem Safe.rg2 {env : Env} {H : Heap} {k k' : List AItem} {l : List AIns} (l1 l2 : List AIns) (e : Abs.stl 40 k = .code (.region l false) :: k') (e2 : l = l1 ++ l2)
    (h : aops x.P x.n0 l1 (fun env' H' => ∃ env2 H2, Told x.n0 env' H' env2 H2 ∧ aops x.P x.n0 l2 (fun env' H' => Safe x k' env' H' R) env2 H2) env H) : Safe x k env H R := by
  refine Safe.stl 40 k ?_
  rw [e, e2]
  exact Safe.region2 l1 l2 h
end
/-- One of the call's own rows told aXs less. -/
theorem c2S {n0 : Nat} {env : Env} {H L : Heap} (i : Nat) {b b' : Blk} (hl : L[i]? = some (some b)) (hw : b'.wd = b.wd) (hx : ∀ y ∈ b'.xs, y.cells.length = b.wd) (hlen : b'.flat.length = b.flat.length) (hemp : b.xs = [] → b'.xs = [])
    (hle : ∀ (k : Nat) a c, b.flat[k]? = some a → b'.flat[k]? = some c → Le a c) (hpos : 0 < b.wd) : Told n0 env (hap H L) env (hap H (L.set i (some b'))) := by
  intro φ w tmps hok he hn
  have hl' : (hap H L)[lid H i]? = some (some b) := by
    unfold hap lid
    rw [List.getElem?_append_right (by omega), Nat.add_sub_cancel_left]; exact hl
  have hget : ∀ (j : Nat), (hap H (L.set i (some b')))[j]? = if lid H i = j then some (some b') else (hap H L)[j]? := by
    intro j
    rw [← a4v]
    exact a5k _ _ _ (a0f hl') j
  have hx2 : ∀ w : World, Ext All ⟨φ, hap H L, w⟩ ⟨φ, hap H (L.set i (some b')), w⟩ := by
    intro w
    refine ⟨rfl, rfl, rfl, Nat.le_refl _, by simp [hap], fun _ _ _ => rfl, ?_, fun _ _ _ _ _ _ _ => rfl, ?_, fun _ _ _ => rfl⟩
    · intro j blk' _ _ hb'
      rw [hget] at hb'
      split at hb'
      · rename_i hj; subst hj; simp at hb'; subst hb'; exact ⟨b, hl', hw.symm⟩
      · exact ⟨blk', hb', rfl⟩
    · rintro b0 _ ⟨j, blk', hb', hp⟩
      simp only [hget] at hb'
      split at hb'
      · rename_i hj; subst hj; exact ⟨_, b, hl', hp⟩
      · exact ⟨j, blk', hb', hp⟩
  have live : ∀ (j : Nat) blk', (hap H (L.set i (some b')))[j]? = some (some blk') → (j = lid H i ∧ blk' = b') ∨ (j ≠ lid H i ∧ (hap H L)[j]? = some (some blk')) := by
    intro j blk' hb'
    rw [hget] at hb'
    split at hb'
    · rename_i hj; simp at hb'; exact .inl ⟨hj.symm, hb'.symm⟩
    · rename_i hj; exact .inr ⟨fun e => hj e.symm, hb'⟩
  have hok' : HOk ⟨φ, hap H (L.set i (some b')), w⟩ := by
    refine ⟨fun j x bl h h0 hp => ?_, fun j x h => ?_, fun j x bl h hp => ?_, fun j x h hp => ?_, fun j1 j2 x y bl h1 h2 p1 p2 => ?_⟩
    · rcases live j x h with ⟨rfl, rfl⟩ | ⟨_, h'⟩
      · omega
      · rcases hok.obj j x bl h' h0 hp with ⟨L, q1, q2⟩ | ⟨mid, n, seen, m, q1, q2, q3, q4⟩
        · exact .inl ⟨L, q1, q2⟩
        · refine .inr ⟨mid, n, seen, m, q1, q2, q3, fun blk hb => ?_⟩
          rcases live mid blk hb with ⟨rfl, rfl⟩ | ⟨_, hb'⟩
          · exact absurd (q4 b hl').1 (by omega)
          · exact q4 blk hb'
    · rcases live j x h with ⟨rfl, rfl⟩ | ⟨_, h'⟩
      · rw [hw]; exact hx
      · exact hok.wids j x h'
    · have mv : ∀ {v a}, Rep ⟨φ, hap H L, w⟩ v a → Rep ⟨φ, hap H (L.set i (some b')), w⟩ v a := fun r => r.mono (hx2 w) (r.ref.mono fun _ _ => trivial)
      rcases live j x h with ⟨rfl, rfl⟩ | ⟨_, h'⟩
      · obtain ⟨c, e, r⟩ := hok.row _ b bl hl' hp
        refine ⟨c, e, fun h0 => r.heap hpos, by rw [hlen]; exact r.fits, fun k v hk hv => r.one k v (by rw [← hlen]; exact hk) hv, fun k v a hv ha => ?_⟩
        have hk := a0h ha
        have ha' : b.flat[k]? = some (b.flat[k]'(by omega)) := List.getElem?_eq_getElem (by omega)
        exact mv (hle k _ a ha' ha _ _ (r.rep k v _ hv ha'))
      · obtain ⟨c, e, r⟩ := hok.row j x bl h' hp
        exact ⟨c, e, r.heap, r.fits, r.one, fun k v a hv ha => mv (r.rep k v a hv ha)⟩
    · rcases live j x h with ⟨rfl, rfl⟩ | ⟨_, h'⟩
      · exact hemp (hok.emp _ b hl' hp)
      · exact hok.emp j x h' hp
    · have g1 : ∃ z, (hap H L)[j1]? = some (some z) := by rcases live j1 x h1 with ⟨rfl, _⟩ | ⟨_, h'⟩; exact ⟨b, hl'⟩; exact ⟨x, h'⟩
      have g2 : ∃ z, (hap H L)[j2]? = some (some z) := by rcases live j2 y h2 with ⟨rfl, _⟩ | ⟨_, h'⟩; exact ⟨b, hl'⟩; exact ⟨y, h'⟩
      obtain ⟨_, g1⟩ := g1
      obtain ⟨_, g2⟩ := g2
      exact hok.inj j1 j2 _ _ bl g1 g2 p1 p2
  exact ⟨hok', fun t => (he t).mono (hx2 w) ((he t).ref.mono fun _ _ => trivial), by simpa [hap] using hn, (hx2 w).sub fun _ _ => trivial⟩
/-- An append to a full row that is none of the call's own: a new row. -/
theorem c6z {n0 wd bytes id n : Nat} {env : Env} {G : Heap} {xs ys : List AV} {y : AV} (h : G[id]? = some (some ⟨wd, xs⟩)) (hl : xs.length = n) (hn : id < n0) (hy : a0z G wd false y = some ys) (h0 : 0 < ys.length)
    (h1 : (n + ys.length) * bytes ≤ 140737488355328) (h2 : n + ys.length ≤ 9223372036854775807) :
    appV n0 wd bytes false (.mu id 0 n (some n)) y env G = some (.mu G.length 0 (n + ys.length) none, env, G ++ [some ⟨wd, xs ++ ys⟩]) := by
  subst hl
  have hr : hrow G id = some ⟨wd, xs⟩ := by simp [hrow, h]
  simp only [appV, hy, hr, Option.bind_some, Option.any_some]
  rw [if_neg (fun h => by omega), if_neg (fun h => by omega), if_pos]
  · simp
  · exact ⟨trivial, by simp, h0, by simp; omega, h1, h2⟩
theorem b0B {id : Nat} {x : AV} (h : ∀ c ∈ x.cells, Ref (· ≠ id) c) : nref id x = true := by
  cases x with
  | agg cs => exact a0i.2 (.agg _ h)
  | mo l => exact a0i.2 (.mo l)
  | io a b l => exact a0i.2 (.io a b l)
  | _ => exact a0i.2 (h _ (by simp [AV.cells]))
theorem b3D {id : Nat} {b : Blk} (h : ∀ a ∈ b.flat, Ref (· ≠ id) a) : a7e id b = b := by
  unfold a7e
  have : b.xs.map (a5N id) = b.xs := by
    rw [List.map_congr_left (g := fun c => c) fun c hc => by unfold a5N; rw [if_pos (b0B fun a ha => h a (List.mem_flatMap.2 ⟨c, hc, ha⟩))]]
    simp
  rw [this]
theorem c0e {H : Heap} (hH : a0r H) {id : Nat} (hid : H.length ≤ id) : a0P id H = H := by
  unfold a0P
  apply List.ext_getElem?
  intro j
  rw [List.getElem?_map]
  cases hj : H[j]? with
  | none => rfl
  | some o =>
    cases o with
    | none => rfl
    | some b =>
      simp only [Option.map_some]
      rw [b3D fun a ha => (hH j b hj a ha).mono fun k hk => by show k ≠ id; have : k < H.length := hk; omega]
theorem c0g {H L : Heap} (hH : a0r H) {id : Nat} (hid : H.length ≤ id) : a0P id (hap H L) = hap H (a0P id L) := by
  unfold hap
  have : a0P id (H ++ L) = a0P id H ++ a0P id L := by unfold a0P; rw [List.map_append]
  rw [this, c0e hH hid]
theorem c0f (id : Nat) : a0P id [] = [] := rfl
theorem b3C (id : Nat) (b : Blk) (L : Heap) : a0P id (some b :: L) = some (a7e id b) :: a0P id L := rfl
theorem b6R (id wd : Nat) (xs : List AV) : a7e id ⟨wd, xs⟩ = ⟨wd, xs.map (a5N id)⟩ := rfl
theorem b2U {id : Nat} {x : AV} (h : nref id x = true) : a5N id x = x := by unfold a5N; rw [if_pos h]
theorem b6S (id off len : Nat) (oc : Option Nat) : a5N id (.mu id off len oc) = .top := by
  unfold a5N
  rw [if_neg]
  intro h
  cases a0i.1 h with | mu _ _ _ _ h => exact h rfl
theorem c2F {H L : Heap} (hH : a0r H) {i n0 wd bytes len : Nat} {env : Env} {y : AV} {xs ys : List AV} (hl : L[i]? = some (some ⟨wd, xs⟩)) (hlen : len = xs.length) (hn : n0 ≤ lid H i) (hy : a0z (hap H L) wd false y = some ys)
    (hys : ∀ a ∈ ys.flatMap AV.cells, nref (lid H i) a = true) (hxs : ∀ x ∈ xs, nref (lid H i) x = true) (h1 : (len + ys.length) * bytes ≤ 140737488355328) (h2 : len + ys.length ≤ 9223372036854775807) :
    appV n0 wd bytes false (.mu (lid H i) 0 len none) y env (hap H L) = some (.mu (lid H i) 0 (len + ys.length) none, scrub (lid H i) env, hap H ((a0P (lid H i) L).set i (some ⟨wd, xs ++ ys⟩))) := by
  subst hlen
  have hys' : (ys.flatMap AV.cells).all (nref (lid H i)) = true := List.all_eq_true.2 hys
  have hxc : (xs.flatMap AV.cells).all (nref (lid H i)) = true := List.all_eq_true.2 fun a ha => by
    obtain ⟨x, hx, ha⟩ := List.mem_flatMap.1 ha
    exact b0Y (hxs x hx) a ha
  have hxs' : xs.all (nref (lid H i)) = true := List.all_eq_true.2 hxs
  simp only [appV, hy, Option.bind_some, a1U, hl, Option.join_some, a4v]
  rw [if_neg (by simp)]
  by_cases hf : free (hap H L) (lid H i) = true
  · rw [if_pos ⟨trivial, trivial, Nat.le_refl _, hn, hf, hys', hxc, h1, h2⟩]
    have hs : L.set i (some ⟨wd, xs ++ ys⟩) = (a0P (lid H i) L).set i (some ⟨wd, xs ++ ys⟩) := by
      apply List.ext_getElem?
      intro j
      rw [List.getElem?_set, List.getElem?_set]
      by_cases e : i = j
      · subst e; simp [a0P]
      · rw [if_neg e, if_neg e]
        unfold a0P
        rw [List.getElem?_map]
        cases hj : L[j]? with
        | none => rfl
        | some o =>
          cases o with
          | none => rfl
          | some b =>
            simp only [Option.map_some]
            rw [b3D fun a ha => b3c.1 hf (lid H j) b (by simp only [lid]; omega) (by unfold hap lid; rw [List.getElem?_append_right (by omega), Nat.add_sub_cancel_left]; exact hj) a ha]
    simp [a0H, hs]
  · rw [if_neg (fun h => hf h.2.2.2.2.1), if_neg (by simp), if_pos ⟨trivial, trivial, Nat.le_refl _, hn, hys', hxs', h1, h2⟩]
    rw [c0g hH (a7Z H i), a4v]
    simp [a0H]
end Go.Abs
namespace Go.Abs
namespace Pan
/-- From here the function panics with v. -/
def Safe (x : Cx) (todo : List AItem) (env : Env) (H : Heap) (R : AV → Heap → Prop) : Prop :=
  ∀ (φ : Nat → Option Nat) (w : World) (tmps : Array Value) (b : Frame) (k : List Item) (cs : List Frame), x.Good → x.n0 ≤ H.length → b.fn = x.f → b.kind = .normal → a1K x todo k → tmps.size = x.nt →
    HOk ⟨φ, H, w⟩ → a0q ⟨φ, H, w⟩ env tmps →
    ∃ v w' fr r φ' H', R r H' ∧ HOk ⟨φ', H', w'⟩ ∧ Rep ⟨φ', H', w'⟩ v r ∧ x.n0 ≤ H'.length ∧ Ext (· < x.n0) ⟨φ, H, w⟩ ⟨φ', H', w'⟩ ∧
      Steps x.P (lone (b.at ⟨tmps, []⟩ k) cs w) (lone fr cs w') ∧ fr.fn = x.f ∧ fr.leaving x.P w' (.panicked [{ v := v, recovered := false }])
/-- The call panics. -/
def ACalls (P : Program) (f : FuncId) (args : List AV) (H : Heap) (R : AV → Heap → Prop) : Prop :=
  a8F P f ∧ ∀ (φ : Nat → Option Nat) (w : World) (vs : List Value), HOk ⟨φ, H, w⟩ → vs.length = args.length → (∀ (k : Nat) v a, vs[k]? = some v → args[k]? = some a → Rep ⟨φ, H, w⟩ v a) →
    Calls P f vs.toArray w fun e w' => ∃ v r φ' H', e = .panicked [{ v := v, recovered := false }] ∧ R r H' ∧ HOk ⟨φ', H', w'⟩ ∧ Rep ⟨φ', H', w'⟩ v r ∧ H.length ≤ H'.length ∧ Ext (· < H.length) ⟨φ, H, w⟩ ⟨φ', H', w'⟩
theorem ACalls.mono {P : Program} {f : FuncId} {args : List AV} {H : Heap} {R R' : AV → Heap → Prop} (h : ACalls P f args H R) (hr : ∀ r H', R r H' → R' r H') : ACalls P f args H R' :=
  ⟨h.1, fun φ w vs h1 h2 h3 => (h.2 φ w vs h1 h2 h3).mono fun e w' ⟨v, r, φ', H', a, b, c⟩ => ⟨v, r, φ', H', a, hr _ _ b, c⟩⟩
section
variable {x : Cx} {todo : List AItem} {env : Env} {H : Heap} {R : AV → Heap → Prop}
theorem Safe.one {todo' : List AItem} (hs : ∀ k, a1K x todo k → ∃ k', a1K x todo' k' ∧ ∀ (b : Frame) (tmps : Array Value) (cs : List Frame) (w : World), step x.P (lone (b.at ⟨tmps, []⟩ k) cs w) = .next (lone (b.at ⟨tmps, []⟩ k') cs w))
    (h : Safe x todo' env H R) : Safe x todo env H R := by
  intro φ w tmps b k cs hg hn hb hk ht hsz hok he
  obtain ⟨k', ht', hst⟩ := hs k ht
  obtain ⟨v, w', fr, r, φ', H', q1, q2, q3, q4, q5, q6, q7⟩ := h φ w tmps b k' cs hg hn hb hk ht' hsz hok he
  exact ⟨v, w', fr, r, φ', H', q1, q2, q3, q4, q5, .head (hst b tmps cs w) q6, q7⟩
theorem Safe.skip (h : Safe x todo env H R) : Safe x (.code .skip :: todo) env H R := by
  refine Safe.one (fun k hk => ?_) h
  obtain ⟨b, k', rfl, h1, h2⟩ := a0j hk
  obtain ⟨c, rfl, h1⟩ := a0m h1
  obtain rfl := b9y h1
  exact ⟨k', h2, fun _ _ _ _ => step_skip⟩
theorem Safe.label {l : Nat} (h : Safe x todo env H R) : Safe x (.code (.label l) :: todo) env H R := by
  refine Safe.one (fun k hk => ?_) h
  obtain ⟨b, k', rfl, h1, h2⟩ := a0j hk
  obtain ⟨c, rfl, h1⟩ := a0m h1
  obtain rfl := b7J h1
  exact ⟨k', h2, fun _ _ _ _ => step_label⟩
theorem Safe.goto {l : Nat} {todo' : List AItem} (he : b4G l todo = some todo') (h : Safe x todo' env H R) : Safe x (.code (.goto l) :: todo) env H R := by
  refine Safe.one (fun k hk => ?_) h
  obtain ⟨i, k', rfl, h1, h2⟩ := a0j hk
  obtain ⟨c, rfl, h1⟩ := a0m h1
  obtain rfl := b9A h1
  obtain ⟨k2, g1, g2⟩ := a6l h2 he
  exact ⟨k2, g2, fun _ _ _ _ => b6P g1⟩
theorem Safe.scope {a : ACode} (h : Safe x (.code a :: .inScope a :: todo) env H R) : Safe x (.code (.scope a) :: todo) env H R := by
  refine Safe.one (fun k hk => ?_) h
  obtain ⟨i, k', rfl, h1, h2⟩ := a0j hk
  obtain ⟨c, rfl, h1⟩ := a0m h1
  obtain ⟨a', rfl, g1⟩ := b7I h1
  exact ⟨.code a' :: .inScope a' :: k', ⟨g1, g1, h2⟩, fun _ _ _ _ => b5a⟩
theorem Safe.inScope {a : ACode} (h : Safe x todo env H R) : Safe x (.inScope a :: todo) env H R := by
  refine Safe.one (fun k hk => ?_) h
  obtain ⟨i, k', rfl, h1, h2⟩ := a0j hk
  obtain ⟨a', rfl, h1⟩ := a8w h1
  exact ⟨k', h2, fun _ _ _ _ => b1I⟩
theorem Safe.seq {a b : ACode} (h : Safe x (.code a :: .code b :: todo) env H R) : Safe x (.code (.seq a b) :: todo) env H R := by
  refine Safe.one (fun k hk => ?_) h
  obtain ⟨i, k', rfl, h1, h2⟩ := a0j hk
  obtain ⟨c, rfl, h1⟩ := a0m h1
  obtain ⟨a', b', rfl, g1, g2⟩ := c1X h1
  exact ⟨.code a' :: .code b' :: k', ⟨g1, g2, h2⟩, fun _ _ _ _ => step_seq⟩
theorem Safe.block {id : Nat} {a : ACode} (h : Safe x (.code a :: .inBlock id :: todo) env H R) : Safe x (.code (.block id a) :: todo) env H R := by
  refine Safe.one (fun k hk => ?_) h
  obtain ⟨i, k', rfl, h1, h2⟩ := a0j hk
  obtain ⟨c, rfl, h1⟩ := a0m h1
  obtain ⟨a', rfl, g1⟩ := b7K h1
  exact ⟨.code a' :: .inBlock id :: k', ⟨g1, rfl, h2⟩, fun _ _ _ _ => step_block⟩
theorem Safe.inBlock {id : Nat} (h : Safe x todo env H R) : Safe x (.inBlock id :: todo) env H R := by
  refine Safe.one (fun k hk => ?_) h
  obtain ⟨i, k', rfl, h1, h2⟩ := a0j hk
  obtain rfl := a8D h1
  exact ⟨k', h2, fun _ _ _ _ => step_inBlock⟩
theorem Safe.loop {a : ACode} (h : Safe x (.inLoop a :: todo) env H R) : Safe x (.code (.loop a) :: todo) env H R := by
  intro φ w tmps b k cs hg hn hb hk ht hsz hok he
  obtain ⟨i, k', rfl, h1, h2⟩ := a0j ht
  obtain ⟨c, rfl, h1⟩ := a0m h1
  obtain ⟨a', rfl, g1⟩ := b9z h1
  obtain ⟨v, w', fr, r, φ', H', q1, q2, q3, q4, q5, q6, q7⟩ := h φ w tmps b (.inLoop a' :: k') cs hg hn hb hk ⟨g1, h2⟩ hsz hok he
  refine ⟨v, w', fr, r, φ', H', q1, q2, q3, q4, q5, ?_, q7⟩
  -- both begin with the same state behind one step
  obtain ⟨n, hn'⟩ := q6
  cases n with
  | zero =>
    simp only [runN] at hn'
    cases hn'
    exfalso
    obtain ⟨_, hl⟩ := q7
    simp [Frame.leaving, Frame.at] at hl
  | succ n =>
    simp only [runN, step_inLoop] at hn'
    exact .head step_loop ⟨n, hn'⟩
theorem Safe.inLoop {a : ACode} (h : Safe x (.code a :: .inLoop a :: todo) env H R) : Safe x (.inLoop a :: todo) env H R := by
  refine Safe.one (fun k hk => ?_) h
  obtain ⟨i, k', rfl, h1, h2⟩ := a0j hk
  obtain ⟨a', rfl, h1⟩ := b0M h1
  exact ⟨.code a' :: .inLoop a' :: k', ⟨h1, h1, h2⟩, fun _ _ _ _ => step_inLoop⟩
theorem Safe.cond {s : Src} {a b : ACode} (h : b6w (s.ev env) fun c => if c then Safe x (.code a :: todo) env H R else Safe x (.code b :: todo) env H R) : Safe x (.code (.cond s a b) :: todo) env H R := by
  intro φ w tmps bf k cs hg hn hb hk ht hsz hok he
  obtain ⟨i, k', rfl, h1, h2⟩ := a0j ht
  obtain ⟨c, rfl, h1⟩ := a0m h1
  obtain ⟨o, a', b', rfl, g0, g1, g2⟩ := b9C h1
  simp only [b6w] at h
  split at h
  · rename_i c hc
    have hr := a0l he g0
    rw [hc] at hr
    have hv := a0O hr
    cases c
    · simp only [Bool.false_eq_true, if_false] at h
      obtain ⟨v, w', fr, r, φ', H', q1, q2, q3, q4, q5, q6, q7⟩ := h φ w tmps bf (.code b' :: k') cs hg hn hb hk ⟨g2, h2⟩ hsz hok he
      exact ⟨v, w', fr, r, φ', H', q1, q2, q3, q4, q5, .head (step_cond hv) (by simpa using q6), q7⟩
    · simp only [if_true] at h
      obtain ⟨v, w', fr, r, φ', H', q1, q2, q3, q4, q5, q6, q7⟩ := h φ w tmps bf (.code a' :: k') cs hg hn hb hk ⟨g1, h2⟩ hsz hok he
      exact ⟨v, w', fr, r, φ', H', q1, q2, q3, q4, q5, .head (step_cond hv) (by simpa using q6), q7⟩
  · exact h.elim
theorem Safe.exit {id : Nat} {todo' : List AItem} (he : b4H id todo = some todo') (h : Safe x todo' env H R) : Safe x (.code (.exit id) :: todo) env H R := by
  refine Safe.one (fun k hk => ?_) h
  obtain ⟨i, k', rfl, h1, h2⟩ := a0j hk
  obtain ⟨c, rfl, h1⟩ := a0m h1
  obtain rfl := b9B h1
  obtain ⟨k2, g1, g2⟩ := a6m h2 he
  exact ⟨k2, g2, fun _ _ _ _ => step_exit g1⟩
theorem Safe.region {l : List AIns} (h : aops x.P x.n0 l (fun env' H' => Safe x todo env' H' R) env H) : Safe x (.code (.region l false) :: todo) env H R := by
  intro φ w tmps b k cs hg hn hb hk ht hsz hok he
  obtain ⟨i, k', rfl, h1, h2⟩ := a0j ht
  obtain ⟨c, rfl, h1⟩ := a0m h1
  obtain ⟨id, ops, rfl, g1, _⟩ := a2A h1
  have hw := a8E (P := x.P) (nt := x.nt) (rid := id) (ops := ops) (n0 := x.n0) (K := fun env' H' => Safe x todo env' H' R) (E0 := ⟨φ, H, w⟩)
    (Q := fun e a w' => e = .normal ∧ Kc x.n0 x.nt ⟨φ, H, w⟩ (fun env' H' => Safe x todo env' H' R) a w') (fun a w h => ⟨rfl, h⟩) ops.toList 0 l g1 ⟨φ, H, w⟩ env tmps hsz hok he hn (Ext.refl _ _) h
  obtain ⟨e, a', w', ⟨rfl, φ1, env1, H1, s1, s2, s3, s4, s5, s6, s7⟩, harr⟩ := wp_region_list hw b k' cs
  have ha : a' = ⟨a'.tmps, []⟩ := by cases a'; simp at s4; simp [s4]
  rw [ha] at harr
  obtain ⟨v, w2, fr, r, φ', H', q1, q2, q3, q4, q5, q6, q7⟩ := s1 φ1 w' a'.tmps b k' cs hg s6 hb hk h2 s5 s2 s3
  exact ⟨v, w2, fr, r, φ', H', q1, q2, q3, q4, s7.trans q5, Steps.trans harr q6, q7⟩
end
theorem Safe.weaken {x : Cx} {todo : List AItem} {env env' : Env} {H : Heap} {R : AV → Heap → Prop} (he : ∀ t, look env' t = look env t ∨ look env' t = .top) (h : Safe x todo env' H R) : Safe x todo env H R := by
  intro φ w tmps b k cs hg hn hb hk ht hsz hok hr
  refine h φ w tmps b k cs hg hn hb hk ht hsz hok (fun t => ?_)
  rcases he t with e | e
  · rw [e]; exact hr t
  · rw [e]; exact .top _
theorem Safe.keep (ts : List Nat) {x : Cx} {todo : List AItem} {env : Env} {H : Heap} {R : AV → Heap → Prop} (h : Safe x todo (keep env ts) H R) : Safe x todo env H R := Safe.weaken (b7v env ts) h
theorem Safe.mono {x : Cx} {todo : List AItem} {env : Env} {H : Heap} {R R' : AV → Heap → Prop} (h : Safe x todo env H R) (hr : ∀ r H', R r H' → R' r H') : Safe x todo env H R' := by
  intro φ w tmps b k cs hg hn hb hk ht hsz hok he
  obtain ⟨v, w', fr, r, φ', H', q1, q⟩ := h φ w tmps b k cs hg hn hb hk ht hsz hok he
  exact ⟨v, w', fr, r, φ', H', hr _ _ q1, q⟩
theorem Safe.regionD {x : Cx} {todo : List AItem} {env : Env} {H : Heap} {R : AV → Heap → Prop} {l : List AIns} (h : dops x.P x.n0 l (fun env' H' => Safe x todo env' H' R) env H) : Safe x (.code (.region l true) :: todo) env H R := by
  intro φ w tmps b k cs hg hn hb hk ht hsz hok he
  obtain ⟨i, k', rfl, h1, h2⟩ := a0j ht
  obtain ⟨c, rfl, h1⟩ := a0m h1
  obtain ⟨id, ops, rfl, g1, g2⟩ := a2A h1
  have g2 := g2 rfl
  have hmix : x.P.follows .mixedOrders = true := by simp only [dchk, Bool.and_eq_true] at g2; exact g2.1
  obtain ⟨ef, Hf, s1, s2⟩ := a2N h
  have hx0 := a2t (· < x.n0) φ H w (w.drawn + 1)
  have hxA := a2t All φ H w (w.drawn + 1)
  have hlst : (List.range ops.size).filterMap (l[·]?) = l := by
    have := (a4O _ _ _ g1).1
    have hl : ops.size = l.length := by simpa using this.symm
    rw [hl]
    apply List.ext_getElem?
    intro m
    have : ∀ (n : Nat), n ≤ l.length → (List.range n).filterMap (l[·]?) = l.take n := by
      intro n
      induction n with
      | zero => simp
      | succ n ih =>
        intro hn
        rw [List.range_succ, List.filterMap_append, ih (by omega), List.take_add_one]
        simp [List.getElem?_eq_getElem (show n < l.length by omega)]
    rw [this l.length (Nat.le_refl _), List.take_length]
  have g3 := g2
  simp only [dchk, Bool.and_eq_true] at g3
  have hall' := a4i (pre := []) g3.2.2
  have hw := a9G (P := x.P) (nt := x.nt) g1 g3.2.1 (n0 := x.n0) (G := fun _ => True) (fun _ _ => fun _ _ => trivial) (E0 := ⟨φ, H, { w with drawn := w.drawn + 1 }⟩) (ef := ef) (Hf := Hf)
    (Q := fun e a w' => e = .normal ∧ Kc x.n0 x.nt ⟨φ, H, { w with drawn := w.drawn + 1 }⟩ (fun e' H' => a1b ef e' ∧ H' = Hf) a w') (fun a w h => ⟨rfl, h⟩)
    ops.size (List.range ops.size) (Array.replicate ops.size false) (by simp) (List.pairwise_lt_range) (by
      intro i
      rw [List.mem_range]
      constructor
      · intro hi; simp [hi]
      · intro hi
        rcases Nat.lt_or_ge i ops.size with h' | h'
        · exact h'
        · simp [Array.getElem?_eq_none (show (Array.replicate ops.size false).size ≤ i by simpa using h')] at hi) (by simp) (by
      intro j o hj
      exfalso
      rcases Nat.lt_or_ge j ops.size with h' | h'
      · simp [h'] at hj
      · simp [Array.getElem?_eq_none (show (Array.replicate ops.size false).size ≤ j by simpa using h')] at hj)
    (fun i a x y _ _ hai hx hy => by
      rcases hall' i a x y (by simp) hai (by simpa using hx) (by simpa using hy) with h | h
      · exact .inl h
      · exact .inr fun _ s t => St.swap h.1 h.2 s t)
    ⟨φ, H, { w with drawn := w.drawn + 1 }⟩ env tmps ef hsz (a8B hok) (he.mono (hxA.sub fun _ _ => trivial)) hn (Ext.refl _ _) (.refl _) trivial (by rw [hlst]; exact s1)
  obtain ⟨e, a', w', ⟨rfl, φ1, env1, H1, ⟨sq, rfl⟩, s3, s4, s5, s6, s7, s8⟩, harr⟩ := wp_region_any hmix hw b k' cs
  have ha : a' = ⟨a'.tmps, []⟩ := by cases a'; simp at s5; simp [s5]
  rw [ha] at harr
  obtain ⟨v, w2, fr, r, φ', H', q1, q2, q3, q4, q5, q6, q7⟩ := s2 φ1 w' a'.tmps b k' cs hg s7 hb hk h2 s6 s3 (a8y s4 sq.symm)
  exact ⟨v, w2, fr, r, φ', H', q1, q2, q3, q4, hx0.trans (s8.trans q5), Steps.trans harr q6, q7⟩
section
variable {x : Cx} {todo : List AItem} {R : AV → Heap → Prop} {l : ACode}
theorem Safe.stl {env : Env} {H : Heap} : ∀ (n : Nat) (k : List AItem), Safe x (stl n k) env H R → Safe x k env H R := by
  intro n
  induction n with
  | zero => intro k h; cases k <;> exact h
  | succ n ih =>
    intro k h
    unfold Abs.stl at h
    split at h
    · rename_i h0; cases h0
    · rename_i h0; cases h0; exact Safe.seq (ih _ h)
    · rename_i h0; cases h0; exact Safe.skip (ih _ h)
    · rename_i h0; cases h0; exact Safe.block (ih _ h)
    · rename_i h0; cases h0; exact Safe.inBlock (ih _ h)
    · rename_i h0; cases h0; exact Safe.scope (ih _ h)
    · rename_i h0; cases h0; exact Safe.inScope (ih _ h)
    · rename_i h0; cases h0
      split at h
      · rename_i he; exact Safe.exit he (ih _ h)
      · exact h
    · rename_i h0; cases h0; exact Safe.label (ih _ h)
    · rename_i h0; cases h0
      split at h
      · rename_i he; exact Safe.goto he (ih _ h)
      · exact h
    · exact h
theorem Safe.rg {env : Env} {H : Heap} {k k' : List AItem} {b : Bool} {l : List AIns} (e : Abs.stl 40 k = .code (.region l b) :: k')
    (h : if b = true then dops x.P x.n0 l (fun env' H' => Safe x k' env' H' R) env H else aops x.P x.n0 l (fun env' H' => Safe x k' env' H' R) env H) : Safe x k env H R := by
  refine Safe.stl 40 k ?_
  rw [e]
  cases b
  · exact Safe.region h
  · exact Safe.regionD h
theorem Safe.cd {env : Env} {H : Heap} {k k' : List AItem} {s : Src} {a b : ACode} (e : Abs.stl 40 k = .code (.cond s a b) :: k')
    (h : b6w (s.ev env) fun c => if c then Safe x (.code a :: k') env H R else Safe x (.code b :: k') env H R) : Safe x k env H R := by
  refine Safe.stl 40 k ?_
  rw [e]
  exact Safe.cond h
theorem Safe.lp {env : Env} {H : Heap} {k k' : List AItem} {a : ACode} (e : Abs.stl 40 k = .code (.loop a) :: k') (h : Safe x (.inLoop a :: k') env H R) : Safe x k env H R := by
  refine Safe.stl 40 k ?_
  rw [e]
  exact Safe.loop h
theorem Safe.loopP (n : Nat) (E : Nat → Env) (G : Nat → Heap) (P : Nat → Prop) {env : Env} {H : Heap} (he : env = E 0) (hG : H = G 0) (h0 : P 0)
    (step : ∀ i, i < n → P i → (P (i + 1) → Safe x (.inLoop l :: todo) (E (i + 1)) (G (i + 1)) R) → Safe x (.inLoop l :: todo) (E i) (G i) R)
    (last : P n → Safe x (.inLoop l :: todo) (E n) (G n) R) : Safe x (.inLoop l :: todo) env H R := by
  subst he; subst hG
  have key : ∀ k i, i + k = n → P i → Safe x (.inLoop l :: todo) (E i) (G i) R := by
    intro k
    induction k with
    | zero => intro i hi hp; rw [show i = n by omega] at hp ⊢; exact last hp
    | succ k ih => intro i hi hp; exact step i (by omega) hp fun hp' => ih (i + 1) (by omega) hp'
  exact key n 0 (by omega) h0
theorem Safe.loopN (n : Nat) (E : Nat → Env) (G : Nat → Heap) {env : Env} {H : Heap} (he : env = E 0) (hG : H = G 0)
    (step : ∀ i, i < n → Safe x (.inLoop l :: todo) (E (i + 1)) (G (i + 1)) R → Safe x (.inLoop l :: todo) (E i) (G i) R)
    (last : Safe x (.inLoop l :: todo) (E n) (G n) R) : Safe x (.inLoop l :: todo) env H R :=
  Safe.loopP n E G (fun _ => True) he hG trivial (fun i hi _ ih => step i hi (ih trivial)) fun _ => last
theorem Safe.loopW {α : Type} (μ : α → Nat) (E : α → Env) (G : α → Heap) (P : α → Prop) (a0 : α) {env : Env} {H : Heap} (he : env = E a0) (hG : H = G a0) (h0 : P a0)
    (step : ∀ a, P a → (∀ b, P b → μ b < μ a → Safe x (.inLoop l :: todo) (E b) (G b) R) → Safe x (.inLoop l :: todo) (E a) (G a) R) : Safe x (.inLoop l :: todo) env H R := by
  subst he; subst hG
  have key : ∀ k a, μ a ≤ k → P a → Safe x (.inLoop l :: todo) (E a) (G a) R := by
    intro k
    induction k with
    | zero => intro a ha hp; exact step a hp fun b hb hlt => absurd hlt (by omega)
    | succ k ih => intro a ha hp; exact step a hp fun b hb hlt => ih b (by omega) hb
  exact key (μ a0) a0 (Nat.le_refl _) h0
end
theorem Safe.drop {x : Cx} {todo : List AItem} {env : Env} {H L : Heap} {R : AV → Heap → Prop} {o : Option Blk} (hH : a0r H) (hx : x.n0 = H.length) (he : env.all (fun p => nref (lid H L.length) p.2) = true)
    (hL : ∀ b, some b ∈ L → ∀ a ∈ b.flat, nref (lid H L.length) a = true) (h : Safe x todo env (hap H L) R) : Safe x todo env (hap H (L ++ [o])) R := by
  intro φ w tmps b k cs hg hn hb hk htd hsz hok hrep
  have hlen : (hap H (L ++ [o])).length = lid H L.length + 1 := by simp [hap, lid, Nat.add_assoc]
  have lt : ∀ {a}, Ref (· < (hap H (L ++ [o])).length) a → Ref (· ≠ lid H L.length) a → Ref (· < lid H L.length) a := fun h1 h2 => (h1.both h2).mono fun i ⟨q1, q2⟩ => by rw [hlen] at q1; show i < _; omega
  have htake : (hap H (L ++ [o])).take (lid H L.length) = hap H L := by
    simp only [hap, lid, ← List.append_assoc]
    rw [show H.length + L.length = (H ++ L).length by simp, List.take_left']
    rfl
  have hcut := HOk.cut (E := ⟨φ, hap H (L ++ [o]), w⟩) hok (lid H L.length) (by
    intro j bj hj hbj a ha
    refine lt (hok.refs hbj a ha) ?_
    simp only [hap] at hbj
    rcases Nat.lt_or_ge j H.length with hlt | hge
    · rw [List.getElem?_append_left hlt] at hbj
      exact (hH j bj hbj a ha).mono fun i hi => by show i ≠ H.length + L.length; have : i < H.length := hi; omega
    · rw [List.getElem?_append_right hge] at hbj
      have hj2 : j - H.length < L.length := by simp only [lid] at hj; omega
      rw [List.getElem?_append_left hj2] at hbj
      exact a0i.1 (hL bj (List.mem_of_getElem? hbj) a ha))
  simp only [htake] at hcut
  obtain ⟨v, w', fr, r, φ', H', q1, q2, q3, q4, q5, q6⟩ := h φ w tmps b k cs hg (by rw [hx]; simp [hap]) hb hk htd hsz hcut.1 (fun t => (hrep t).mono hcut.2 (lt (hrep t).ref (b7u he t)))
  exact ⟨v, w', fr, r, φ', H', q1, q2, q3, q4, (hcut.2.sub fun i hi => by rw [hx] at hi; show i < H.length + L.length; have : i < H.length := hi; omega).trans q5, q6⟩
theorem Safe.dropC {x : Cx} {todo : List AItem} {env : Env} {H L : Heap} {R : AV → Heap → Prop} {o : Option Blk} (hH : a0r H) (hx : x.n0 = H.length) (he : env.all (fun p => nref (lid H L.length) p.2) = true)
    (hL : ∀ b, some b ∈ L → ∀ a ∈ b.flat, Cl a) (h : Safe x todo env (hap H L) R) : Safe x todo env (hap H (L ++ [o])) R :=
  Safe.drop hH hx he (fun b hb a ha => a1J (hL b hb a ha)) h
theorem ACalls.intro {P : Program} {mu : Nat → Nat → Bool} {f : FuncId} {fn : Func} (hf : P.funcs[f]? = some fn) {ac : ACode} {rs : List ResV} {nt : Nat} (hc : fchk P mu fn = some (ac, rs, nt))
    {args : List AV} {H : Heap} {R : AV → Heap → Prop} (ha : args.length ≤ nt) (h : a0r H → Safe ⟨P, mu, f, nt, rs, H.length⟩ [.code ac] (a8G 0 args) H R) : ACalls P f args H R := by
  unfold fchk at hc
  split at hc
  · simp at hc
  · rename_i hname
    split at hc
    · rename_i c hb
      split at hc
      · rename_i ac' rs' h1 h2
        cases hc
        refine ⟨⟨fn, hf, by simpa using hname, by simp [hb]⟩, fun φ w vs hok hl hr => ?_⟩
        intro cs
        let b : Frame := { (default : Frame) with fn := f, kind := .normal }
        have henter : Frame.enter P f vs.toArray .normal = b.at ⟨vs.toArray ++ Array.replicate (fn.ntmps - vs.toArray.size) undef, []⟩ [.code c] := by
          simp [Frame.enter, Frame.at, hf, hb, b]
        obtain ⟨v, w', fr, r, φ', H', q1, q2, q3, q4, q5, q6, q7, q8⟩ := h (fun id blk hl => hok.refs hl) φ w (vs.toArray ++ Array.replicate (fn.ntmps - vs.toArray.size) undef) b [.code c] cs
          ⟨fn, hf, h2⟩ (Nat.le_refl _) rfl rfl ⟨h1, trivial⟩ (by simp; omega) hok (by
            intro t
            rw [b1k]
            simp only [Nat.zero_le, if_true, Nat.sub_zero]
            rcases Nat.lt_or_ge t args.length with ht | ht
            · rw [List.getElem?_eq_getElem ht, Option.getD_some]
              have : (vs.toArray ++ Array.replicate (fn.ntmps - vs.toArray.size) undef).getD t undef = vs[t]'(by omega) := by
                rw [Array.getD_eq_getD_getElem?, Array.getElem?_append_left (by simp; omega)]
                simp [List.getElem?_eq_getElem (show t < vs.length by omega)]
              rw [this]
              exact hr t _ _ (List.getElem?_eq_getElem (by omega)) (List.getElem?_eq_getElem ht)
            · rw [List.getElem?_eq_none ht]; exact .top _)
        rw [← henter] at q6
        exact ⟨.panicked [{ v := v, recovered := false }], w', fr, ⟨v, r, φ', H', rfl, q1, q2, q3, q4, q5⟩, q6, q7, q8⟩
      · simp at hc
    · simp at hc
theorem ACalls.cut {P : Program} {f : FuncId} {args : List AV} {H : Heap} {r : AV} (hr : Ref (· < H.length) r) (h : ACalls P f args H fun r' H' => r' = r ∧ ∃ L, H' = hap H L) : ACalls P f args H fun r' H' => r' = r ∧ H' = H := by
  refine ⟨h.1, fun φ w vs hok hl hrep => (h.2 φ w vs hok hl hrep).mono ?_⟩
  rintro e w' ⟨v, r', φ', H', rfl, ⟨rfl, L, rfl⟩, q1, q2, q3, q4⟩
  have hfree : ∀ (j : Nat) bj, j < H.length → (hap H L)[j]? = some (some bj) → ∀ a ∈ bj.flat, Ref (· < H.length) a := by
    intro j bj hj hb
    simp only [hap] at hb
    rw [List.getElem?_append_left hj] at hb
    exact hok.refs hb
  have hcut := HOk.cut q1 H.length hfree
  have ht : (hap H L).take H.length = H := by simp [hap]
  simp only [ht] at hcut
  refine ⟨v, r', φ', H, rfl, ⟨rfl, rfl⟩, hcut.1, q2.mono hcut.2 hr, Nat.le_refl _, q4.trans hcut.2⟩
section
variable {x : Cx} {todo : List AItem} {env : Env} {H : Heap} {R : AV → Heap → Prop}
theorem Safe.nilrow (t wd : Nat) {L : Heap} (hwd : 0 < wd) (ht : look env t = .nil) (h : Safe x todo ((t, .mu (lid H L.length) 0 0 none) :: env) (hap H (L ++ [some ⟨wd, []⟩])) R) : Safe x todo env (hap H L) R := by
  intro φ w tmps bf k cs hg hn hb hk htd hsz hok he
  obtain ⟨hok', hx⟩ := hok.alloc (w := w) rfl rfl rfl (Nat.le_refl _) none (by simp) (fun _ _ => rfl) ⟨wd, []⟩ hwd (by simp) (.inl ⟨rfl, rfl⟩)
  simp only [hap, List.append_assoc] at hok' hx
  obtain ⟨v, w', fr, r, φ', H', q1, q2, q3, q4, q5, q6⟩ := h _ w tmps bf k cs hg (by simp only [hap, List.length_append] at hn ⊢; omega) hb hk htd hsz (by simpa [hap] using hok') (fun j => by
    simp only [look]
    split
    · rename_i hj
      subst hj
      have h0 := he t
      rw [ht] at h0
      have hv : tmps.getD t undef = .slice none 0 0 := by
        generalize tmps.getD t undef = u at h0
        cases h0 with
        | nil => rfl
        | dead v a i hr hd h1 => simp [AV.ref] at hr
      rw [hv]
      refine .mu0 ⟨wd, []⟩ _ 0 none ?_ ?_ (by simp)
      · simp only [hap, lid]
        rw [← List.append_assoc, List.getElem?_append_right (by simp)]; simp
      · simp [lid, hap]
    · have := (he j).mono' hx
      simpa [hap] using this)
  refine ⟨v, w', fr, r, φ', H', q1, q2, q3, q4, ?_, q6⟩
  have hx' := hx.sub (T := (· < x.n0)) (fun i hi => Nat.lt_of_lt_of_le hi hn)
  exact hx'.trans (by simpa [hap] using q5)
end
theorem ACalls.open {P : Program} {mu : Nat → Nat → Bool} {f : FuncId} {fn : Func} (hf : P.funcs[f]? = some fn) {ac : ACode} {rs : List ResV} {nt : Nat} (hc : fchk P mu fn = some (ac, rs, nt))
    {args : List AV} {H : Heap} {R : AV → Heap → Prop} (ha : args.length ≤ nt) (h : a0r H → Safe ⟨P, mu, f, nt, rs, H.length⟩ [.code ac] (a8G 0 args) (hap H []) R) : ACalls P f args H R :=
  ACalls.intro hf hc ha fun hH => by
    have := h hH
    rw [a4L] at this
    exact this
/-- A region told raw, by what it comes to. -/
theorem Safe.rawD {x : Cx} {todo : List AItem} {env : Env} {H : Heap} {R : AV → Heap → Prop} {l : List AIns} {id : Nat} {ops : Array Oper} {mu : Nat → Nat → Bool} {k : List AItem} (e0 : Abs.stl 40 k = .code (.raw id ops true) :: todo) (hcc : a0v x.P mu x.nt (.region id ops true) = some (.region l true)) (h : dops x.P x.n0 l (fun env' H' => Safe x todo env' H' R) env H) : Safe x k env H R := by
  refine Safe.stl 40 k ?_
  rw [e0]
  intro φ w tmps b k cs hg hn hb hk ht hsz hok he
  obtain ⟨i, k', rfl, h1, h2⟩ := a0j ht
  obtain ⟨c, rfl, h1⟩ := a0m h1
  obtain rfl := b8O h1
  obtain ⟨id', ops', hreg, g1, g2⟩ := a2A hcc
  cases hreg
  have g2 := g2 rfl
  have hmix : x.P.follows .mixedOrders = true := by simp only [dchk, Bool.and_eq_true] at g2; exact g2.1
  obtain ⟨ef, Hf, s1, s2⟩ := a2N h
  have hx0 := a2t (· < x.n0) φ H w (w.drawn + 1)
  have hxA := a2t All φ H w (w.drawn + 1)
  have hlst : (List.range ops.size).filterMap (l[·]?) = l := by
    have := (a4O _ _ _ g1).1
    have hl : ops.size = l.length := by simpa using this.symm
    rw [hl]
    apply List.ext_getElem?
    intro m
    have : ∀ (n : Nat), n ≤ l.length → (List.range n).filterMap (l[·]?) = l.take n := by
      intro n
      induction n with
      | zero => simp
      | succ n ih =>
        intro hn
        rw [List.range_succ, List.filterMap_append, ih (by omega), List.take_add_one]
        simp [List.getElem?_eq_getElem (show n < l.length by omega)]
    rw [this l.length (Nat.le_refl _), List.take_length]
  have g3 := g2
  simp only [dchk, Bool.and_eq_true] at g3
  have hall' := a4i (pre := []) g3.2.2
  have hw := a9G (P := x.P) (nt := x.nt) g1 g3.2.1 (n0 := x.n0) (G := fun _ => True) (fun _ _ => fun _ _ => trivial) (E0 := ⟨φ, H, { w with drawn := w.drawn + 1 }⟩) (ef := ef) (Hf := Hf)
    (Q := fun e a w' => e = .normal ∧ Kc x.n0 x.nt ⟨φ, H, { w with drawn := w.drawn + 1 }⟩ (fun e' H' => a1b ef e' ∧ H' = Hf) a w') (fun a w h => ⟨rfl, h⟩)
    ops.size (List.range ops.size) (Array.replicate ops.size false) (by simp) (List.pairwise_lt_range) (by
      intro i
      rw [List.mem_range]
      constructor
      · intro hi; simp [hi]
      · intro hi
        rcases Nat.lt_or_ge i ops.size with h' | h'
        · exact h'
        · simp [Array.getElem?_eq_none (show (Array.replicate ops.size false).size ≤ i by simpa using h')] at hi) (by simp) (by
      intro j o hj
      exfalso
      rcases Nat.lt_or_ge j ops.size with h' | h'
      · simp [h'] at hj
      · simp [Array.getElem?_eq_none (show (Array.replicate ops.size false).size ≤ j by simpa using h')] at hj)
    (fun i a x y _ _ hai hx hy => by
      rcases hall' i a x y (by simp) hai (by simpa using hx) (by simpa using hy) with h | h
      · exact .inl h
      · exact .inr fun _ s t => St.swap h.1 h.2 s t)
    ⟨φ, H, { w with drawn := w.drawn + 1 }⟩ env tmps ef hsz (a8B hok) (he.mono (hxA.sub fun _ _ => trivial)) hn (Ext.refl _ _) (.refl _) trivial (by rw [hlst]; exact s1)
  obtain ⟨e, a', w', ⟨rfl, φ1, env1, H1, ⟨sq, rfl⟩, s3, s4, s5, s6, s7, s8⟩, harr⟩ := wp_region_any hmix hw b k' cs
  have ha : a' = ⟨a'.tmps, []⟩ := by cases a'; simp at s5; simp [s5]
  rw [ha] at harr
  obtain ⟨v, w2, fr, r, φ', H', q1, q2, q3, q4, q5, q6, q7⟩ := s2 φ1 w' a'.tmps b k' cs hg s7 hb hk h2 s6 s3 (a8y s4 sq.symm)
  exact ⟨v, w2, fr, r, φ', H', q1, q2, q3, q4, hx0.trans (s8.trans q5), Steps.trans harr q6, q7⟩
section
variable {x : Cx} {todo : List AItem} {env : Env} {H : Heap} {R : AV → Heap → Prop}
/-- A region told raw, which panics. -/
theorem Safe.raw {id : Nat} {ops : Array Oper} {d : Bool} {k : List AItem} (e : Abs.stl 40 k = .code (.raw id ops d) :: todo) (v : Value) (r : AV) (hr : ∀ E, Rep E v r) (hR : R r H)
    (h : ∀ φ w tmps, HOk ⟨φ, H, w⟩ → a0q ⟨φ, H, w⟩ env tmps → tmps.size = x.nt → (Code.region id ops d).wp x.P (fun e a w' => e = .panic [{ v := v, recovered := false }] ∧ w' = w ∧ a.defers = []) ⟨tmps, []⟩ w) : Safe x k env H R := by
  refine Safe.stl 40 k ?_
  rw [e]
  intro φ w tmps b k cs hg hn hb hk ht hsz hok he
  obtain ⟨i, k', rfl, h1, h2⟩ := a0j ht
  obtain ⟨c, rfl, h1⟩ := a0m h1
  obtain rfl := b8O h1
  obtain ⟨e, a', w', ⟨rfl, rfl, hd⟩, harr⟩ := h φ w tmps hok he hsz b k' cs
  obtain ⟨todo', hs⟩ := harr
  obtain ⟨fn, hf, hc⟩ := hg
  exact ⟨v, w', _, r, φ, H, hR, hok, hr _, hn, Ext.refl _ _, hs, hb, rfl, hd, fn, hb ▸ hf⟩
end
section
variable {x : Cx} {todo : List AItem} {env : Env} {H : Heap} {R : AV → Heap → Prop}
/-- A region told raw, in which a call panics. -/
theorem Safe.rawG {id : Nat} {ops : Array Oper} {d : Bool} {k : List AItem} (e : Abs.stl 40 k = .code (.raw id ops d) :: todo)
    (h : ∀ φ w tmps, HOk ⟨φ, H, w⟩ → a0q ⟨φ, H, w⟩ env tmps → tmps.size = x.nt → x.n0 ≤ H.length → (Code.region id ops d).wp x.P (fun e a w' => ∃ v r φ' H', e = .panic [{ v := v, recovered := false }] ∧ a.defers = [] ∧ R r H' ∧ HOk ⟨φ', H', w'⟩ ∧ Rep ⟨φ', H', w'⟩ v r ∧ x.n0 ≤ H'.length ∧ Ext (· < x.n0) ⟨φ, H, w⟩ ⟨φ', H', w'⟩) ⟨tmps, []⟩ w) : Safe x k env H R := by
  refine Safe.stl 40 k ?_
  rw [e]
  intro φ w tmps b k cs hg hn hb hk ht hsz hok he
  obtain ⟨i, k', rfl, h1, h2⟩ := a0j ht
  obtain ⟨c, rfl, h1⟩ := a0m h1
  obtain rfl := b8O h1
  obtain ⟨e, a', w', ⟨v, r, φ', H', rfl, hd, q1, q2, q3, q4, q5⟩, harr⟩ := h φ w tmps hok he hsz hn b k' cs
  obtain ⟨todo', hs⟩ := harr
  obtain ⟨fn, hf, hc⟩ := hg
  exact ⟨v, w', _, r, φ', H', q1, q2, q3, q4, q5, hs, hb, rfl, hd, fn, hb ▸ hf⟩
end
/-- A call that panics. -/
theorem c0O {P : Program} {n0 : Nat} {E : Emb} {env : Env} {tmps : Array Value} {o : Oper} {c : Call} {f : FuncId} {ss : List Src} {R : AV → Heap → Prop} {E0 : Emb} {K : Act → World → Prop} (ho : o.op = .call c) (hcal : c.callee = .value (.func f)) (hs : srcs c.args.toList = some ss)
    (hok : HOk E) (he : a0q E env tmps) (hn : n0 ≤ E.H.length) (hx : Ext (· < n0) E0 E) (h : ACalls P f (ss.map (·.ev env)) E.H R) :
    o.wp P ⟨tmps, []⟩ E.w K fun e a w' => ∃ v r φ' H', e = .panic [{ v := v, recovered := false }] ∧ a.defers = [] ∧ R r H' ∧ HOk ⟨φ', H', w'⟩ ∧ Rep ⟨φ', H', w'⟩ v r ∧ n0 ≤ H'.length ∧ Ext (· < n0) E0 ⟨φ', H', w'⟩ := by
  obtain ⟨hl, hr⟩ := a5b he hs
  have hx2 := b4u (tmps := tmps) (w := E.w) ho hcal (bs := #[]) (caps := #[]) rfl h.1
  simp only [Oper.wp, hx2, Oper.upon]
  have harr : (#[] : Array Value) ++ c.args.map (Act.eval ⟨tmps, []⟩) ++ #[] = (c.args.toList.map (Act.eval ⟨tmps, []⟩)).toArray := by
    apply Array.ext'
    simp
  rw [harr]
  refine (h.2 E.φ E.w _ hok (by simpa using hl.symm) (by simpa using hr)).mono ?_
  rintro e w' ⟨v, r, φ', H', rfl, q1, q2, q3, q4, q5⟩
  exact ⟨v, r, φ', H', rfl, trivial, q1, q2, q3, Nat.le_trans hn q4, hx.trans (q5.sub fun i hi => Nat.lt_of_lt_of_le hi hn)⟩
section
variable {P : Program} {nt : Nat}
theorem b4E {mu : Nat → Nat → Bool} {rid : Nat} {ops : Array Oper} {n0 : Nat} {f : FuncId} {args : List Src} {d : Option Nat} {l2 : List AIns} {R : AV → Heap → Prop} {E0 : Emb} :
    ∀ (l0 : List Oper) (k : Nat) (l : List AIns), a6j P mu nt rid ops k l0 = some (l ++ ⟨d, none, .call f args⟩ :: l2) → ∀ (E : Emb) (env : Env) (tmps : Array Value), tmps.size = nt → HOk E → a0q E env tmps → n0 ≤ E.H.length → Ext (· < n0) E0 E →
      aops P n0 l (fun env' H' => ACalls P f (args.map (·.ev env')) H' R) env E.H → wpList P ops (fun e a w' => ∃ v r φ' H', e = .panic [{ v := v, recovered := false }] ∧ a.defers = [] ∧ R r H' ∧ HOk ⟨φ', H', w'⟩ ∧ Rep ⟨φ', H', w'⟩ v r ∧ n0 ≤ H'.length ∧ Ext (· < n0) E0 ⟨φ', H', w'⟩) l0 ⟨tmps, []⟩ E.w
  | [], k, l, hl, E, env, tmps, hsz, hok, he, hn, hx, h => by
    cases l <;> simp [a6j] at hl
  | o :: l0, k, [], hl, E, env, tmps, hsz, hok, he, hn, hx, h => by
    simp only [a6j] at hl
    split at hl
    · rename_i i' l' hi hl'
      rw [List.nil_append] at hl
      obtain ⟨rfl, rfl⟩ := List.cons.inj (Option.some.inj hl)
      unfold cins at hi
      split at hi
      · rename_i hd
        split at hi
        · rename_i g a hg ha
          simp only [Option.some.injEq, AIns.mk.injEq] at hi
          obtain ⟨hi1, rfl, rfl⟩ := hi
          simp only [aops] at h
          have hw := a7s (o := o) he hg
          simp only at hw
          unfold wpList
          rw [if_pos hw]
          refine .inl ?_
          unfold caop at ha
          split at ha
          · cases ha
          · split at ha
            · cases ha
            · split at ha
              · rename_i c ho
                split at ha
                · rename_i f' hcal
                  simp only [Option.map_eq_some_iff] at ha
                  obtain ⟨ss, hs, ha⟩ := ha
                  split at ha
                  · cases ha
                  · simp only [AOp.call.injEq] at ha
                    obtain ⟨rfl, rfl⟩ := ha
                    obtain ⟨hl, hr⟩ := a5b he hs
                    have hx2 := b4u (tmps := tmps) (w := E.w) ho hcal (bs := #[]) (caps := #[]) rfl h.1
                    simp only [Oper.wp, hx2, Oper.upon]
                    have harr : (#[] : Array Value) ++ c.args.map (Act.eval ⟨tmps, []⟩) ++ #[] = (c.args.toList.map (Act.eval ⟨tmps, []⟩)).toArray := by
                      apply Array.ext'
                      simp
                    rw [harr]
                    refine (h.2 E.φ E.w _ hok (by simpa using hl.symm) (by simpa using hr)).mono ?_
                    rintro e w' ⟨v, r, φ', H', rfl, q1, q2, q3, q4, q5⟩
                    exact ⟨v, r, φ', H', rfl, trivial, q1, q2, q3, Nat.le_trans hn q4, hx.trans (q5.sub fun i hi => Nat.lt_of_lt_of_le hi hn)⟩
                · simp only [Option.map_eq_some_iff] at ha
                  obtain ⟨ss, hs, ha⟩ := ha
                  split at ha <;> cases ha
                · cases ha
              · exfalso
                split at ha
                · cases ha
                · simp only [Option.map_eq_some_iff] at ha
                  obtain ⟨_, _, ha⟩ := ha
                  cases ha
              · cases ha
        · simp at hi
      · simp at hi
    · simp at hl
  | o :: l0, k, i :: l, hl, E, env, tmps, hsz, hok, he, hn, hx, h => by
    simp only [a6j] at hl
    split at hl
    · rename_i i' l' hi hl'
      rw [List.cons_append] at hl
      obtain ⟨rfl, rfl⟩ := List.cons.inj (Option.some.inj hl)
      unfold cins at hi
      split at hi
      · rename_i hd
        split at hi
        · rename_i g a hg ha
          cases hi
          have next : ∀ a w, Kc n0 nt E (aops P n0 l (fun env' H' => ACalls P f (args.map (·.ev env')) H' R)) a w → wpList P ops (fun e a w' => ∃ v r φ' H', e = .panic [{ v := v, recovered := false }] ∧ a.defers = [] ∧ R r H' ∧ HOk ⟨φ', H', w'⟩ ∧ Rep ⟨φ', H', w'⟩ v r ∧ n0 ≤ H'.length ∧ Ext (· < n0) E0 ⟨φ', H', w'⟩) l0 a w := by
            intro a w ⟨φ, env', H', q1, q2, q3, q4, q5, q6, q7⟩
            have : a = ⟨a.tmps, []⟩ := by cases a; simp at q4; simp [q4]
            rw [this]
            exact b4E l0 (k + 1) l hl' ⟨φ, H', w⟩ env' a.tmps q5 q2 q3 q6 (hx.trans q7) q1
          have hw := a7s (o := o) he hg
          simp only [aops] at h
          unfold wpList
          split at h
          · simp only at hw
            rw [if_pos hw]
            exact .inl (a1z ha hd hsz hok he hn h next)
          · rename_i t want _
            simp only at hw
            simp only [a7f] at h
            have pass : Region.wanted o (yielded ops tmps) = false → aops P n0 l (fun env' H' => ACalls P f (args.map (·.ev env')) H' R) (put o.dst (.tup []) env) E.H → wpList P ops (fun e a w' => ∃ v r φ' H', e = .panic [{ v := v, recovered := false }] ∧ a.defers = [] ∧ R r H' ∧ HOk ⟨φ', H', w'⟩ ∧ Rep ⟨φ', H', w'⟩ v r ∧ n0 ≤ H'.length ∧ Ext (· < n0) E0 ⟨φ', H', w'⟩) (o :: l0) ⟨tmps, []⟩ E.w := by
              intro hf h
              unfold wpList
              rw [if_neg (by rw [hf]; simp)]
              refine next _ _ ⟨E.φ, _, E.H, h, hok, ?_, ?_, ?_, hn, Ext.refl _ _⟩
              · subst hsz; exact a5O he hd a9M
              · cases o.dst <;> rfl
              · rw [b0z]; exact hsz
            split at h
            · rename_i c hc
              have hw' := hw.1 c hc
              split at h
              · rename_i hcw
                rw [if_pos (by rw [hw', hcw]; simp)]
                exact .inl (a1z ha hd hsz hok he hn h next)
              · rename_i hcw
                have := pass (by rw [hw']; simpa using hcw) h
                unfold wpList at this
                exact this
            · rename_i hc
              have hw' := hw.2 hc
              rw [if_neg (by cases want <;> simp)] at h
              have := pass hw' h
              unfold wpList at this
              exact this
            · exact h.elim
        · simp at hi
      · simp at hi
    · simp at hl
end
section
variable {x : Cx} {todo : List AItem} {R : AV → Heap → Prop}
/-- A region in which a call panics. -/
theorem Safe.rgP {env : Env} {H : Heap} {k k' : List AItem} {l : List AIns} (l1 l2 : List AIns) {d : Option Nat} {f : FuncId} {args : List Src} (e : Abs.stl 40 k = .code (.region l false) :: k') (e2 : l = l1 ++ ⟨d, none, .call f args⟩ :: l2)
    (h : aops x.P x.n0 l1 (fun env' H' => ACalls x.P f (args.map (·.ev env')) H' R) env H) : Safe x k env H R := by
  refine Safe.stl 40 k ?_
  rw [e]
  intro φ w tmps b k cs hg hn hb hk ht hsz hok he
  obtain ⟨i, k', rfl, h1, h2⟩ := a0j ht
  obtain ⟨c, rfl, h1⟩ := a0m h1
  obtain ⟨id, ops, rfl, g1, _⟩ := a2A h1
  rw [e2] at g1
  have hw := b4E (P := x.P) (nt := x.nt) (rid := id) (ops := ops) (n0 := x.n0) (E0 := ⟨φ, H, w⟩) ops.toList 0 l1 g1 ⟨φ, H, w⟩ env tmps hsz hok he hn (Ext.refl _ _) h
  obtain ⟨e, a', w', ⟨v, r, φ', H', rfl, hd, q1, q2, q3, q4, q5⟩, harr⟩ := wp_region_list hw b k' cs
  obtain ⟨todo', hs⟩ := harr
  obtain ⟨fn, hf, hc⟩ := hg
  exact ⟨v, w', _, r, φ', H', q1, q2, q3, q4, q5, hs, hb, rfl, hd, fn, hb ▸ hf⟩
end
end Pan
end Go.Abs
namespace Go.Abs
abbrev LB : Nat := 4294967296
def val : List Nat → Nat
  | [] => 0
  | d :: l => d + LB * val l
def Lim (l : List Nat) : Prop := ∀ d ∈ l, d < LB
/-- The limbs of a number, no nought at the end. -/
def limbs (n : Nat) : List Nat := if h : n = 0 then [] else n % LB :: limbs (n / LB)
termination_by n
decreasing_by exact Nat.div_lt_self (by omega) (by decide)
theorem a0y : limbs 0 = [] := by rw [limbs]; simp
theorem a7Y {n : Nat} (h : n ≠ 0) : limbs n = n % LB :: limbs (n / LB) := by rw [limbs]; simp [h]
theorem a1c (n : Nat) : val (limbs n) = n := by
  induction n using Nat.strongRecOn with
  | _ n ih =>
    by_cases h : n = 0
    · subst h; rw [a0y]; rfl
    · rw [a7Y h, val, ih (n / LB) (Nat.div_lt_self (by omega) (by decide))]
      exact Nat.mod_add_div n LB
theorem a4I (n : Nat) : Lim (limbs n) := by
  induction n using Nat.strongRecOn with
  | _ n ih =>
    by_cases h : n = 0
    · subst h; rw [a0y]; intro d hd; simp at hd
    · rw [a7Y h]
      intro d hd
      rcases List.mem_cons.1 hd with rfl | hd
      · exact Nat.mod_lt _ (by decide)
      · exact ih (n / LB) (Nat.div_lt_self (by omega) (by decide)) d hd
theorem c1T : Lim [] := fun d hd => by simp at hd
theorem b9w {d : Nat} {l : List Nat} : Lim (d :: l) ↔ d < LB ∧ Lim l := by
  constructor
  · intro h; exact ⟨h d (by simp), fun e he => h e (by simp [he])⟩
  · rintro ⟨h1, h2⟩ e he
    rcases List.mem_cons.1 he with rfl | he
    · exact h1
    · exact h2 e he
theorem b5z {a b : List Nat} : Lim (a ++ b) ↔ Lim a ∧ Lim b := by
  constructor
  · intro h; exact ⟨fun d hd => h d (by simp [hd]), fun d hd => h d (by simp [hd])⟩
  · rintro ⟨h1, h2⟩ d hd
    rcases List.mem_append.1 hd with hd | hd
    · exact h1 d hd
    · exact h2 d hd
theorem Lim.take {l : List Nat} (h : Lim l) (n : Nat) : Lim (l.take n) := fun d hd => h d (List.mem_of_mem_take hd)
theorem Lim.drop {l : List Nat} (h : Lim l) (n : Nat) : Lim (l.drop n) := fun d hd => h d (List.mem_of_mem_drop hd)
theorem b4Z (a b : List Nat) : val (a ++ b) = val a + LB ^ a.length * val b := by
  induction a with
  | nil => simp [val]
  | cons d a ih =>
    simp only [List.cons_append, val, ih, List.length_cons]
    rw [Nat.mul_add, ← Nat.mul_assoc, ← Nat.pow_succ', Nat.add_assoc]
theorem c4E {l : List Nat} (h : Lim l) : val l < LB ^ l.length := by
  induction l with
  | nil => simp [val]
  | cons d l ih =>
    have h' := b9w.1 h
    have := ih h'.2
    simp only [val, List.length_cons, Nat.pow_succ']
    have h1 : LB * (val l + 1) ≤ LB * LB ^ l.length := Nat.mul_le_mul_left _ this
    rw [Nat.mul_add, Nat.mul_one] at h1
    have := h'.1
    omega
theorem a9H (n : Nat) : val (List.replicate n 0) = 0 := by
  induction n with
  | zero => rfl
  | succ n ih => simp [List.replicate_succ, val, ih]
/-- A row without a nought at its end is the limbs of its number. -/
theorem a5X : ∀ {l : List Nat}, Lim l → (l.getLast?).getD 1 ≠ 0 → limbs (val l) = l
  | [], _, _ => a0y
  | d :: l, h, hl => by
    obtain ⟨h1, h2⟩ := b9w.1 h
    have hl' : (l.getLast?).getD 1 ≠ 0 := by
      cases l with
      | nil => simp
      | cons e l => simpa [List.getLast?_cons_cons] using hl
    have hne : val (d :: l) ≠ 0 := by
      intro h0
      simp only [val] at h0
      have hd : d = 0 := by omega
      have hv : val l = 0 := by
        have : LB * val l = 0 := by omega
        rcases Nat.mul_eq_zero.1 this with h | h
        · exact absurd h (by decide)
        · exact h
      have := a5X h2 hl'
      rw [hv, a0y] at this
      subst this
      subst hd
      simp at hl
    rw [a7Y hne]
    simp only [val]
    rw [Nat.add_mul_mod_self_left, Nat.mod_eq_of_lt h1, Nat.add_mul_div_left _ _ (by decide), Nat.div_eq_of_lt h1, Nat.zero_add, a5X h2 hl']
theorem a1x {n k : Nat} (h : n < LB ^ k) : (limbs n).length ≤ k := by
  induction k generalizing n with
  | zero =>
    have : n = 0 := by simpa using h
    subst this; rw [a0y]; simp
  | succ k ih =>
    by_cases h0 : n = 0
    · subst h0; rw [a0y]; simp
    · rw [a7Y h0, List.length_cons]
      have : n / LB < LB ^ k := by
        rw [Nat.div_lt_iff_lt_mul (by decide)]
        rwa [Nat.pow_succ] at h
      have := ih this
      omega
theorem c0X (l : List Nat) : val (l ++ [0]) = val l := by rw [b4Z]; simp [val]
theorem a6x (l : List Nat) (d : Nat) : val (l ++ [d]) = val l + LB ^ l.length * d := by rw [b4Z]; simp [val]
theorem b5J {l : List Nat} {i : Nat} (h : i < l.length) : val (l.take (i + 1)) = val (l.take i) + LB ^ i * l[i] := by
  rw [List.take_succ_eq_append_getElem h, a6x, List.length_take, Nat.min_eq_left (by omega)]
theorem a4N {l : List Nat} (h : Lim l) (i : Nat) : l.getD i 0 < LB := by
  rw [List.getD_eq_getElem?_getD]
  rcases Nat.lt_or_ge i l.length with hi | hi
  · rw [List.getElem?_eq_getElem hi, Option.getD_some]; exact h _ (List.getElem_mem hi)
  · rw [List.getElem?_eq_none hi]; decide
/-- Up to a place; behind the end nothing comes. -/
theorem a0w (l : List Nat) (i : Nat) : val (l.take (i + 1)) = val (l.take i) + LB ^ i * l.getD i 0 := by
  rcases Nat.lt_or_ge i l.length with h | h
  · rw [b5J h, List.getD_eq_getElem?_getD, List.getElem?_eq_getElem h, Option.getD_some]
  · rw [List.take_of_length_le (by omega), List.take_of_length_le h, List.getD_eq_getElem?_getD, List.getElem?_eq_none h]; simp
theorem a6U {l : List Nat} (h : Lim l) : (limbs (val l)).length ≤ l.length := a1x (c4E h)
/-- A row that may be handed round. -/
structure Nt (l : List Nat) : Prop where
  lim : Lim l
  len : l.length ≤ 17592186044416
theorem Nt.limbs {l : List Nat} (h : Nt l) : Nt (limbs (val l)) := ⟨a4I _, Nat.le_trans (a6U h.lim) h.len⟩
theorem b5S (x : List Nat) (k d : Nat) : (x ++ List.replicate (k + 1) 0).set x.length d = (x ++ [d]) ++ List.replicate k 0 := by
  rw [List.set_append_right _ _ (Nat.le_refl _), Nat.sub_self, List.replicate_succ, List.set_cons_zero]; simp
/-- One place of a sum. -/
theorem b9l {vd pa pb B c x y i : Nat} (h : vd + B * c = pa + pb) : (vd + B * ((c + x + y) % LB)) + (B * LB) * ((c + x + y) / LB) = (pa + B * x) + (pb + B * y) := by
  have e : (c + x + y) % LB + LB * ((c + x + y) / LB) = c + x + y := Nat.mod_add_div _ _
  have e2 : B * ((c + x + y) % LB) + (B * LB) * ((c + x + y) / LB) = B * (c + x + y) := by rw [Nat.mul_assoc, ← Nat.mul_add, e]
  have e3 : B * (c + x + y) = B * c + B * x + B * y := by rw [Nat.mul_add, Nat.mul_add]
  omega
theorem a2c {x : List Nat} {d : Nat} (h : Lim x) (hd : d < LB) : Lim (x ++ [d]) := b5z.2 ⟨h, by intro e he; simp at he; omega⟩
theorem c0Y {w : List Nat} {k d : Nat} (h : k < w.length) : val (w.set k d) + LB ^ k * w.getD k 0 = val w + LB ^ k * d := by
  induction w generalizing k with
  | nil => simp at h
  | cons e w ih =>
    cases k with
    | zero => simp only [List.set_cons_zero, val, Nat.pow_zero, Nat.one_mul, List.getD_cons_zero]; omega
    | succ k =>
      simp only [List.set_cons_succ, val, List.getD_cons_succ, Nat.pow_succ']
      have := ih (k := k) (by simpa using h)
      have e1 : LB * (val (w.set k d) + LB ^ k * w.getD k 0) = LB * (val w + LB ^ k * d) := by rw [this]
      rw [Nat.mul_add, Nat.mul_add, ← Nat.mul_assoc, ← Nat.mul_assoc] at e1
      omega
theorem c1S {w : List Nat} {k d : Nat} (h : Lim w) (hd : d < LB) : Lim (w.set k d) := by
  intro e he
  rcases List.mem_or_eq_of_mem_set he with h' | h'
  · exact h e h'
  · rw [h']; exact hd
/-- One place of a product. -/
theorem b9s {vw vx A B C c x y q vb vs t : Nat} (hC : C = A * B) (h : vw + C * c = vx + A * (x * vb)) (hs : vs + C * q = vw + C * (t % LB)) (ht : t = c + x * y + q) :
    vs + (C * LB) * (t / LB) = vx + A * (x * (vb + B * y)) := by
  have e : t % LB + LB * (t / LB) = t := Nat.mod_add_div _ _
  have e1 : C * (t % LB) + (C * LB) * (t / LB) = C * t := by rw [Nat.mul_assoc, ← Nat.mul_add, e]
  have e2 : C * t = C * c + C * (x * y) + C * q := by rw [ht, Nat.mul_add, Nat.mul_add]
  have e3 : A * (x * (vb + B * y)) = A * (x * vb) + C * (x * y) := by
    rw [hC, Nat.mul_add, Nat.mul_add, Nat.mul_assoc A B, Nat.mul_left_comm B x y]
  omega
theorem b9t {c x y q : Nat} (hc : c < LB) (hx : x < LB) (hy : y < LB) (hq : q < LB) : c + x * y + q < LB * LB := by
  have : x * y ≤ (LB - 1) * (LB - 1) := Nat.mul_le_mul (by omega) (by omega)
  have e : (LB - 1) * (LB - 1) + (LB - 1) + (LB - 1) < LB * LB := by decide
  omega
theorem c3H {a : List Nat} {i : Nat} (h : a.length ≤ i) : a.getD i 0 = 0 := by rw [List.getD_eq_getElem?_getD, List.getElem?_eq_none h]; rfl
theorem a9J {l : List Nat} {i : Nat} (h : i < l.length) : l.take (i + 1) = l.take i ++ [l.getD i 0] := by
  rw [List.take_succ_eq_append_getElem h, List.getD_eq_getElem?_getD, List.getElem?_eq_getElem h, Option.getD_some]
end Go.Abs
namespace Go.Abs
def u32s (l : List Nat) : List AV := l.map fun n : Nat => .int .u32 (n : Int)
def natV (l : List Nat) : AV := .sl 1 (u32s l)
theorem a0B (l : List Nat) : (u32s l).length = l.length := by simp [u32s]
theorem b8i (a b : List Nat) : u32s (a ++ b) = u32s a ++ u32s b := by simp [u32s]
theorem c1c (d : Nat) (l : List Nat) : u32s (d :: l) = .int .u32 (d : Int) :: u32s l := rfl
theorem b3q (l : List Nat) (n : Nat) : (u32s l).take n = u32s (l.take n) := by simp [u32s, List.map_take]
theorem c2P (l : List Nat) (i d : Nat) : (u32s l).set i (.int .u32 (d : Int)) = u32s (l.set i d) := by simp [u32s, List.map_set]
theorem b6M {l : List Nat} {i : Nat} (h : i < l.length) : (u32s l).getD i .top = .int .u32 (l.getD i 0 : Nat) := by
  simp [u32s, h]
theorem c1b (l : List Nat) : (u32s l).flatMap AV.cells = u32s l := by
  induction l with
  | nil => rfl
  | cons d l ih => rw [c1c, List.flatMap_cons, ih]; rfl
theorem c2Q (n : Nat) : List.replicate n (AV.int .u32 0) = u32s (List.replicate n 0) := by simp [u32s]
theorem c1d {l : List Nat} {a : AV} (h : a ∈ u32s l) : Cl a := by
  obtain ⟨n, _, rfl⟩ := List.mem_map.1 h; exact .int _ _
theorem b5L {l : List Nat} {a : AV} (h : a ∈ (u32s l).flatMap AV.cells) : Cl a := by rw [c1b] at h; exact c1d h
theorem a2B (l : List Nat) : ∀ a ∈ (Blk.mk 1 (u32s l)).flat, Cl a := fun a h => b5L h
theorem a3w (l : List Nat) : Cl (natV l) := .sl 1 _ fun c h => b5L h
theorem c0x (l : List Nat) : (natV l).cells = [natV l] := rfl
theorem c3t (l : List Nat) : (natV l).fit = true := rfl
theorem b7l (id : Nat) (l : List Nat) : nref id (natV l) = true := a1J (a3w l)
theorem c3u (l : List Nat) : clb (natV l) = true := b2F (a3w l)
theorem c3s (id : Nat) (b : Blk) (l : List Nat) : frz id b (natV l) = natV l := b4r (a3w l)
theorem c1H (id : Nat) (b : Blk) (l : List Nat) : (u32s l).map (frz id b) = u32s l := by
  rw [List.map_congr_left (g := fun x => x) fun a h => b4r (c1d h)]; simp
theorem b2Z (H : Heap) (l : List Nat) : lenV H (natV l) = some (.int .i64 l.length) := by simp [natV, b8D, a0B]
theorem b2Y (H : Heap) (l : List Nat) : a0z H 1 false (natV l) = some (u32s l) := a2Q H 1 _
theorem a1H (H : Heap) (l : List Nat) (k : IntKind) (i : Nat) (h : i < l.length) : idxV H 1 (natV l) (.int k i) = some (.ro (.int .u32 (l.getD i 0 : Nat)) 0) := by
  rw [natV, c1Z _ _ _ _ _ (by omega) (by rw [a0B]; omega)]
  rw [Int.toNat_natCast, b6M h]
theorem c3r (H : Heap) (l : List Nat) (k : IntKind) (n : Nat) (h : n ≤ l.length) : slcV H 1 (natV l) none (some (.int k n)) none = some (natV (l.take n)) := by
  simp only [natV, slcV, a3O, Option.bind_some, a0B]
  rw [if_pos ⟨trivial, by omega, by omega, by omega⟩]
  simp [b3q]
theorem c7d (H L : Heap) (wd i off len : Nat) (oc : Option Nat) (k : IntKind) (j : Nat) {b : Blk} (h : L[i]? = some (some b)) (hw : b.wd = wd) (hj : j < len) :
    idxV (hap H L) wd (.mu (lid H i) off len oc) (.int k j) = some (.loc (lid H i) (off + j) 0) := by
  rw [b1r _ _ _ _ _ _ _ _ (by omega) (by omega), a1U, h]; simp [hw]
theorem c3C (H L : Heap) (i k : Nat) {b : Blk} (h : L[i]? = some (some b)) (hk : k < b.xs.length) : atV (hap H L) (.loc (lid H i) k 0) = some (b.xs.getD k .top).cells := by
  rw [b4B, a1U, h]; simp [hk]
theorem a6w {n : Int} (h0 : 0 ≤ n) (h1 : n < 4294967296) : IntKind.wrap .u32 n = n := by
  simp [IntKind.wrap, IntKind.bits, IntKind.signed]; omega
theorem a0E {n : Int} (h0 : 0 ≤ n) (h1 : n < 18446744073709551616) : IntKind.wrap .u64 n = n := by
  simp [IntKind.wrap, IntKind.bits, IntKind.signed]; omega
theorem a0g {n : Int} (h0 : -9223372036854775808 ≤ n) (h1 : n < 9223372036854775808) : IntKind.wrap .i64 n = n := by
  simp [IntKind.wrap, IntKind.bits, IntKind.signed]; omega
theorem b1G (n : Nat) : IntKind.wrap .u32 (n : Int) = ((n % LB : Nat) : Int) := by
  simp [IntKind.wrap, IntKind.bits, IntKind.signed]
theorem b9d (n0 : Nat) (env : Env) (H L : Heap) (i len : Nat) (oc : Option Nat) (y : AV) (xs l : List Nat) (hH : a0r H) (hl : L[i]? = some (some ⟨1, u32s xs⟩)) (hlen : len = xs.length) (hn : n0 ≤ lid H i) (ha : c4A H L i)
    (hy : a0z (hap H L) 1 false y = some (u32s l)) (hb : xs.length + l.length ≤ 35184372088832) (hoc : (oc.any fun c => decide (len + l.length ≤ c)) = false := by rfl) :
    appV n0 1 4 false (.mu (lid H i) 0 len oc) y env (hap H L) = some (.mu (lid H i) 0 (len + l.length) (a0H oc (len + l.length)), scrub (lid H i) env, hap H (L.set i (some ⟨1, u32s (xs ++ l)⟩))) := by
  have := b6G n0 env H L 1 4 false i len oc y (u32s xs) (u32s l) hH hl (by rw [a0B]; exact hlen) hn hy ha (fun a h => (b5L h).ref) (by rw [a0B]; omega) (by rw [a0B]; omega) (by rw [a0B]; exact hoc)
  rwa [a0B, ← b8i] at this
theorem b5B (H : Heap) (i : Nat) (l : List Nat) (oc : Option Nat) : frz (lid H i) ⟨1, u32s l⟩ (.mu (lid H i) 0 l.length oc) = natV l := by
  rw [b4q _ _ _ _ _ (by rw [a0B])]; rfl
/-- The rules for numbers. -/
def EN := And.intro @b2Z (And.intro @b5B (And.intro @c1H (And.intro @b7l (And.intro @c3u (And.intro @c0x (And.intro @c3t (And.intro @c3s (And.intro @b2Y @a0B))))))))
theorem a7U (H : Heap) (X : List AV) (wd len : Nat) (oc : Option Nat) (k : IntKind) (j : Nat) (h : j < len) : idxV (hap H [some ⟨wd, X⟩]) wd (.mu (lid H 0) 0 len oc) (.int k j) = some (.loc (lid H 0) j 0) := by
  rw [c7d H [some ⟨wd, X⟩] wd 0 0 len oc k j rfl rfl h, Nat.zero_add]
theorem c4M (H : Heap) (x : List Nat) (j : Nat) (h : j < x.length) : atV (hap H [some ⟨1, u32s x⟩]) (.loc (lid H 0) j 0) = some [.int .u32 (x.getD j 0 : Nat)] := by
  rw [c3C H [some ⟨1, u32s x⟩] 0 j rfl (by simpa [a0B] using h)]
  simp only [b6M h, AV.cells]
theorem b5h (H : Heap) (env : Env) (x : List Nat) (j d : Nat) (h : j < x.length) : a4Z 1 (.loc (lid H 0) j 0) (.int .u32 (d : Int)) env (hap H [some ⟨1, u32s x⟩]) = some (.top, env, hap H [some ⟨1, u32s (x.set j d)⟩]) := by
  rw [b0T env H [some ⟨1, u32s x⟩] 1 0 j 0 _ rfl (by simpa [a0B] using h) rfl rfl (Nat.le_refl 1)]
  simp only [a7u, c2P, List.set_cons_zero]
theorem b0C (env : Env) (H L : Heap) (k k' : IntKind) (n : Nat) (h : n ≤ 35184372088832) : c1L 1 4 (.int .u32 0) (.int k n) (.int k' n) env (hap H L) = some (.mu (lid H L.length) 0 n (some n), env, hap H (L ++ [some ⟨1, u32s (List.replicate n 0)⟩])) := by
  rw [b7n env H L 1 4 _ k k' n n (by decide) (Nat.le_refl _) (by omega) (by omega), c2Q]
theorem c7G (t : Nat) : Int.fdiv (t : Int) (2 ^ min (Int.toNat 32) IntKind.u64.bits) = ((t / LB : Nat) : Int) := by
  rw [show (2 : Int) ^ min (Int.toNat 32) IntKind.u64.bits = (LB : Int) by decide, Int.fdiv_eq_ediv_of_nonneg _ (by decide)]; rfl
theorem b8s (H : Heap) (hH : a0r H) (n0 : Nat) (hn : n0 ≤ lid H 0) (env : Env) (x : List Nat) (d : Nat) (hb : x.length < 35184372088832) :
    appV n0 1 4 false (.mu (lid H 0) 0 x.length none) (.sl 1 [.int .u32 (d : Int)]) env (hap H [some ⟨1, u32s x⟩]) = some (.mu (lid H 0) 0 (x.length + 1) none, scrub (lid H 0) env, hap H [some ⟨1, u32s (x ++ [d])⟩]) := by
  have := b9d n0 env H [some ⟨1, u32s x⟩] 0 x.length none (.sl 1 [.int .u32 (d : Int)]) x [d] hH rfl rfl hn (b6D fun b hb a ha => by
    simp at hb; subst hb; exact a2B x a ha) (a2Q _ 1 _) (by simp; omega)
  simpa [a0H] using this
theorem c4I (t : Nat) : binV .rem (.int .u64 (t : Int)) (.int .u64 4294967296) = some (.int .u64 ((t % LB : Nat) : Int)) := by
  rw [c4m _ _ _ (by decide), Int.tmod_eq_emod_of_nonneg (by omega)]; rfl
theorem c4L (t : Nat) (h : t < 18446744073709551616) : binV .quo (.int .u64 (t : Int)) (.int .u64 4294967296) = some (.int .u64 ((t / LB : Nat) : Int)) := by
  have hLB : LB = 4294967296 := rfl
  rw [c4n _ _ _ (by decide), Int.tdiv_eq_ediv_of_nonneg (by omega)]
  have : (t : Int) / 4294967296 = ((t / LB : Nat) : Int) := rfl
  rw [this, a0E (by omega) (by omega)]
def E1 := And.intro EV (And.intro EVC EN)
end Go.Abs
namespace Go.Abs
def sgn (neg : Bool) (n : Nat) : Int := if neg then -(n : Int) else n
/-- A number aXs it is handed round: a sign, limbs. -/
structure ZI where
  neg : Bool
  mag : List Nat
def ZI.av (x : ZI) : AV := .agg [.bool x.neg, natV x.mag]
def ZI.z (x : ZI) : Int := sgn x.neg (val x.mag)
/-- The number in its one form. -/
def canZ (z : Int) : ZI := ⟨decide (z < 0), limbs z.natAbs⟩
def Z (z : Int) : AV := .agg [.bool (decide (z < 0)), natV (limbs z.natAbs)]
theorem c6A (neg : Bool) (n : Nat) : .agg [.bool (neg && decide (0 < n)), natV (limbs n)] = Z (sgn neg n) := by
  unfold Z sgn
  cases neg
  · simp <;> omega
  · rcases Nat.eq_zero_or_pos n with h | h
    · subst h; simp
    · simp [h]
theorem c2Y (neg : Bool) : sgn neg 0 = 0 := by cases neg <;> rfl
theorem c1n (neg : Bool) (n : Nat) : (sgn neg n).natAbs = n := by cases neg <;> simp [sgn]
theorem Z_cl (z : Int) : Cl (Z z) := .agg _ (by intro c hc; simp at hc; rcases hc with rfl | rfl; exact .bool _; exact a3w _)
theorem ZI.cl (x : ZI) : Cl x.av := .agg _ (by intro c hc; simp at hc; rcases hc with rfl | rfl; exact .bool _; exact a3w _)
theorem c7C : Z 0 = .agg [.bool false, natV []] := by unfold Z; simp [a0y]
theorem le_zero : Le (.agg [.bool false, .nil]) (Z 0) := by rw [c7C]; exact Le.agg2 (Le.refl _) (Le.nil 1 (by decide))
/-- The number's limbs. -/
structure Zok (k : Nat) (x : ZI) : Prop where
  lim : Lim x.mag
  len : x.mag.length ≤ k
theorem Zok.mono {k m : Nat} {x : ZI} (h : Zok k x) (hk : k ≤ m) : Zok m x := ⟨h.lim, Nat.le_trans h.len hk⟩
theorem Zok.lt {k : Nat} {x : ZI} (h : Zok k x) : val x.mag < LB ^ k := by
  have h1 := c4E h.lim
  have h2 : LB ^ x.mag.length ≤ LB ^ k := Nat.pow_le_pow_right (by decide) h.len
  omega
theorem c4V {k : Nat} {z : Int} (h : z.natAbs < LB ^ k) : Zok k (canZ z) := ⟨a4I _, a1x h⟩
section
variable (n0 : Nat) (env : Env) (H L : Heap)
def cpyV (wd : Nat) (x y : AV) (env : Env) (H : Heap) : Option (AV × Env × Heap) := (a0z H wd false y).bind fun ys => match x with
      | .mu id off len _ => (hrow H id).bind fun r =>
          if r.wd = wd ∧ off + len ≤ r.xs.length then
            some (.int .i64 (min ys.length len : Nat), env, H.set id (some ⟨wd, r.xs.take off ++ ys.take (min ys.length len) ++ r.xs.drop (off + min ys.length len)⟩)) else none
      | _ => none
theorem c7r (wd : Nat) (a b : Src) : ev n0 (.cpy wd a b) env H = cpyV wd (a.ev env) (b.ev env) env H := by
  simp only [ev, cpyV]; cases a0z H wd false (b.ev env) <;> simp only [Option.bind_none, Option.bind_some]; split <;> simp_all
theorem b6B (wd i len : Nat) (oc : Option Nat) (y : AV) (xs ys : List AV) (hl : L[i]? = some (some ⟨wd, xs⟩)) (hlen : len = xs.length) (hy : a0z (hap H L) wd false y = some ys) (hle : len ≤ ys.length) :
    cpyV wd (.mu (lid H i) 0 len oc) y env (hap H L) = some (.int .i64 len, env, hap H (L.set i (some ⟨wd, ys.take len⟩))) := by
  subst hlen
  simp only [cpyV, hy, Option.bind_some, a1U, hl, Option.join_some, a4v]
  rw [if_pos ⟨trivial, by omega⟩]
  simp [Nat.min_eq_right hle]
end
def EI := @c7r
def E2 := And.intro @EV2 (And.intro @EI @E1)
end Go.Abs
namespace Go.Abs
theorem ZI.av_fit (x : ZI) : x.av.fit = true := rfl
theorem ZI.av_cells (x : ZI) : x.av.cells = [.bool x.neg, natV x.mag] := rfl
theorem ZI.av_nref (id : Nat) (x : ZI) : nref id x.av = true := a1J x.cl
theorem ZI.av_frz (id : Nat) (b : Blk) (x : ZI) : frz id b x.av = x.av := b4r x.cl
theorem c6B (z : Int) : (Z z).cells = [.bool (decide (z < 0)), natV (limbs z.natAbs)] := rfl
theorem c7L (z : Int) : (Z z).fit = true := rfl
theorem c7D (id : Nat) (z : Int) : nref id (Z z) = true := a1J (Z_cl z)
theorem c7K (id : Nat) (b : Blk) (z : Int) : frz id b (Z z) = Z z := b4r (Z_cl z)
def vecV (v : List ZI) : AV := .sl 2 (v.map ZI.av)
def matV (b : List (List ZI)) : AV := .sl 1 (b.map vecV)
theorem a8o {a : AV} (h : Cl a) : ∀ c ∈ a.cells, Cl c := by
  intro c hc
  cases a with
  | agg cs => cases h with | agg _ h => exact h c hc
  | mo l => cases h
  | io i n s => cases h
  | _ => simp [AV.cells] at hc; subst hc; exact h
theorem c7w {α : Type} (wd : Nat) (f : α → AV) (l : List α) (h : ∀ x, Cl (f x)) : Cl (.sl wd (l.map f)) := by
  refine .sl wd _ fun c hc => ?_
  obtain ⟨x, hx, hc⟩ := List.mem_flatMap.1 hc
  obtain ⟨y, _, rfl⟩ := List.mem_map.1 hx
  exact a8o (h y) c hc
theorem a0I (v : List ZI) : Cl (vecV v) := c7w 2 _ v ZI.cl
theorem b4f (b : List (List ZI)) : Cl (matV b) := c7w 1 _ b a0I
theorem b9O (v : List ZI) : (vecV v).cells = [vecV v] := rfl
theorem c2N (v : List ZI) : (vecV v).fit = true := rfl
theorem c0W (id : Nat) (v : List ZI) : nref id (vecV v) = true := a1J (a0I v)
theorem c2O (v : List ZI) : clb (vecV v) = true := b2F (a0I v)
theorem c2M (id : Nat) (b : Blk) (v : List ZI) : frz id b (vecV v) = vecV v := b4r (a0I v)
theorem c0A (v : List (List ZI)) : (matV v).cells = [matV v] := rfl
theorem c3x (v : List (List ZI)) : (matV v).fit = true := rfl
theorem c1M (id : Nat) (v : List (List ZI)) : nref id (matV v) = true := a1J (b4f v)
theorem c3y (v : List (List ZI)) : clb (matV v) = true := b2F (b4f v)
theorem c3w (id : Nat) (b : Blk) (v : List (List ZI)) : frz id b (matV v) = matV v := b4r (b4f v)
section
variable (H : Heap)
theorem c4G {α : Type} (wd : Nat) (f : α → AV) (l : List α) : lenV H (.sl wd (l.map f)) = some (.int .i64 l.length) := by rw [b8D, List.length_map]
theorem c1m {α : Type} (wd : Nat) (f : α → AV) (l : List α) (k : IntKind) (i : Nat) (h : i < l.length) : idxV H wd (.sl wd (l.map f)) (.int k i) = some (.ro (f l[i]) 0) := by
  rw [c1Z _ _ _ _ _ (by omega) (by rw [List.length_map]; omega)]
  simp [h]
theorem c4X (v : List ZI) : lenV H (vecV v) = some (.int .i64 v.length) := c4G H 2 _ v
theorem c4Y (v : List ZI) (k : IntKind) (i : Nat) (h : i < v.length) : idxV H 2 (vecV v) (.int k i) = some (.ro v[i].av 0) := c1m H 2 _ v k i h
theorem c5H (v : List (List ZI)) : lenV H (matV v) = some (.int .i64 v.length) := c4G H 1 _ v
theorem c5I (v : List (List ZI)) (k : IntKind) (i : Nat) (h : i < v.length) : idxV H 1 (matV v) (.int k i) = some (.ro (vecV v[i]) 0) := c1m H 1 _ v k i h
/-- The elements of a row of the call's own, each closed. -/
theorem b9a {α : Type} (wd : Nat) (f : α → AV) (l : List α) (h : ∀ x, Cl (f x)) : ∀ a ∈ (Blk.mk wd (l.map f)).flat, Cl a := by
  intro a ha
  obtain ⟨x, hx, hc⟩ := List.mem_flatMap.1 ha
  obtain ⟨y, _, rfl⟩ := List.mem_map.1 hx
  exact a8o (h y) a hc
theorem c0G {α : Type} (i : Nat) (wd : Nat) (f : α → AV) (l : List α) (oc : Option Nat) : frz (lid H i) ⟨wd, l.map f⟩ (.mu (lid H i) 0 l.length oc) = .sl wd (l.map f) := by
  rw [b4q _ _ _ _ _ (by rw [List.length_map])]
end
structure Vok (k : Nat) (v : List ZI) : Prop where
  len : v.length ≤ 2097152
  el : ∀ x ∈ v, Zok k x
structure Mok (k : Nat) (b : List (List ZI)) : Prop where
  len : b.length ≤ 2097152
  el : ∀ v ∈ b, Vok k v
theorem Vok.mono {k m : Nat} {v : List ZI} (h : Vok k v) (hk : k ≤ m) : Vok m v := ⟨h.len, fun x hx => (h.el x hx).mono hk⟩
theorem Mok.mono {k m : Nat} {b : List (List ZI)} (h : Mok k b) (hk : k ≤ m) : Mok m b := ⟨h.len, fun x hx => (h.el x hx).mono hk⟩
theorem Vok.get {k : Nat} {v : List ZI} (h : Vok k v) {i : Nat} (hi : i < v.length) : Zok k v[i] := h.el _ (List.getElem_mem hi)
theorem Mok.get {k : Nat} {v : List (List ZI)} (h : Mok k v) {i : Nat} (hi : i < v.length) : Vok k v[i] := h.el _ (List.getElem_mem hi)
theorem b6K : (0 < 2) = True := by decide
/-- The rules for vectors. -/
def EM := And.intro b6K <| And.intro @c4X (And.intro @c5H (And.intro @b9O (And.intro @c2N (And.intro @c0W (And.intro @c2O (And.intro @c2M (And.intro @c0A (And.intro @c3x (And.intro @c1M (And.intro @c3y (And.intro @c3w
  (And.intro @ZI.av_fit (And.intro @ZI.av_cells (And.intro @ZI.av_nref (And.intro @ZI.av_frz (And.intro @c6B (And.intro @c7L (And.intro @c7D @c7K))))))))))))))))))
def zs (v : List ZI) : List Int := v.map ZI.z
def E3 := And.intro EM @E2
end Go.Abs
namespace Go.Abs
def mg (b : List (List ZI)) (i : Nat) : List ZI := b.getD i []
theorem c7f {b : List (List ZI)} {i : Nat} (h : i < b.length) : mg b i = b[i] := by simp [mg, h]
/-- The vector in the one form of these entries. -/
def vec (n : Nat) (f : Nat → Int) : List ZI := (List.range n).map fun i => canZ (f i)
def mat (n : Nat) (f : Nat → List ZI) : List (List ZI) := (List.range n).map f
theorem Mok.row {k : Nat} {b : List (List ZI)} (h : Mok k b) (i : Nat) : Vok k (mg b i) := by
  rcases Nat.lt_or_ge i b.length with hi | hi
  · rw [c7f hi]; exact h.get hi
  · simp [mg, hi]
    exact ⟨by simp, by simp⟩
section
variable {H : Heap}
/-- b5F rows. -/
def RC (L : Heap) : Prop := ∀ b, some b ∈ L → ∀ a ∈ b.flat, Cl a
theorem RC.nil : RC [] := fun b h => by cases h
theorem RC.none {L : Heap} (h : RC L) : RC (none :: L) := fun b hb a ha => by
  rcases List.mem_cons.1 hb with e | e
  · cases e
  · exact h b e a ha
theorem RC.cons {b : Blk} {L : Heap} (hb : ∀ a ∈ b.flat, Cl a) (h : RC L) : RC (some b :: L) := fun c hc a ha => by
  rcases List.mem_cons.1 hc with e | e
  · cases e; exact hb a ha
  · exact h c e a ha
theorem RC.row {α : Type} {wd : Nat} {f : α → AV} {l : List α} {L : Heap} (hf : ∀ x, Cl (f x)) (h : RC L) : RC (some ⟨wd, l.map f⟩ :: L) := .cons (b9a wd f l hf) h
theorem RC.one {wd : Nat} {x : AV} {L : Heap} (hx : Cl x) (h : RC L) : RC (some ⟨wd, [x]⟩ :: L) := .cons (fun a ha => by
  simp only [Blk.flat, List.flatMap_cons, List.flatMap_nil, List.append_nil] at ha
  exact a8o hx a ha) h
theorem RC.emp {wd : Nat} {L : Heap} (h : RC L) : RC (some ⟨wd, []⟩ :: L) := .cons (fun a ha => by cases ha) h
theorem RC.mo {l : List (Int × Int)} {L : Heap} (h : RC L) : RC (some ⟨0, [.mo l]⟩ :: L) := .cons (fun a ha => by cases ha) h
theorem RC.io {i n : Nat} {s : List Nat} {L : Heap} (h : RC L) : RC (some ⟨0, [.io i n s]⟩ :: L) := .cons (fun a ha => by cases ha) h
theorem RC.zero {L : Heap} (h : RC L) : RC (some ⟨2, [.agg [.bool false, .nil]]⟩ :: L) := .one (.agg _ (by
  intro c hc
  simp only [List.mem_cons, List.not_mem_nil, or_false] at hc
  rcases hc with rfl | rfl
  · exact .bool _
  · exact .nil)) h
theorem b9c {α : Type} (hH : a0r H) {L : Heap} (i : Nat) {n0 : Nat} (hn : n0 ≤ lid H i) {env : Env} {wd bytes : Nat} {f : α → AV} (hf : ∀ x, Cl (f x)) (l : List α) (x : α) (l' : List α) {y : AV} {len : Nat}
    (hlen : len = l.length) (hl : L[i]? = some (some ⟨wd, l.map f⟩)) (hL : RC L) (hy : y = f x) (hl' : l' = l ++ [x]) (hb : (len + 1) * bytes ≤ 140737488355328) (hbb : len + 1 ≤ 9223372036854775807) :
    appV n0 wd bytes false (.mu (lid H i) 0 len none) (.sl wd [y]) env (hap H L) = some (.mu (lid H i) 0 (len + 1) none, scrub (lid H i) env, hap H (L.set i (some ⟨wd, l'.map f⟩))) := by
  subst hy
  subst hl'
  have := b6G n0 env H L wd bytes false i len none (.sl wd [f x]) (l.map f) [f x] hH hl (by rw [List.length_map]; exact hlen) hn (a2Q _ wd _) (b6D hL) (by
    intro a ha
    simp at ha
    exact (a8o (hf x) a ha).ref) (by simpa using hb) (by simpa using hbb) rfl
  simpa [a0H] using this
theorem b8S {α : Type} (i wd : Nat) (f : α → AV) (l : List α) (len : Nat) (oc : Option Nat) (h : len = l.length) : frz (lid H i) ⟨wd, l.map f⟩ (.mu (lid H i) 0 len oc) = .sl wd (l.map f) := by
  subst h; exact c0G H i wd f l oc
section
variable {x : Cx} {todo : List AItem} {env : Env} {R : AV → Heap → Prop} {a b c d e : Option Blk}
theorem Safe.drop1 (hH : a0r H) (hx : x.n0 = H.length) (he : env.all (fun p => nref (lid H 1) p.2) = true) (hL : RC [a]) (h : Safe x todo env (hap H [a]) R) : Safe x todo env (hap H [a, b]) R := Safe.dropC (L := [a]) hH hx he hL h
end
end
end Go.Abs
namespace Go.Abs
theorem c5T (H : Heap) (i : Nat) (v : List (List ZI)) (len : Nat) (oc : Option Nat) (h : len = v.length) : frz (lid H i) ⟨1, v.map vecV⟩ (.mu (lid H i) 0 len oc) = matV v := b8S i 1 vecV v len oc h
end Go.Abs
namespace Go.Abs
/-- A text by its bytes. -/
def strU (l : List UInt8) : AV := .str ⟨l.toArray⟩
theorem a1n (l : List UInt8) : Cl (strU l) := .str _
theorem a7A (l : List UInt8) : (ByteArray.mk l.toArray).size = l.length := by simp [ByteArray.size]
theorem a2R (a b : List UInt8) : binV .eql (strU a) (strU b) = some (.bool (a == b)) := by
  unfold strU
  rw [b8a]
  simp
theorem a8v (l : List UInt8) : (strU l).cells = [strU l] := rfl
theorem c2U (l : List UInt8) : (strU l).fit = true := rfl
theorem a9L (id : Nat) (l : List UInt8) : nref id (strU l) = true := a1J (a1n l)
theorem c2V (l : List UInt8) : clb (strU l) = true := b2F (a1n l)
theorem c2T (id : Nat) (b : Blk) (l : List UInt8) : frz id b (strU l) = strU l := b4r (a1n l)
def ES := And.intro @a8v (And.intro @c2U (And.intro @a9L (And.intro @c2V @c2T)))
def tx (n : Nat) (g : Nat → List UInt8) : List (List UInt8) := (List.range n).map g
end Go.Abs
namespace Go.Abs
def fl (n : Nat) (f : Nat → Nat) : List Nat := (List.range n).map f
end Go.Abs
namespace Go.Abs
open Go.Proofs
noncomputable abbrev Pr : Program := Tryd.prog
abbrev a7g : FuncId := 3
abbrev a4k : FuncId := 5
abbrev a3r : FuncId := 6
abbrev a4T : FuncId := 7
abbrev a5I : FuncId := 8
abbrev a3E : FuncId := 9
abbrev a2w : FuncId := 10
abbrev a6Z : FuncId := 11
abbrev a1R : FuncId := 16
abbrev a1B : FuncId := 17
abbrev a0Q : FuncId := 18
abbrev a2v : FuncId := 19
abbrev a0D : FuncId := 20
abbrev a1S : FuncId := 21
abbrev a5H : FuncId := 22
abbrev a0t : FuncId := 23
abbrev b1x : FuncId := 24
abbrev a1o : FuncId := 34
abbrev a1a : FuncId := 35
abbrev a7i : FuncId := 36
abbrev a6X : FuncId := 37
abbrev a6n : FuncId := 38
abbrev a5G : FuncId := 39
abbrev a4V : FuncId := 40
abbrev a2u : FuncId := 42
abbrev a1A : FuncId := 43
abbrev a5h : FuncId := 44
abbrev a4j : FuncId := 45
abbrev a0Z : FuncId := 53
abbrev b1w : FuncId := 58
abbrev a8s : FuncId := 59
abbrev a4S : FuncId := 60
abbrev a6p : FuncId := 61
abbrev a6o : FuncId := 62
abbrev a8r : FuncId := 63
abbrev a2h : FuncId := 64
abbrev a8t : FuncId := 65
abbrev a0N : FuncId := 76
abbrev a2D : FuncId := 77
abbrev a6Y : FuncId := 78
abbrev a2C : FuncId := 79
abbrev a0W : FuncId := 80
abbrev a0X : FuncId := 89
abbrev a0A : FuncId := 90
abbrev a1q : FuncId := 91
abbrev a8u : FuncId := 92
abbrev a5i : FuncId := 93
end Go.Abs

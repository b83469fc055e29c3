/- Part 3 of the proof of MatBack: A14, A15, A16, A17, A18, A19, A22, A23, A25, A26, M1, D1, D2, D3, D4, D5, D6, D7, D10, Num. -/
import Derived.Test.YtkehcnbnmjmpbaaDoorMatBackK2
import Derived.Below
import Derived.Lib.Join
import Derived.Test.YtkehcnbnmjmpbaaDoorProg
set_option linter.unusedVariables false
set_option linter.unusedSimpArgs false
set_option linter.defProp false
namespace Go.Abs
section
variable (P : Program) (n0 : Nat) (K : Env → Heap → Prop) (env : Env) (H : Heap)
theorem c4A : dops P n0 [] K env H = K env H := rfl
theorem c2x (d : Option Nat) (o : AOp) (l : List AIns) : dops P n0 (⟨d, none, o⟩ :: l) K env H = a7k P n0 o d (dops P n0 l K) env H := rfl
theorem c2w (d : Option Nat) (t : Nat) (want : Bool) (o : AOp) (l : List AIns) :
    dops P n0 (⟨d, some (t, want), o⟩ :: l) K env H = a7r want (look env t) fun c => if c = want then a7k P n0 o d (dops P n0 l K) env H else dops P n0 l K (put d (.tup []) env) H := rfl
theorem c6U (o : POp) (d : Option Nat) : a7k P n0 (.p o) d K env H = b1X (pv o env H) fun v => K (put d v env) H := rfl
theorem c6V (o : EOp) (d : Option Nat) : a7k P n0 (.e o) d K env H = b1f (ev n0 o env H) fun v env' H' => K (put d v env') H' := rfl
/-- A call in a drawn region. -/
def dcall (P : Program) (f : FuncId) (args : List AV) (H : Heap) (K : AV → Prop) : Prop := ∃ r, (∀ L, a0i P f args (H ++ L) fun r' H' => r' = r ∧ H' = H ++ L) ∧ K r
def dres (K : Env → Heap → Prop) (d : Option Nat) (env : Env) (H : Heap) : AV → Prop := fun r => K (put d r env) H
theorem c6X (d : Option Nat) (r : AV) : dres K d env H r = K (put d r env) H := rfl
theorem c0C (f : FuncId) (args : List Src) (d : Option Nat) : a7k P n0 (.call f args) d K env H = dcall P f (args.map (·.ev env)) H (dres K d env H) := rfl
def b6K (P : Program) (g : AV) (args : List AV) (H : Heap) (K : AV → Prop) : Prop := match g with
  | .fn f caps => dcall P f (args ++ caps) H K
  | _ => False
theorem b8n (g : Src) (args : List Src) (d : Option Nat) : a7k P n0 (.callv g args) d K env H = b6K P (g.ev env) (args.map (·.ev env)) H (dres K d env H) := by
  simp only [a7k, b6K]; split <;> simp_all [dcall, dres]
theorem c2C (f : FuncId) (caps args : List AV) (K : AV → Prop) : b6K P (.fn f caps) args H K = dcall P f (args ++ caps) H K := rfl
end
/-- A call in a drawn region that hands out rows of its own. -/
def dgcall (P : Program) (f : FuncId) (args : List AV) (H : Heap) (K : AV → Heap → Prop) : Prop := ∃ r L, (a0i P f args H fun r' H' => r' = r ∧ H' = H ++ L) ∧ K r (H ++ L)
def c2z (P : Program) (g : AV) (args : List AV) (H : Heap) (K : AV → Heap → Prop) : Prop := match g with
  | .fn f caps => dgcall P f (args ++ caps) H K
  | _ => False
@[congr] theorem c5q {P : Program} {f : FuncId} {aXs as' : List AV} {H H' : Heap} {K : AV → Heap → Prop} (h : aXs = as') (h' : H = H') : dgcall P f aXs H K = dgcall P f as' H' K := by rw [h, h']
@[congr] theorem c4E {P : Program} {g g' : AV} {aXs as' : List AV} {H H' : Heap} {K : AV → Heap → Prop} (h : g = g') (h2 : aXs = as') (h' : H = H') : c2z P g aXs H K = c2z P g' as' H' K := by rw [h, h2, h']
@[congr] theorem c7y {P : Program} {n0 : Nat} {l : List AIns} {K : Env → Heap → Prop} {env env' : Env} {H H' : Heap} (h : env = env') (h' : H = H') : dops P n0 l K env H = dops P n0 l K env' H' := by rw [h, h']
@[congr] theorem c6W {P : Program} {n0 : Nat} {o : AOp} {d : Option Nat} {K : Env → Heap → Prop} {env env' : Env} {H H' : Heap} (h : env = env') (h' : H = H') : a7k P n0 o d K env H = a7k P n0 o d K env' H' := by rw [h, h']
@[congr] theorem c6Z {P : Program} {f : FuncId} {aXs as' : List AV} {H H' : Heap} {K : AV → Prop} (h : aXs = as') (h' : H = H') : dcall P f aXs H K = dcall P f as' H' K := by rw [h, h']
@[congr] theorem c5r {P : Program} {g g' : AV} {aXs as' : List AV} {H H' : Heap} {K : AV → Prop} (h : g = g') (h2 : aXs = as') (h' : H = H') : b6K P g aXs H K = b6K P g' as' H' K := by rw [h, h2, h']
theorem a0c.acall {P : Program} {f : FuncId} {args : List AV} {H : Heap} {r : AV} {R : AV → Heap → Prop} (h : a0c P f args r) (k : R r H) : a0i P f args H R :=
  (h H).mono fun r' H' ⟨h1, h2⟩ => by subst h1; subst h2; exact k
theorem a0c.dcall {P : Program} {f : FuncId} {args : List AV} {H : Heap} {r : AV} {K : AV → Prop} (h : a0c P f args r) (k : K r) : dcall P f args H K := ⟨r, fun L => h (H ++ L), k⟩
theorem a0c.dgcall {P : Program} {f : FuncId} {args : List AV} {H : Heap} {r : AV} {K : AV → Heap → Prop} (h : a0c P f args r) (k : K r H) : dgcall P f args H K := ⟨r, [], by simpa using h H, by simpa using k⟩
theorem b0O {a : AV} (h : Cl a) : clb a = true := b8q.2 h
theorem a0V {id : Nat} {a : AV} (h : Cl a) : nref id a = true := a0d.2 h.ref
theorem c7d (k : IntKind) (n : Int) : clb (.int k n) = true := b0O (.int k n)
theorem c4I (b : Bool) : clb (.bool b) = true := b0O (.bool b)
theorem c7b (s : ByteArray) : clb (.str s) = true := b0O (.str s)
theorem c7c : clb .nil = true := b0O .nil
theorem c3K (id : Nat) : nref id .top = true := a0V .top
theorem b8M (id : Nat) (k : IntKind) (n : Int) : nref id (.int k n) = true := a0V (.int k n)
theorem c1z (id : Nat) (b : Bool) : nref id (.bool b) = true := a0V (.bool b)
theorem c3L (id : Nat) (s : ByteArray) : nref id (.str s) = true := a0V (.str s)
theorem c3M (id : Nat) : nref id .nil = true := a0V .nil
theorem c3O (id : Nat) (v : Value) : nref id (.lit v) = true := a0V (.lit v)
theorem c6g (id wd : Nat) (xs : List AV) : nref id (.sl wd xs) = true := a0d.2 (.sl wd xs)
theorem c6h (id off : Nat) (x : AV) : nref id (.ro x off) = true := a0d.2 (.ro x off)
theorem c3P (id : Nat) (cs : List AV) : nref id (.agg cs) = cs.all (nref id) := by
  rw [Bool.eq_iff_iff, a0d, List.all_eq_true]
  constructor
  · intro h c hc; cases h with | agg _ h => exact a0d.2 (h c hc)
  · intro h; exact .agg _ fun c hc => a0d.1 (h c hc)
theorem c3J (id : Nat) (cs : List AV) : nref id (.tup cs) = cs.all (nref id) := by
  rw [Bool.eq_iff_iff, a0d, List.all_eq_true]
  constructor
  · intro h c hc; cases h with | tup _ h => exact a0d.2 (h c hc)
  · intro h; exact .tup _ fun c hc => a0d.1 (h c hc)
theorem c6j (id : Nat) (f : FuncId) (cs : List AV) : nref id (.fn f cs) = cs.all (nref id) := by
  rw [Bool.eq_iff_iff, a0d, List.all_eq_true]
  constructor
  · intro h c hc; cases h with | fn _ _ h => exact a0d.2 (h c hc)
  · intro h; exact .fn _ _ fun c hc => a0d.1 (h c hc)
theorem c6i (H : Heap) (i j off len : Nat) (oc : Option Nat) : nref (lid H i) (.mu (lid H j) off len oc) = decide (j ≠ i) := by
  rw [Bool.eq_iff_iff, a0d, decide_eq_true_eq]
  constructor
  · intro h; cases h with | mu _ _ _ _ h => intro e; exact h (by rw [e])
  · intro h; exact .mu _ _ _ _ (by simp only [lid]; omega)
theorem c3N (H : Heap) (i j k off : Nat) : nref (lid H i) (.loc (lid H j) k off) = decide (j ≠ i) := by
  rw [Bool.eq_iff_iff, a0d, decide_eq_true_eq]
  constructor
  · intro h; cases h with | loc _ _ _ h => intro e; exact h (by rw [e])
  · intro h; exact .loc _ _ _ (by simp only [lid]; omega)
theorem c1k (id : Nat) : scrub id [] = [] := rfl
theorem b9L (id t : Nat) (a : AV) (env : Env) : scrub id ((t, a) :: env) = (t, if nref id a then a else .top) :: scrub id env := rfl
theorem c6E (id : Nat) (b : Blk) (k : IntKind) (n : Int) : frz id b (.int k n) = .int k n := by simp only [frz]
theorem c4n (id : Nat) (b : Blk) (c : Bool) : frz id b (.bool c) = .bool c := by simp only [frz]
theorem c6A (id : Nat) (b : Blk) (s : ByteArray) : frz id b (.str s) = .str s := by simp only [frz]
theorem c6B (id : Nat) (b : Blk) : frz id b .nil = .nil := by simp only [frz]
theorem c6z (id : Nat) (b : Blk) : frz id b .top = .top := by simp only [frz]
theorem c6D (id : Nat) (b : Blk) (v : Value) : frz id b (.lit v) = .lit v := by simp only [frz]
theorem c7W (id : Nat) (b : Blk) (wd : Nat) (xs : List AV) : frz id b (.sl wd xs) = .sl wd xs := by simp only [frz]
theorem c7X (id : Nat) (b : Blk) (x : AV) (off : Nat) : frz id b (.ro x off) = .ro x off := by simp only [frz]
theorem c6F (id : Nat) (b : Blk) (cs : List AV) : frz id b (.agg cs) = .agg (cs.map (frz id b)) := by simp only [frz]
theorem c6y (id : Nat) (b : Blk) (cs : List AV) : frz id b (.tup cs) = .tup (cs.map (frz id b)) := by simp only [frz]
theorem c7Y (id : Nat) (b : Blk) (f : FuncId) (cs : List AV) : frz id b (.fn f cs) = .fn f (cs.map (frz id b)) := by simp only [frz]
theorem b3t (H : Heap) (i : Nat) (b : Blk) (len : Nat) (oc : Option Nat) (h : len = b.xs.length) : frz (lid H i) b (.mu (lid H i) 0 len oc) = .sl b.wd b.xs := by
  simp [frz, h]
theorem b6F (H : Heap) (i j : Nat) (b : Blk) (off len : Nat) (oc : Option Nat) (h : j ≠ i) : frz (lid H i) b (.mu (lid H j) off len oc) = .mu (lid H j) off len oc := by
  have : lid H j ≠ lid H i := by simp only [lid]; omega
  simp [frz, this]
theorem a8B (H : Heap) (i j : Nat) (b : Blk) (k off : Nat) (h : j ≠ i) : frz (lid H i) b (.loc (lid H j) k off) = .loc (lid H j) k off := by
  have : lid H j ≠ lid H i := by simp only [lid]; omega
  simp [frz, this]
section
variable (n0 : Nat) (env : Env) (H L : Heap)
def a8p (n : Nat) (p v : AV) (env : Env) (H : Heap) : Option (AV × Env × Heap) := match p with
  | .loc id i off => (hrow H id).bind fun b =>
        if i < b.xs.length ∧ v.fit = true ∧ v.cells.length = n ∧ off + n ≤ b.wd then some (.top, env, H.set id (some ⟨b.wd, b.xs.set i (upd (b.xs.getD i .top) b.wd off n v)⟩)) else none
  | _ => none
theorem c4w (n : Nat) (a v : Src) : ev n0 (.store n a v) env H = a8p n (a.ev env) (v.ev env) env H := by simp only [ev, a8p]; split <;> simp_all
theorem a6Z (n i k off : Nat) (v : AV) {b : Blk} (hl : L[i]? = some (some b)) (hk : k < b.xs.length) (hf : v.fit = true) (hn : v.cells.length = n) (ho : off + n ≤ b.wd) :
    a8p n (.loc (lid H i) k off) v env (hap H L) = some (.top, env, hap H (L.set i (some ⟨b.wd, b.xs.set k (upd (b.xs.getD k .top) b.wd off n v)⟩))) := by
  simp only [a8p, a1y, hl, Option.join_some, Option.bind_some, a4R]
  rw [if_pos ⟨hk, hf, hn, ho⟩]
theorem c8g (n : Nat) (v : Src) : ev n0 (.box n v) env H = if (v.ev env).fit = true ∧ (v.ev env).cells.length = n ∧ 0 < n then some (.loc H.length 0 0, env, H ++ [some ⟨n, [v.ev env]⟩]) else none := rfl
theorem c8f (wd : Nat) (ps : List Src) : ev n0 (.bsl wd ps) env H = if 0 < wd ∧ ps.all (fun s => (s.ev env).fit && decide ((s.ev env).cells.length = wd) && (s.ev env).cells.all clb) then some (.sl wd (ps.map (·.ev env)), env, H) else none := rfl
theorem c6N (wd : Nat) (ps : List Src) : ev n0 (.bslm wd ps) env H = if 0 < wd ∧ ps.all (fun s => (s.ev env).fit && decide ((s.ev env).cells.length = wd)) then
      some (.mu H.length 0 ps.length (some ps.length), env, H ++ [some ⟨wd, ps.map (·.ev env)⟩]) else none := rfl
def c0i (wd bytes : Nat) (z l c : AV) (env : Env) (H : Heap) : Option (AV × Env × Heap) := match l, c with
    | .int _ l, .int _ c => if 0 < wd ∧ 0 ≤ l ∧ l ≤ c ∧ (bytes : Int) * c ≤ 281474976710656 ∧ c ≤ 9223372036854775807 then
        some (.mu H.length 0 l.toNat (some c.toNat), env, H ++ [some ⟨wd, List.replicate l.toNat z⟩]) else none
    | _, _ => none
theorem c6M (wd bytes : Nat) (z : AV) (l c : Src) : ev n0 (.mksl wd bytes z l c) env H = c0i wd bytes z (l.ev env) (c.ev env) env H := by simp only [ev, c0i]; split <;> simp_all
theorem a8q (wd bytes : Nat) (z : AV) (k k' : IntKind) (l c : Nat) (h0 : 0 < wd) (h1 : l ≤ c) (h2 : bytes * c ≤ 281474976710656) (h3 : c ≤ 9223372036854775807) :
    c0i wd bytes z (.int k l) (.int k' c) env (hap H L) = some (.mu (lid H L.length) 0 l (some c), env, hap H (L ++ [some ⟨wd, List.replicate l z⟩])) := by
  simp only [c0i, b7U, b8x, Int.toNat_natCast]
  rw [if_pos ⟨h0, by omega, by omega, by rw [← Int.natCast_mul]; omega, by omega⟩]
noncomputable def appV (n0 wd bytes : Nat) (str : Bool) (x y : AV) (env : Env) (H : Heap) : Option (AV × Env × Heap) := (a0t H wd str y).bind fun ys =>
      match x with
      | .nil => if 0 < wd ∧ ys.length * bytes ≤ 140737488355328 ∧ ys.length ≤ 9223372036854775807 then some (.mu H.length 0 ys.length none, env, H ++ [some ⟨wd, ys⟩]) else none
      | .mu id off len oc => (hrow H id).bind fun r =>
          if r.wd = wd ∧ off = 0 ∧ len ≤ r.xs.length ∧ n0 ≤ id ∧ 0 < ys.length ∧ (oc.any fun c => decide (len + ys.length ≤ c)) = true then
            some (.mu id 0 (len + ys.length) oc, env, H.set id (some ⟨wd, r.xs.take len ++ ys⟩)) else
          if r.wd = wd ∧ off = 0 ∧ len ≤ r.xs.length ∧ n0 ≤ id ∧ free H id = true ∧ (ys.flatMap AV.cells).all (nref id) = true ∧ (r.xs.flatMap AV.cells).all (nref id) = true ∧
              (len + ys.length) * bytes ≤ 140737488355328 ∧ len + ys.length ≤ 9223372036854775807 then
            some (.mu id 0 (len + ys.length) (a0G oc (len + ys.length)), scrub id env, H.set id (some ⟨wd, r.xs.take len ++ ys⟩)) else
          if r.wd = wd ∧ off + len ≤ r.xs.length ∧ 0 < ys.length ∧ (oc.any fun c => decide (c < len + ys.length)) = true ∧ (len + ys.length) * bytes ≤ 140737488355328 ∧ len + ys.length ≤ 9223372036854775807 then
            some (.mu H.length 0 (len + ys.length) none, env, H ++ [some ⟨wd, (r.xs.drop off).take len ++ ys⟩]) else
          if r.wd = wd ∧ off = 0 ∧ len ≤ r.xs.length ∧ n0 ≤ id ∧ (ys.flatMap AV.cells).all (nref id) = true ∧ r.xs.all (nref id) = true ∧ (len + ys.length) * bytes ≤ 140737488355328 ∧ len + ys.length ≤ 9223372036854775807 then
            some (.mu id 0 (len + ys.length) (a0G oc (len + ys.length)), scrub id env, (a0K id H).set id (some ⟨wd, r.xs.take len ++ ys⟩)) else none
      | _ => none
theorem c8h (wd bytes : Nat) (str : Bool) (a b : Src) : ev n0 (.app wd bytes str a b) env H = appV n0 wd bytes str (a.ev env) (b.ev env) env H := by
  simp only [ev, appV]; cases a0t H wd str (b.ev env) <;> simp only [Option.bind_none, Option.bind_some]; split <;> simp_all
theorem b9o (wd bytes : Nat) (str : Bool) (y : AV) (ys : List AV) (hy : a0t (hap H L) wd str y = some ys) (h0 : 0 < wd) (h1 : ys.length * bytes ≤ 140737488355328) (h2 : ys.length ≤ 9223372036854775807) :
    appV n0 wd bytes str .nil y env (hap H L) = some (.mu (lid H L.length) 0 ys.length none, env, hap H (L ++ [some ⟨wd, ys⟩])) := by
  simp only [appV, hy, Option.bind_some, b7U, b8x]
  rw [if_pos ⟨h0, h1, h2⟩]
/-- No row of these names the i-th. -/
def c7v (H : Heap) (L : Heap) (i : Nat) : Prop := ∀ (j : Nat) b, L[j]? = some (some b) → ∀ a ∈ b.flat, Ref (· ≠ lid H i) a
theorem b9m {H L : Heap} {i : Nat} (h : ∀ b, some b ∈ L → ∀ a ∈ b.flat, Cl a) : c7v H L i := fun j b hb a ha => (h b (List.mem_of_getElem? hb) a ha).ref
theorem c4r {H L : Heap} {i : Nat} (hH : a0N H) (h : c7v H L i) : free (hap H L) (lid H i) = true := by
  rw [b5p]
  intro j bj hj hb a ha
  rcases Nat.lt_or_ge j H.length with hlt | hge
  · simp only [hap] at hb
    rw [List.getElem?_append_left hlt] at hb
    exact (hH j bj hb a ha).mono fun k hk => by show k ≠ lid H i; simp only [lid]; omega
  · simp only [hap] at hb
    rw [List.getElem?_append_right hge] at hb
    exact h _ bj hb a ha
theorem b9n (wd bytes : Nat) (str : Bool) (i len : Nat) (oc : Option Nat) (y : AV) (xs ys : List AV) (hH : a0N H) (hl : L[i]? = some (some ⟨wd, xs⟩)) (hlen : len = xs.length) (hn : n0 ≤ lid H i) (hy : a0t (hap H L) wd str y = some ys) (ha : c7v H L i)
    (hys : ∀ a ∈ ys.flatMap AV.cells, Ref (· ≠ lid H i) a) (h1 : (len + ys.length) * bytes ≤ 140737488355328) (h2 : len + ys.length ≤ 9223372036854775807) (hoc : (oc.any fun c => decide (len + ys.length ≤ c)) = false) :
    appV n0 wd bytes str (.mu (lid H i) 0 len oc) y env (hap H L) = some (.mu (lid H i) 0 (len + ys.length) (a0G oc (len + ys.length)), scrub (lid H i) env, hap H (L.set i (some ⟨wd, xs ++ ys⟩))) := by
  subst hlen
  simp only [appV, hy, Option.bind_some, a1y, hl, Option.join_some, a4R]
  rw [if_neg (fun h => by rw [hoc] at h; exact absurd h.2.2.2.2.2 (by decide)), if_pos]
  · simp
  · refine ⟨trivial, trivial, Nat.le_refl _, hn, c4r hH ha, ?_, ?_, h1, h2⟩
    · rw [List.all_eq_true]; intro a h; exact a0d.2 (hys a h)
    · rw [List.all_eq_true]; intro a h; exact a0d.2 (ha i _ hl a h)
/-- Where there is room, what else names the row stays. -/
theorem c2X (wd bytes : Nat) (str : Bool) (i len c : Nat) (y : AV) (xs ys : List AV) (hl : L[i]? = some (some ⟨wd, xs⟩)) (hlen : len = xs.length) (hn : n0 ≤ lid H i) (hy : a0t (hap H L) wd str y = some ys) (h0 : 0 < ys.length) (hc : len + ys.length ≤ c) :
    appV n0 wd bytes str (.mu (lid H i) 0 len (some c)) y env (hap H L) = some (.mu (lid H i) 0 (len + ys.length) (some c), env, hap H (L.set i (some ⟨wd, xs ++ ys⟩))) := by
  subst hlen
  simp only [appV, hy, Option.bind_some, a1y, hl, Option.join_some, a4R]
  rw [if_pos]
  · simp
  · exact ⟨trivial, trivial, Nat.le_refl _, hn, h0, by simpa using hc⟩
theorem a4o (wd : Nat) (xs : List AV) : a0t H wd false (.sl wd xs) = some xs := by simp [a0t]
end
theorem c6K (k : IntKind) (n : Int) : (AV.int k n).fit = true := rfl
theorem c4u (b : Bool) : (AV.bool b).fit = true := rfl
theorem c6H (s : ByteArray) : (AV.str s).fit = true := rfl
theorem c6L (cs : List AV) : (AV.agg cs).fit = true := rfl
theorem c7Z (wd : Nat) (xs : List AV) : (AV.sl wd xs).fit = true := rfl
theorem c6I : AV.nil.fit = true := rfl
theorem c8b (id off len : Nat) (oc : Option Nat) : (AV.mu id off len oc).fit = true := rfl
theorem c6J (id i off : Nat) : (AV.loc id i off).fit = true := rfl
theorem c8c (f : FuncId) (cs : List AV) : (AV.fn f cs).fit = true := rfl
theorem c8a (x : AV) (off : Nat) : (AV.ro x off).fit = true := rfl
theorem a8m (x : AV) (wd : Nat) (v : AV) : upd x wd 0 wd v = v := by simp [upd]
theorem c3A (env : Env) (H : Heap) : resL env H [] = some [] := rfl
theorem c3z (env : Env) (H : Heap) (t : Nat) (r : List ResV) : resL env H (.tmp t :: r) = (resL env H r).map (look env t :: ·) := rfl
theorem c1q (env : Env) (H : Heap) (t : Nat) (n : Option Nat) (r : List ResV) : resL env H (.cell t n :: r) = (b3h H n (look env t)).bind fun a => (resL env H r).map (a :: ·) := rfl
theorem c1x (a : AV) : b0Y [a] = a := rfl
theorem c1w (a b : AV) (r : List AV) : b0Y (a :: b :: r) = .tup (a :: b :: r) := rfl
theorem c1y : b0Y [] = .tup [] := rfl
/-- What a call answers with. -/
def gret (o : Option (List AV)) (k : AV → Prop) : Prop := match o with
  | some aXs => k (b0Y aXs)
  | none => False
theorem c2l (aXs : List AV) (k : AV → Prop) : gret (some aXs) k = k (b0Y aXs) := rfl
@[congr] theorem c7x {x y : Option (List AV)} {k : AV → Prop} (h : x = y) : gret x k = gret y k := by rw [h]
theorem Safe.retn {x : Cx} {todo : List AItem} {env : Env} {H : Heap} {R : AV → Heap → Prop} (h : gret (resL env H x.rs) fun r => R r H) : Safe x (.code .ret :: todo) env H R := by
  unfold gret at h
  split at h
  · rename_i aXs ha; exact Safe.ret ha h
  · exact h.elim
theorem Safe.donen {x : Cx} {env : Env} {H : Heap} {R : AV → Heap → Prop} (h : gret (resL env H x.rs) fun r => R r H) : Safe x [] env H R := by
  unfold gret at h
  split at h
  · rename_i aXs ha; exact Safe.done ha h
  · exact h.elim
theorem b5L : (0 < 1) = True := by decide
/-- The evaluator. -/
def EV := And.intro (And.intro (And.intro (@b8g) (@b6E)) (And.intro (@c7r) (@c6X))) <| And.intro (And.intro (And.intro (And.intro (And.intro (And.intro (And.intro (@c5d) (@c2Z)) (And.intro (@c2Y) (And.intro (@c7o) (@c7p)))) (And.intro (And.intro (@c0J) (@b8v)) (And.intro (@c2M) (And.intro (@c4A) (@c2x))))) (And.intro (And.intro (And.intro (@c2w) (@c6U)) (And.intro (@c6V) (And.intro (@c0C) (@b8n)))) (And.intro (And.intro (@c2C) (@b9T)) (And.intro (@b9U) (And.intro (@c0A) (@c0B)))))) (And.intro (And.intro (And.intro (And.intro (@c0w) (@c8q)) (And.intro (@c8r) (And.intro (@c1T) (@c4d)))) (And.intro (And.intro (@c3D) (@c3E)) (And.intro (@c2v) (And.intro (@c0z) (@c8t))))) (And.intro (And.intro (And.intro (@c5V) (@b9R)) (And.intro (@c1u) (And.intro (@c3F) (@c7H)))) (And.intro (And.intro (@c5Y) (@b8R)) (And.intro (@c7K) (And.intro (@c7L) (@c8k))))))) (And.intro (And.intro (And.intro (And.intro (And.intro (@c8j) (@c8s)) (And.intro (@c5D) (And.intro (@c5C) (@c6c)))) (And.intro (And.intro (@c2D) (@c7I)) (And.intro (@c4v) (And.intro (@c6b) (@c6G))))) (And.intro (And.intro (And.intro (@c4s) (@c6a)) (And.intro (@c5Z) (And.intro (@b8U) (@c5X)))) (And.intro (And.intro (@c7F) (@c5U)) (And.intro (@c7J) (And.intro (@c5W) (@c7G)))))) (And.intro (And.intro (And.intro (And.intro (@c3Y) (@c7M)) (And.intro (@c5c) (And.intro (@b7V) (@c4e)))) (And.intro (And.intro (@c6p) (@c4T)) (And.intro (@c4S) (And.intro (@b9k) (@c4R))))) (And.intro (And.intro (And.intro (@c4V) (@c7l)) (And.intro (@c5b) (And.intro (@c4Q) (@c5a)))) (And.intro (And.intro (@c4U) (And.intro (@c4W) (@c4X))) (And.intro (@c4Y) (And.intro (@c4Z) (@b6R)))))))) (And.intro (And.intro (And.intro (And.intro (And.intro (And.intro (@c2Q) (@c1U)) (And.intro (@c8n) (And.intro (@c2V) (@c2K)))) (And.intro (And.intro (@c2J) (@c0E)) (And.intro (@c2G) (And.intro (@c2H) (@c2I))))) (And.intro (And.intro (And.intro (@c4K) (@b9d)) (And.intro (@b6L) (And.intro (@c4L) (@a1y)))) (And.intro (And.intro (@b7U) (@a4R)) (And.intro (@b8x) (And.intro (@c7U) (@c0I)))))) (And.intro (And.intro (And.intro (And.intro (@join_some) (@c4f)) (And.intro (@c1Y) (And.intro (@c4w) (@c8g)))) (And.intro (And.intro (@c8f) (@c6N)) (And.intro (@c6M) (And.intro (@c8h) (@c6K))))) (And.intro (And.intro (And.intro (@c4u) (@c6H)) (And.intro (@c6L) (And.intro (@c7Z) (@c6I)))) (And.intro (And.intro (@c8b) (@c6J)) (And.intro (@c8c) (And.intro (@c8a) (@c7d))))))) (And.intro (And.intro (And.intro (And.intro (And.intro (@c4I) (@c7b)) (And.intro (@c7c) (And.intro (@c3K) (@b8M)))) (And.intro (And.intro (@c1z) (@c3L)) (And.intro (@c3M) (And.intro (@c3O) (@c6g))))) (And.intro (And.intro (And.intro (@c6h) (@c3P)) (And.intro (@c3J) (And.intro (@c6j) (@c6i)))) (And.intro (And.intro (@c3N) (@c1k)) (And.intro (@b9L) (And.intro (@c6E) (@c4n)))))) (And.intro (And.intro (And.intro (And.intro (@c6A) (@c6B)) (And.intro (@c6z) (And.intro (@c6D) (@c7W)))) (And.intro (And.intro (@c7X) (@c6F)) (And.intro (@c6y) (And.intro (@c7Y) (@c4q))))) (And.intro (And.intro (And.intro (@c2q) (@c4o)) (And.intro (@c2p) (And.intro (@c2o) (@a8m)))) (And.intro (And.intro (@c3A) (And.intro (@c3z) (@c1q))) (And.intro (@c1x) (And.intro (@c1w) (And.intro @c1y (And.intro @c2l @b5L)))))))))
def EVC := And.intro (And.intro (And.intro (And.intro (And.intro (@List.map_cons.{0,0}) (@List.map_nil.{0,0})) (And.intro (@List.length_cons.{0}) (And.intro (@List.length_nil.{0}) (@List.cons_append.{0})))) (And.intro (And.intro (@List.nil_append.{0}) (@List.all_cons.{0})) (And.intro (@List.all_nil.{0}) (And.intro (@Option.map_some.{0,0}) (@Option.map_none.{0,0}))))) (And.intro (And.intro (And.intro (@Option.bind_some.{0,0}) (@Option.bind_none.{0,0})) (And.intro (@Option.isSome_some.{0}) (And.intro (@List.getElem?_cons_zero.{0}) (@List.getElem?_cons_succ.{0})))) (And.intro (And.intro (@List.set_cons_zero.{0}) (@List.set_cons_succ.{0})) (And.intro (@Option.join_some.{0}) (And.intro (@List.getD_cons_zero.{0}) (@List.drop_zero.{0})))))) (And.intro (And.intro (And.intro (And.intro (And.intro (@if_true.{0}) (@if_true.{1})) (And.intro (@if_false.{0}) (@if_false.{1}))) (And.intro (@Bool.false_eq_true) (And.intro (@Bool.true_and) (@Bool.and_true)))) (And.intro (And.intro (@Bool.not_true) (@Bool.not_false)) (And.intro (@decide_true) (And.intro (@decide_false) (@Bool.and_self))))) (And.intro (And.intro (And.intro (@ne_eq.{1}) (@not_true_eq_false)) (And.intro (@not_false_eq_true) (And.intro (@and_self) (@and_true)))) (And.intro (And.intro (@true_and) (@Nat.zero_add)) (And.intro (@Nat.add_zero) (And.intro (@Option.some.injEq.{0}) (@Nat.lt_add_one))))))
end Go.Abs
namespace Go.Abs
/-- Whatever is the one is the other. -/
def Le (a b : AV) : Prop := ∀ E v, Rep E v a → Rep E v b
theorem Le.refl (a : AV) : Le a a := fun _ _ h => h
theorem Le.trans {a b c : AV} (h : Le a b) (k : Le b c) : Le a c := fun E v r => k E v (h E v r)
theorem Le.nil (wd : Nat) (h : 0 < wd) : Le .nil (.sl wd []) := fun E v r => a8O wd h r
theorem Le.top (a : AV) : Le a .top := fun E v r => .top v
theorem Le.agg {aXs bs : List AV} (hl : aXs.length = bs.length) (h : ∀ (k : Nat) a b, aXs[k]? = some a → bs[k]? = some b → Le a b) : Le (.agg aXs) (.agg bs) := by
  intro E v r
  cases r with
  | agg vs _ hlen h1 hrep =>
    refine .agg vs bs (by omega) h1 fun k v b hv hb => ?_
    have hk := a0a hb
    exact h k _ b (List.getElem?_eq_getElem (by omega)) hb E v (hrep k v _ hv (List.getElem?_eq_getElem (by omega)))
  | dead v a id hr hd h1 => simp [AV.ref] at hr
theorem Le.tup {aXs bs : List AV} (hl : aXs.length = bs.length) (h : ∀ (k : Nat) a b, aXs[k]? = some a → bs[k]? = some b → Le a b) : Le (.tup aXs) (.tup bs) := by
  intro E v r
  cases r with
  | tup vs _ hlen hrep =>
    refine .tup vs bs (by omega) fun k v b hv hb => ?_
    have hk := a0a hb
    exact h k _ b (List.getElem?_eq_getElem (by omega)) hb E v (hrep k v _ hv (List.getElem?_eq_getElem (by omega)))
  | dead v a id hr hd h1 => simp [AV.ref] at hr
theorem Le.agg2 {a b c d : AV} (h : Le a c) (k : Le b d) : Le (.agg [a, b]) (.agg [c, d]) := Le.agg rfl fun i x y hx hy => by
  match i with
  | 0 => cases hx; cases hy; exact h
  | 1 => cases hx; cases hy; exact k
theorem a0i.cutL {P : Program} {f : FuncId} {args : List AV} {H : Heap} {r : AV} (hr : Ref (· < H.length) r) (h : a0i P f args H fun r' H' => Le r' r ∧ ∃ L, H' = hap H L) : a0i P f args H fun r' H' => r' = r ∧ H' = H := by
  refine ⟨h.1, fun φ w vs hok hl hrep => (h.2 φ w vs hok hl hrep).mono ?_⟩
  rintro e w' ⟨v, r', φ', H', rfl, ⟨hle, L, rfl⟩, q1, q2, q3, q4⟩
  have hfree : ∀ (j : Nat) bj, j < H.length → (hap H L)[j]? = some (some bj) → ∀ a ∈ bj.flat, Ref (· < H.length) a := by
    intro j bj hj hb
    simp only [hap] at hb
    rw [List.getElem?_append_left hj] at hb
    exact hok.refs hb
  have hcut := HOk.cut q1 H.length hfree
  have ht : (hap H L).take H.length = H := by simp [hap]
  simp only [ht] at hcut
  exact ⟨v, r, φ', H, rfl, ⟨rfl, rfl⟩, hcut.1, (hle _ _ q2).mono hcut.2 hr, Nat.le_refl _, q4.trans hcut.2⟩
theorem a0c.introL {P : Program} {mu : Nat → Nat → Bool} {f : FuncId} {fn : Func} (hf : P.funcs[f]? = some fn) {ac : ACode} {rs : List ResV} {nt : Nat} (hc : fchk P mu fn = some (ac, rs, nt))
    {args : List AV} {r : AV} (ha : args.length ≤ nt) (hr : Cl r) (h : ∀ H, a0N H → Safe ⟨P, mu, f, nt, rs, H.length⟩ [.code ac] (b1e 0 args) (hap H []) fun r' H' => Le r' r ∧ ∃ L, H' = hap H L) : a0c P f args r := by
  intro H
  refine a0i.cutL hr.ref (a0i.intro hf hc ha fun hH => ?_)
  have := h H hH
  rw [b5o] at this
  exact this
/-- A row's elements told aXs others that tell less. -/
theorem Safe.toldRow (i : Nat) {x : Cx} {todo : List AItem} {env : Env} {H L : Heap} {R : AV → Heap → Prop} {b b' : Blk} (hl : L[i]? = some (some b)) (hw : b'.wd = b.wd) (hx : ∀ y ∈ b'.xs, y.cells.length = b.wd) (hlen : b'.flat.length = b.flat.length) (hemp : b.xs = [] → b'.xs = [])
    (hle : ∀ (k : Nat) a c, b.flat[k]? = some a → b'.flat[k]? = some c → Le a c) (h : Safe x todo env (hap H (L.set i (some b'))) R) (hpos : 0 < b.wd := by exact Nat.zero_lt_succ _) : Safe x todo env (hap H L) R := by
  intro φ w tmps bf k cs hg hn hb hk htd hsz hok he
  have hl' : (hap H L)[lid H i]? = some (some b) := by
    unfold hap lid
    rw [List.getElem?_append_right (by omega), Nat.add_sub_cancel_left]; exact hl
  have hget : ∀ (j : Nat), (hap H (L.set i (some b')))[j]? = if lid H i = j then some (some b') else (hap H L)[j]? := by
    intro j
    rw [← a4R]
    exact a4c _ _ _ (a0g hl') j
  have hx2 : ∀ w : World, Ext All ⟨φ, hap H L, w⟩ ⟨φ, hap H (L.set i (some b')), w⟩ := by
    intro w
    refine ⟨rfl, rfl, rfl, Nat.le_refl _, by simp [hap], fun _ _ _ => rfl, ?_, fun _ _ _ _ _ _ _ => rfl, ?_, fun _ _ _ => rfl⟩
    · intro j blk' _ _ hb'
      rw [hget] at hb'
      split at hb'
      · rename_i hj; subst hj; simp at hb'; subst hb'; exact ⟨b, hl', hw.symm⟩
      · exact ⟨blk', hb', rfl⟩
    · rintro b0 _ ⟨j, blk', hb', hp⟩
      simp only [hget] at hb'
      split at hb'
      · rename_i hj; subst hj; exact ⟨_, b, hl', hp⟩
      · exact ⟨j, blk', hb', hp⟩
  have live : ∀ (j : Nat) blk', (hap H (L.set i (some b')))[j]? = some (some blk') → (j = lid H i ∧ blk' = b') ∨ (j ≠ lid H i ∧ (hap H L)[j]? = some (some blk')) := by
    intro j blk' hb'
    rw [hget] at hb'
    split at hb'
    · rename_i hj; simp at hb'; exact .inl ⟨hj.symm, hb'.symm⟩
    · rename_i hj; exact .inr ⟨fun e => hj e.symm, hb'⟩
  have hok' : HOk ⟨φ, hap H (L.set i (some b')), w⟩ := by
    refine ⟨fun j x bl h h0 hp => ?_, fun j x h => ?_, fun j x bl h hp => ?_, fun j x h hp => ?_, fun j1 j2 x y bl h1 h2 p1 p2 => ?_⟩
    · rcases live j x h with ⟨rfl, rfl⟩ | ⟨_, h'⟩
      · omega
      · rcases hok.obj j x bl h' h0 hp with ⟨L, q1, q2⟩ | ⟨mid, n, seen, m, q1, q2, q3, q4⟩
        · exact .inl ⟨L, q1, q2⟩
        · refine .inr ⟨mid, n, seen, m, q1, q2, q3, fun blk hb => ?_⟩
          rcases live mid blk hb with ⟨rfl, rfl⟩ | ⟨_, hb'⟩
          · exact absurd (q4 b hl').1 (by omega)
          · exact q4 blk hb'
    · rcases live j x h with ⟨rfl, rfl⟩ | ⟨_, h'⟩
      · rw [hw]; exact hx
      · exact hok.wids j x h'
    · have mv : ∀ {v a}, Rep ⟨φ, hap H L, w⟩ v a → Rep ⟨φ, hap H (L.set i (some b')), w⟩ v a := fun r => r.mono (hx2 w) (r.ref.mono fun _ _ => trivial)
      rcases live j x h with ⟨rfl, rfl⟩ | ⟨_, h'⟩
      · obtain ⟨c, e, r⟩ := hok.row _ b bl hl' hp
        refine ⟨c, e, fun h0 => r.heap hpos, by rw [hlen]; exact r.fits, fun k v hk hv => r.one k v (by rw [← hlen]; exact hk) hv, fun k v a hv ha => ?_⟩
        have hk := a0a ha
        have ha' : b.flat[k]? = some (b.flat[k]'(by omega)) := List.getElem?_eq_getElem (by omega)
        exact mv (hle k _ a ha' ha _ _ (r.rep k v _ hv ha'))
      · obtain ⟨c, e, r⟩ := hok.row j x bl h' hp
        exact ⟨c, e, r.heap, r.fits, r.one, fun k v a hv ha => mv (r.rep k v a hv ha)⟩
    · rcases live j x h with ⟨rfl, rfl⟩ | ⟨_, h'⟩
      · exact hemp (hok.emp _ b hl' hp)
      · exact hok.emp j x h' hp
    · have g1 : ∃ z, (hap H L)[j1]? = some (some z) := by rcases live j1 x h1 with ⟨rfl, _⟩ | ⟨_, h'⟩; exact ⟨b, hl'⟩; exact ⟨x, h'⟩
      have g2 : ∃ z, (hap H L)[j2]? = some (some z) := by rcases live j2 y h2 with ⟨rfl, _⟩ | ⟨_, h'⟩; exact ⟨b, hl'⟩; exact ⟨y, h'⟩
      obtain ⟨_, g1⟩ := g1
      obtain ⟨_, g2⟩ := g2
      exact hok.inj j1 j2 _ _ bl g1 g2 p1 p2
  obtain ⟨v, w', fr, r, φ', H', q1, q2, q3, q4, q5, q6⟩ := h φ w tmps bf k cs hg (by simpa [hap] using hn) hb hk htd hsz hok' (fun t => (he t).mono (hx2 w) ((he t).ref.mono fun _ _ => trivial))
  exact ⟨v, w', fr, r, φ', H', q1, q2, q3, q4, ((hx2 w).sub fun _ _ => trivial).trans q5, q6⟩
theorem c5K (n i off : Nat) (v : AV) (env : Env) (H L : Heap) : a8p n (.loc (lid H i) 0 off) v env (hap H L) = (L[i]?).join.bind fun b =>
    if 0 < b.xs.length ∧ v.fit = true ∧ v.cells.length = n ∧ off + n ≤ b.wd then some (.top, env, hap H (L.set i (some ⟨b.wd, b.xs.set 0 (upd (b.xs.getD 0 .top) b.wd off n v)⟩))) else none := by
  simp only [a8p, a1y, a4R]
theorem c4P (env : Env) (cs : List AV) : bldV env cs [] = some cs := rfl
theorem c2O (env : Env) (cs : List AV) (off n : Nat) (s : Src) (r : List (Nat × Nat × Src)) :
    bldV env cs ((off, n, s) :: r) = if (s.ev env).cells.length = n ∧ off + n ≤ cs.length ∧ (s.ev env).fit = true then bldV env (a1l cs off (s.ev env).cells) r else none := rfl
theorem c1d (cs : List AV) (off : Nat) (aXs : List AV) : a1l cs off aXs = cs.take off ++ aXs ++ cs.drop (off + aXs.length) := rfl
def EV2 := And.intro (And.intro @c5K (And.intro @c4P (And.intro @c2O @c1d))) (And.intro (And.intro (And.intro (@List.drop_succ_cons.{0}) (@List.take_succ_cons.{0})) (And.intro (@List.take_zero.{0}) (@List.take_nil.{0}))) (And.intro (And.intro (@List.drop_nil.{0}) (@List.append_nil.{0})) (And.intro (@Nat.le_refl) (@Nat.lt_irrefl))))
end Go.Abs
namespace Go.Abs
section
variable {x : Cx} {l : ACode} {todo : List AItem} {R : AV → Heap → Prop}
/-- The structural steps. -/
def stl : Nat → List AItem → List AItem
  | 0, k => k
  | n + 1, .code (.seq a b) :: k => stl n (.code a :: .code b :: k)
  | n + 1, .code .skip :: k => stl n k
  | n + 1, .code (.block id a) :: k => stl n (.code a :: .inBlock id :: k)
  | n + 1, .inBlock _ :: k => stl n k
  | n + 1, .code (.scope a) :: k => stl n (.code a :: .inScope a :: k)
  | n + 1, .inScope _ :: k => stl n k
  | n + 1, .code (.exit id) :: k => match b3Q id k with
    | some k' => stl n k'
    | none => .code (.exit id) :: k
  | n + 1, .code (.label _) :: k => stl n k
  | n + 1, .code (.goto l) :: k => match b3O l k with
    | some k' => stl n k'
    | none => .code (.goto l) :: k
  | _, k => k
theorem Safe.stl {env : Env} {H : Heap} : ∀ (n : Nat) (k : List AItem), Safe x (stl n k) env H R → Safe x k env H R := by
  intro n
  induction n with
  | zero => intro k h; cases k <;> exact h
  | succ n ih =>
    intro k h
    unfold Abs.stl at h
    split at h
    · rename_i h0; cases h0
    · rename_i h0; cases h0; exact Safe.seq (ih _ h)
    · rename_i h0; cases h0; exact Safe.skip (ih _ h)
    · rename_i h0; cases h0; exact Safe.block (ih _ h)
    · rename_i h0; cases h0; exact Safe.inBlock (ih _ h)
    · rename_i h0; cases h0; exact Safe.scope (ih _ h)
    · rename_i h0; cases h0; exact Safe.inScope (ih _ h)
    · rename_i h0; cases h0
      split at h
      · rename_i he; exact Safe.exit he (ih _ h)
      · exact h
    · rename_i h0; cases h0; exact Safe.label (ih _ h)
    · rename_i h0; cases h0
      split at h
      · rename_i he; exact Safe.goto he (ih _ h)
      · exact h
    · exact h
theorem Safe.rg {env : Env} {H : Heap} {k k' : List AItem} {b : Bool} {l : List AIns} (e : Abs.stl 40 k = .code (.region l b) :: k')
    (h : if b = true then dops x.P x.n0 l (fun env' H' => Safe x k' env' H' R) env H else aops x.P x.n0 l (fun env' H' => Safe x k' env' H' R) env H) : Safe x k env H R := by
  refine Safe.stl 40 k ?_
  rw [e]
  cases b
  · exact Safe.region h
  · exact Safe.regionD h
theorem Safe.cd {env : Env} {H : Heap} {k k' : List AItem} {s : Src} {a b : ACode} (e : Abs.stl 40 k = .code (.cond s a b) :: k')
    (h : c0x (s.ev env) fun c => if c then Safe x (.code a :: k') env H R else Safe x (.code b :: k') env H R) : Safe x k env H R := by
  refine Safe.stl 40 k ?_
  rw [e]
  exact Safe.cond h
theorem Safe.lp {env : Env} {H : Heap} {k k' : List AItem} {a : ACode} (e : Abs.stl 40 k = .code (.loop a) :: k') (h : Safe x (.inLoop a :: k') env H R) : Safe x k env H R := by
  refine Safe.stl 40 k ?_
  rw [e]
  exact Safe.loop h
theorem Safe.rt {env : Env} {H : Heap} {k k' : List AItem} (e : Abs.stl 40 k = .code .ret :: k') (h : gret (resL env H x.rs) fun r => R r H) : Safe x k env H R := by
  refine Safe.stl 40 k ?_
  rw [e]
  exact Safe.retn h
theorem Safe.loopP (n : Nat) (E : Nat → Env) (G : Nat → Heap) (P : Nat → Prop) {env : Env} {H : Heap} (he : env = E 0) (hG : H = G 0) (h0 : P 0)
    (step : ∀ i, i < n → P i → (P (i + 1) → Safe x (.inLoop l :: todo) (E (i + 1)) (G (i + 1)) R) → Safe x (.inLoop l :: todo) (E i) (G i) R)
    (last : P n → Safe x (.inLoop l :: todo) (E n) (G n) R) : Safe x (.inLoop l :: todo) env H R := by
  subst he; subst hG
  have key : ∀ k i, i + k = n → P i → Safe x (.inLoop l :: todo) (E i) (G i) R := by
    intro k
    induction k with
    | zero => intro i hi hp; rw [show i = n by omega] at hp ⊢; exact last hp
    | succ k ih => intro i hi hp; exact step i (by omega) hp fun hp' => ih (i + 1) (by omega) hp'
  exact key n 0 (by omega) h0
theorem Safe.loopN (n : Nat) (E : Nat → Env) (G : Nat → Heap) {env : Env} {H : Heap} (he : env = E 0) (hG : H = G 0)
    (step : ∀ i, i < n → Safe x (.inLoop l :: todo) (E (i + 1)) (G (i + 1)) R → Safe x (.inLoop l :: todo) (E i) (G i) R)
    (last : Safe x (.inLoop l :: todo) (E n) (G n) R) : Safe x (.inLoop l :: todo) env H R :=
  Safe.loopP n E G (fun _ => True) he hG trivial (fun i hi _ ih => step i hi (ih trivial)) fun _ => last
/-- A loop that counts down. -/
theorem Safe.loopD (n : Nat) (E : Nat → Env) (G : Nat → Heap) {env : Env} {H : Heap} (he : env = E n) (hG : H = G n)
    (step : ∀ i, i < n → Safe x (.inLoop l :: todo) (E i) (G i) R → Safe x (.inLoop l :: todo) (E (i + 1)) (G (i + 1)) R)
    (last : Safe x (.inLoop l :: todo) (E 0) (G 0) R) : Safe x (.inLoop l :: todo) env H R := by
  subst he; subst hG
  have key : ∀ i, i ≤ n → Safe x (.inLoop l :: todo) (E i) (G i) R := by
    intro i
    induction i with
    | zero => intro _; exact last
    | succ i ih => intro hi; exact step i (by omega) (ih (by omega))
  exact key n (Nat.le_refl _)
/-- A loop with a measure. -/
theorem Safe.loopW {α : Type} (μ : α → Nat) (E : α → Env) (G : α → Heap) (P : α → Prop) (a0 : α) {env : Env} {H : Heap} (he : env = E a0) (hG : H = G a0) (h0 : P a0)
    (step : ∀ a, P a → (∀ b, P b → μ b < μ a → Safe x (.inLoop l :: todo) (E b) (G b) R) → Safe x (.inLoop l :: todo) (E a) (G a) R) : Safe x (.inLoop l :: todo) env H R := by
  subst he; subst hG
  have key : ∀ k a, μ a ≤ k → P a → Safe x (.inLoop l :: todo) (E a) (G a) R := by
    intro k
    induction k with
    | zero => intro a ha hp; exact step a hp fun b hb hlt => absurd hlt (by omega)
    | succ k ih => intro a ha hp; exact step a hp fun b hb hlt => ih b (by omega) hb
  exact key (μ a0) a0 (Nat.le_refl _) h0
theorem a4M {α β : Type} (f : α → β) (l : List α) {i : Nat} (h : i < l.length) : (l.take (i + 1)).map f = (l.take i).map f ++ [f l[i]] := by
  rw [List.take_succ_eq_append_getElem h, List.map_append]; rfl
theorem b1F {α : Type} (l : List α) {i : Nat} (h : i < l.length) : l.take (i + 1) = l.take i ++ [l[i]] := List.take_succ_eq_append_getElem h
end
end Go.Abs
namespace Go.Abs
theorem Ref.both {S T : Nat → Prop} {a : AV} (h : Ref S a) (k : Ref T a) : Ref (fun i => S i ∧ T i) a := by
  induction h with
  | top => exact .top
  | int => exact .int _ _
  | bool => exact .bool _
  | str => exact .str _
  | nil => exact .nil
  | lit => exact .lit _
  | sl => exact .sl _ _
  | ro => exact .ro _ _
  | mu i off len oc h => cases k with | mu _ _ _ _ h' => exact .mu i off len oc ⟨h, h'⟩
  | mp b i h => cases k with | mp _ _ h' => exact .mp b i ⟨h, h'⟩
  | mo l => exact .mo l
  | io i n seen => exact .io i n seen
  | loc i k off h => cases k with | loc _ _ _ h' => exact .loc i _ off ⟨h, h'⟩
  | agg cs h ih => cases k with | agg _ h' => exact .agg cs fun c hc => ih c hc (h' c hc)
  | tup cs h ih => cases k with | tup _ h' => exact .tup cs fun c hc => ih c hc (h' c hc)
  | fn f cs h ih => cases k with | fn _ _ h' => exact .fn f cs fun c hc => ih c hc (h' c hc)
  | bfn f cs h ih => cases k with | bfn _ _ h' => exact .bfn f cs fun c hc => ih c hc (h' c hc)
theorem c1R {env : Env} {id : Nat} (h : env.all (fun p => nref id p.2) = true) (t : Nat) : Ref (· ≠ id) (look env t) := by
  induction env with
  | nil => exact .top
  | cons p env ih =>
    simp only [List.all_cons, Bool.and_eq_true] at h
    simp only [look]
    split
    · exact a0d.1 h.1
    · exact ih h.2
theorem Safe.drop {x : Cx} {todo : List AItem} {env : Env} {H L : Heap} {R : AV → Heap → Prop} {o : Option Blk} (hH : a0N H) (hx : x.n0 = H.length) (he : env.all (fun p => nref (lid H L.length) p.2) = true)
    (hL : ∀ b, some b ∈ L → ∀ a ∈ b.flat, nref (lid H L.length) a = true) (h : Safe x todo env (hap H L) R) : Safe x todo env (hap H (L ++ [o])) R := by
  intro φ w tmps b k cs hg hn hb hk htd hsz hok hrep
  have hlen : (hap H (L ++ [o])).length = lid H L.length + 1 := by simp [hap, lid, Nat.add_assoc]
  have lt : ∀ {a}, Ref (· < (hap H (L ++ [o])).length) a → Ref (· ≠ lid H L.length) a → Ref (· < lid H L.length) a := fun h1 h2 => (h1.both h2).mono fun i ⟨q1, q2⟩ => by rw [hlen] at q1; show i < _; omega
  have htake : (hap H (L ++ [o])).take (lid H L.length) = hap H L := by
    simp only [hap, lid, ← List.append_assoc]
    rw [show H.length + L.length = (H ++ L).length by simp, List.take_left']
    rfl
  have hcut := HOk.cut (E := ⟨φ, hap H (L ++ [o]), w⟩) hok (lid H L.length) (by
    intro j bj hj hbj a ha
    refine lt (hok.refs hbj a ha) ?_
    simp only [hap] at hbj
    rcases Nat.lt_or_ge j H.length with hlt | hge
    · rw [List.getElem?_append_left hlt] at hbj
      exact (hH j bj hbj a ha).mono fun i hi => by show i ≠ H.length + L.length; have : i < H.length := hi; omega
    · rw [List.getElem?_append_right hge] at hbj
      have hj2 : j - H.length < L.length := by simp only [lid] at hj; omega
      rw [List.getElem?_append_left hj2] at hbj
      exact a0d.1 (hL bj (List.mem_of_getElem? hbj) a ha))
  simp only [htake] at hcut
  obtain ⟨v, w', fr, r, φ', H', q1, q2, q3, q4, q5, q6⟩ := h φ w tmps b k cs hg (by rw [hx]; simp [hap]) hb hk htd hsz hcut.1 (fun t => (hrep t).mono hcut.2 (lt (hrep t).ref (c1R he t)))
  exact ⟨v, w', fr, r, φ', H', q1, q2, q3, q4, (hcut.2.sub fun i hi => by rw [hx] at hi; show i < H.length + L.length; have : i < H.length := hi; omega).trans q5, q6⟩
/-- The same where the other rows are closed. -/
theorem Safe.dropC {x : Cx} {todo : List AItem} {env : Env} {H L : Heap} {R : AV → Heap → Prop} {o : Option Blk} (hH : a0N H) (hx : x.n0 = H.length) (he : env.all (fun p => nref (lid H L.length) p.2) = true)
    (hL : ∀ b, some b ∈ L → ∀ a ∈ b.flat, Cl a) (h : Safe x todo env (hap H L) R) : Safe x todo env (hap H (L ++ [o])) R :=
  Safe.drop hH hx he (fun b hb a ha => a0V (hL b hb a ha)) h
end Go.Abs
namespace Go.Abs
theorem a0c.ofBelow {P : Program} {f : FuncId} {fn : Func} (hf : P.funcs[f]? = some fn) (hn : (fn.name == "runtime.NumGoroutine") = false) (hb : fn.body.isSome = true) {args : List AV} {r : AV}
    (h : ∀ (E : Emb) (vs : List Value), HOk E → vs.length = args.length → (∀ (k : Nat) v a, vs[k]? = some v → args[k]? = some a → Rep E v a) →
      Calls P f vs.toArray E.w fun e w' => (∃ v, e = .returned v ∧ ∀ E', Rep E' v r) ∧ Go.RowKit.Below E.w.heap.size E.w w') : a0c P f args r := by
  intro H
  refine ⟨⟨fn, hf, hn, hb⟩, fun φ w vs hok hl hrep => (h ⟨φ, H, w⟩ vs hok hl hrep).mono ?_⟩
  rintro e w' ⟨⟨v, rfl, hv⟩, hbl⟩
  exact ⟨v, r, φ, H, rfl, ⟨rfl, rfl⟩, HOk.of_heap (E := ⟨φ, H, w⟩) hbl.os hbl.tape hbl.output hbl.size (fun b hb => hbl.block b hb) hok, hv _, Nat.le_refl _,
    Ext.of_heap (E := ⟨φ, H, w⟩) hbl.os hbl.tape hbl.output hbl.size (fun b hb => hbl.block b hb) hok⟩
end Go.Abs
namespace Go.Abs
theorem a0N.set {H : Heap} (h : a0N H) (id : Nat) {b : Blk} (hb : ∀ a ∈ b.flat, Ref (· < H.length) a) : a0N (H.set id (some b)) := by
  intro j bj hj a ha
  rw [List.length_set]
  rw [List.getElem?_set] at hj
  split at hj
  · split at hj
    · cases hj; exact hb a ha
    · cases hj
  · exact h j bj hj a ha
/-- A function's rows of its own are forgotten; what it wrote below stays. -/
theorem a0i.eff {P : Program} {mu : Nat → Nat → Bool} {f : FuncId} {fn : Func} (hf : P.funcs[f]? = some fn) {ac : ACode} {rs : List ResV} {nt : Nat} (hc : fchk P mu fn = some (ac, rs, nt))
    {args : List AV} {H : Heap} {R : AV → Heap → Prop} (ha : args.length ≤ nt)
    (h : a0N H → Safe ⟨P, mu, f, nt, rs, H.length⟩ [.code ac] (b1e 0 args) (hap H []) fun r' H' => ∃ H1 L, H' = hap H1 L ∧ H1.length = H.length ∧ a0N H1 ∧ Ref (· < H.length) r' ∧ R r' H1) : a0i P f args H R := by
  have h0 : a0i P f args H fun r' H' => ∃ H1 L, H' = hap H1 L ∧ H1.length = H.length ∧ a0N H1 ∧ Ref (· < H.length) r' ∧ R r' H1 := a0i.intro hf hc ha fun hH => by
    have := h hH
    rw [b5o] at this
    exact this
  refine ⟨h0.1, fun φ w vs hok hl hrep => (h0.2 φ w vs hok hl hrep).mono ?_⟩
  rintro e w' ⟨v, r', φ', H', rfl, ⟨H1, L, rfl, hlen, hrefs, hcl, hR⟩, q1, q2, q3, q4⟩
  have hfree : ∀ (j : Nat) bj, j < H.length → (hap H1 L)[j]? = some (some bj) → ∀ a ∈ bj.flat, Ref (· < H.length) a := by
    intro j bj hj hb
    simp only [hap] at hb
    rw [List.getElem?_append_left (by omega)] at hb
    have := hrefs j bj hb
    rwa [hlen] at this
  have hcut := HOk.cut q1 H.length hfree
  have ht : (hap H1 L).take H.length = H1 := by simp [hap, ← hlen]
  simp only [ht] at hcut
  exact ⟨v, r', φ', H1, rfl, hR, hcut.1, q2.mono hcut.2 hcl, by omega, q4.trans hcut.2⟩
end Go.Abs
namespace Go.Abs
def fr (n : Nat) (f : Nat → AV) : List AV := (List.range n).map f
/-- Rows bound anew: the outer one, and n inner ones behind it. -/
def hm (G : Heap) (β n : Nat) (O : List AV) (R : Nat → Option Blk) : Heap := G.mapIdx fun j o => if j = β then some ⟨1, O⟩ else if β < j ∧ j ≤ β + n then R (j - (β + 1)) else o
/-- A matrix: inner rows of c elements of w cells; logical row i lies at π i. -/
def orow (β n c : Nat) (oc : Option Nat) (π : Nat → Nat) : List AV := fr n fun i => .mu (β + 1 + π i) 0 c oc
def hM (G : Heap) (β n w c : Nat) (oc : Option Nat) (π : Nat → Nat) (S : Nat → Nat → AV) : Heap := hm G β n (orow β n c oc π) fun j => some ⟨w, fr c (S j)⟩
def swp (π : Nat → Nat) (p r : Nat) : Nat → Nat := fun i => if i = p then π r else if i = r then π p else π i
theorem c4l (H L M : Heap) : hap (hap H L) M = hap H (L ++ M) := by simp [hap]
end Go.Abs
namespace Go.Abs
theorem HOk.hrefs {φ : Nat → Option Nat} {H : Heap} {w : World} (h : HOk ⟨φ, H, w⟩) : a0N H := fun id b hb a ha => h.refs (E := ⟨φ, H, w⟩) hb a ha
/-- A row of what is handed out is no longer written. -/
theorem a0i.frz {P : Program} {f : FuncId} {args : List AV} {H : Heap} {R R2 : AV → Heap → Prop} (h : a0i P f args H R)
    (hR : a0N H → ∀ r H', R r H' → ∃ id b, H'[id]? = some (some b) ∧ (0 < b.wd ∧ ∀ c ∈ b.flat, Cl c) ∧ R2 (Abs.frz id b r) (frzH id b H')) : a0i P f args H R2 := by
  refine ⟨h.1, fun φ w vs hok hl hrep => (h.2 φ w vs hok hl hrep).mono ?_⟩
  rintro e w' ⟨v, r, φ', H', rfl, hr, q1, q2, q3, q4⟩
  obtain ⟨id, b, h1, ⟨h0, h2⟩, h3⟩ := hR hok.hrefs r H' hr
  exact ⟨v, _, φ', _, rfl, h3, c5p q1 h0 h1 h2, b8j q1 h0 h1 h2 q2, by simpa [frzH] using q3, q4.trans ((b8k (E := ⟨φ', H', w'⟩)).sub fun _ _ => trivial)⟩
end Go.Abs
namespace Go.Abs
/-- A row of limbs. -/
structure K0 (r : Blk) : Prop where
  wd : r.wd = 1
  pos : 0 < r.xs.length
  len : r.xs.length ≤ 17592186044416
  el : ∀ x ∈ r.xs, ∃ z : Int, x = .int .u32 z
def NatT (n0 : Nat) (A : Heap) (a : AV) : Prop := a = .nil ∨ ∃ id r, a = .mu id 0 r.xs.length (some r.xs.length) ∧ n0 ≤ id ∧ A[id]? = some (some r) ∧ K0 r
def IntT (n0 : Nat) (A : Heap) (a : AV) : Prop := ∃ b m, a = .agg [.bool b, m] ∧ NatT n0 A m
/-- A row of numbers. -/
structure K1 (n0 : Nat) (A : Heap) (r : Blk) : Prop where
  wd : r.wd = 2
  el : ∀ x ∈ r.xs, IntT n0 A x
def VecT (n0 : Nat) (A : Heap) (a : AV) : Prop := a = .nil ∨ ∃ id off l oc r, a = .mu id off l oc ∧ n0 ≤ id ∧ A[id]? = some (some r) ∧ K1 n0 A r ∧ off + l ≤ r.xs.length ∧ l ≤ 2097152
/-- A row of vectors. -/
structure K2 (n0 : Nat) (A : Heap) (r : Blk) : Prop where
  wd : r.wd = 1
  el : ∀ x ∈ r.xs, VecT n0 A x
def MatT (n0 : Nat) (A : Heap) (a : AV) : Prop := a = .nil ∨ ∃ id off l oc r, a = .mu id off l oc ∧ n0 ≤ id ∧ A[id]? = some (some r) ∧ K2 n0 A r ∧ off + l ≤ r.xs.length ∧ l ≤ 2097152
/-- Rows of limbs stay such. -/
def M0 (n0 : Nat) (A B : Heap) : Prop := ∀ id r, n0 ≤ id → A[id]? = some (some r) → K0 r → ∃ r', B[id]? = some (some r') ∧ K0 r' ∧ r'.xs.length = r.xs.length
def M1 (n0 : Nat) (A B : Heap) : Prop := ∀ id r, n0 ≤ id → A[id]? = some (some r) → K1 n0 A r → ∃ r', B[id]? = some (some r') ∧ K1 n0 B r' ∧ r'.xs.length = r.xs.length
def M2 (n0 : Nat) (A B : Heap) : Prop := ∀ id r, n0 ≤ id → A[id]? = some (some r) → K2 n0 A r → ∃ r', B[id]? = some (some r') ∧ K2 n0 B r' ∧ r'.xs.length = r.xs.length
section
variable {n0 : Nat} {A B C : Heap}
theorem M0.refl : M0 n0 A A := fun id r _ h k => ⟨r, h, k, rfl⟩
theorem M0.trans (h : M0 n0 A B) (k : M0 n0 B C) : M0 n0 A C := fun id r h0 h1 h2 => by
  obtain ⟨r', q1, q2, q3⟩ := h id r h0 h1 h2
  obtain ⟨r2, s1, s2, s3⟩ := k id r' h0 q1 q2
  exact ⟨r2, s1, s2, by omega⟩
theorem M1.refl : M1 n0 A A := fun id r _ h k => ⟨r, h, k, rfl⟩
theorem M1.trans (h : M1 n0 A B) (k : M1 n0 B C) : M1 n0 A C := fun id r h0 h1 h2 => by
  obtain ⟨r', q1, q2, q3⟩ := h id r h0 h1 h2
  obtain ⟨r2, s1, s2, s3⟩ := k id r' h0 q1 q2
  exact ⟨r2, s1, s2, by omega⟩
theorem M2.refl : M2 n0 A A := fun id r _ h k => ⟨r, h, k, rfl⟩
theorem M2.trans (h : M2 n0 A B) (k : M2 n0 B C) : M2 n0 A C := fun id r h0 h1 h2 => by
  obtain ⟨r', q1, q2, q3⟩ := h id r h0 h1 h2
  obtain ⟨r2, s1, s2, s3⟩ := k id r' h0 q1 q2
  exact ⟨r2, s1, s2, by omega⟩
theorem NatT.mono (h : M0 n0 A B) {a : AV} (t : NatT n0 A a) : NatT n0 B a := by
  rcases t with rfl | ⟨id, r, rfl, h0, h1, h2⟩
  · exact .inl rfl
  · obtain ⟨r', q1, q2, q3⟩ := h id r h0 h1 h2
    exact .inr ⟨id, r', by rw [q3], h0, q1, q2⟩
theorem IntT.mono (h : M0 n0 A B) {a : AV} (t : IntT n0 A a) : IntT n0 B a := by
  obtain ⟨b, m, rfl, hm⟩ := t
  exact ⟨b, m, rfl, hm.mono h⟩
theorem K1.mono (h : M0 n0 A B) {r : Blk} (k : K1 n0 A r) : K1 n0 B r := ⟨k.wd, fun x hx => (k.el x hx).mono h⟩
theorem VecT.mono (h : M1 n0 A B) {a : AV} (t : VecT n0 A a) : VecT n0 B a := by
  rcases t with rfl | ⟨id, off, l, oc, r, rfl, h0, h1, h2, h3, h4⟩
  · exact .inl rfl
  · obtain ⟨r', q1, q2, q3⟩ := h id r h0 h1 h2
    exact .inr ⟨id, off, l, oc, r', rfl, h0, q1, q2, by omega, h4⟩
theorem K2.mono (h : M1 n0 A B) {r : Blk} (k : K2 n0 A r) : K2 n0 B r := ⟨k.wd, fun x hx => (k.el x hx).mono h⟩
theorem MatT.mono (h : M2 n0 A B) {a : AV} (t : MatT n0 A a) : MatT n0 B a := by
  rcases t with rfl | ⟨id, off, l, oc, r, rfl, h0, h1, h2, h3, h4⟩
  · exact .inl rfl
  · obtain ⟨r', q1, q2, q3⟩ := h id r h0 h1 h2
    exact .inr ⟨id, off, l, oc, r', rfl, h0, q1, q2, by omega, h4⟩
theorem b8h {H L : Heap} {id : Nat} {x : Option Blk} (h : H[id]? = some x) : (hap H L)[id]? = some x := by
  unfold hap; rw [List.getElem?_append_left (a0g h)]; exact h
theorem M0.app (L : Heap) : M0 n0 A (hap A L) := fun id r _ h k => ⟨r, b8h h, k, rfl⟩
theorem M1.app (L : Heap) : M1 n0 A (hap A L) := fun id r _ h k => ⟨r, b8h h, k.mono (.app L), rfl⟩
theorem M2.app (L : Heap) : M2 n0 A (hap A L) := fun id r _ h k => ⟨r, b8h h, k.mono (.app L), rfl⟩
/-- A row that is none of limbs. -/
theorem M0.set {β : Nat} {x : Option Blk} (h : ∀ r, A[β]? = some (some r) → ¬ K0 r) : M0 n0 A (A.set β x) := fun id r _ h1 k => by
  refine ⟨r, ?_, k, rfl⟩
  rw [List.getElem?_set, if_neg (fun e => by subst e; exact h r h1 k)]; exact h1
end
/-- What a spoiler leaves. -/
structure Sp (n0 : Nat) (A B : Heap) : Prop where
  m0 : M0 n0 A B
  m1 : M1 n0 A B
  m2 : M2 n0 A B
  len : B.length = A.length
  refs : a0N B
  low : ∀ id, id < n0 → B[id]? = A[id]?
theorem Sp.refl {n0 : Nat} {A : Heap} (h : a0N A) : Sp n0 A A := ⟨.refl, .refl, .refl, rfl, h, fun _ _ => rfl⟩
theorem Sp.trans {n0 : Nat} {A B C : Heap} (h : Sp n0 A B) (k : Sp n0 B C) : Sp n0 A C := ⟨h.m0.trans k.m0, h.m1.trans k.m1, h.m2.trans k.m2, by rw [k.len, h.len], k.refs, fun id hi => by rw [k.low id hi, h.low id hi]⟩
/-- Rows that name rows from n0 on alone. -/
def Own (n0 : Nat) (L : Heap) : Prop := ∀ b, some b ∈ L → ∀ a ∈ b.flat, Ref (fun j => n0 ≤ j ∧ j < n0 + L.length) a
theorem Own.app {n0 : Nat} {L M : Heap} (h : Own n0 L) (k : ∀ b, some b ∈ M → ∀ a ∈ b.flat, Ref (fun j => n0 ≤ j ∧ j < n0 + (L ++ M).length) a) : Own n0 (L ++ M) := fun b hb a ha => by
  rcases List.mem_append.1 hb with hb | hb
  · exact (h b hb a ha).mono fun j hj => by simp only [List.length_append]; omega
  · exact k b hb a ha
theorem Own.refs {H L : Heap} (hH : a0N H) (h : Own H.length L) : a0N (hap H L) := by
  intro id b hb a ha
  have hl : (hap H L).length = H.length + L.length := by simp [hap]
  rcases Nat.lt_or_ge id H.length with hi | hi
  · unfold hap at hb
    rw [List.getElem?_append_left hi] at hb
    exact (hH id b hb a ha).mono fun j hj => by rw [hl]; have : j < H.length := hj; show j < _; omega
  · unfold hap at hb
    rw [List.getElem?_append_right hi] at hb
    exact (h b (List.mem_of_getElem? hb) a ha).mono fun j hj => by rw [hl]; show j < _; omega
/-- One of the rows bound anew. -/
theorem Own.set {H L : Heap} (h : Own H.length L) {i : Nat} {b' : Blk} (hb' : ∀ a ∈ b'.flat, Ref (fun j => H.length ≤ j ∧ j < H.length + L.length) a) : Own H.length (L.set i (some b')) := fun b hb a ha => by
  rw [List.length_set]
  rcases List.mem_or_eq_of_mem_set hb with hb | hb
  · exact h b hb a ha
  · cases hb; exact hb' a ha
section
variable {n0 : Nat} {A : Heap}
theorem NatT.ref {a : AV} (h : NatT n0 A a) : Ref (fun j => n0 ≤ j ∧ j < A.length) a := by
  rcases h with rfl | ⟨id, r, rfl, h0, h1, _⟩
  · exact .nil
  · exact .mu _ _ _ _ ⟨h0, a0g h1⟩
theorem IntT.ref {a : AV} (h : IntT n0 A a) : Ref (fun j => n0 ≤ j ∧ j < A.length) a := by
  obtain ⟨b, m, rfl, hm⟩ := h
  refine .agg _ fun c hc => ?_
  simp only [List.mem_cons, List.not_mem_nil, or_false] at hc
  rcases hc with rfl | rfl
  · exact .bool b
  · exact hm.ref
theorem IntT.cells {a : AV} (h : IntT n0 A a) : ∀ c ∈ a.cells, Ref (fun j => n0 ≤ j ∧ j < A.length) c := by
  obtain ⟨b, m, rfl, hm⟩ := h
  intro c hc
  simp only [AV.cells, List.mem_cons, List.not_mem_nil, or_false] at hc
  rcases hc with rfl | rfl
  · exact .bool b
  · exact hm.ref
theorem IntT.fit {a : AV} (h : IntT n0 A a) : a.fit = true ∧ a.cells.length = 2 := by
  obtain ⟨b, m, rfl, hm⟩ := h; exact ⟨rfl, rfl⟩
theorem VecT.ref {a : AV} (h : VecT n0 A a) : Ref (fun j => n0 ≤ j ∧ j < A.length) a := by
  rcases h with rfl | ⟨id, off, l, oc, r, rfl, h0, h1, _⟩
  · exact .nil
  · exact .mu _ _ _ _ ⟨h0, a0g h1⟩
theorem VecT.cells {a : AV} (h : VecT n0 A a) : ∀ c ∈ a.cells, Ref (fun j => n0 ≤ j ∧ j < A.length) c := by
  intro c hc
  have : a.cells = [a] := by rcases h with rfl | ⟨id, off, l, oc, r, rfl, _⟩ <;> rfl
  rw [this] at hc
  simp only [List.mem_cons, List.not_mem_nil, or_false] at hc
  subst hc
  exact h.ref
theorem VecT.fit {a : AV} (h : VecT n0 A a) : a.fit = true ∧ a.cells.length = 1 := by
  rcases h with rfl | ⟨id, off, l, oc, r, rfl, _⟩ <;> exact ⟨rfl, rfl⟩
end
theorem c6s {H X : Heap} (hH : a0N H) (hX : ∀ b, some b ∈ X → ∀ a ∈ b.flat, Cl a) : a0N (hap H X) := Own.refs hH fun b hb a ha => (hX b hb a ha).ref
theorem a0i.open {P : Program} {mu : Nat → Nat → Bool} {f : FuncId} {fn : Func} (hf : P.funcs[f]? = some fn) {ac : ACode} {rs : List ResV} {nt : Nat} (hc : fchk P mu fn = some (ac, rs, nt))
    {args : List AV} {H : Heap} {R : AV → Heap → Prop} (ha : args.length ≤ nt) (h : a0N H → Safe ⟨P, mu, f, nt, rs, H.length⟩ [.code ac] (b1e 0 args) (hap H []) R) : a0i P f args H R :=
  a0i.intro hf hc ha fun hH => by
    have := h hH
    rw [b5o] at this
    exact this
/-- A call that hands out rows of its own, the same at the same rows. -/
def OpC (P : Program) (f : FuncId) (args : List AV) (T : Nat → Heap → AV → Prop) : Prop := ∀ H, a0N H → ∃ r L, (a0i P f args H fun r' H' => r' = r ∧ H' = hap H L) ∧ T H.length (hap H L) r ∧ Own H.length L
/-- A call that hands out rows of its own. -/
def GrC (P : Program) (f : FuncId) (args : List AV) (T : Nat → Heap → AV → Prop) : Prop := ∀ H, a0N H → a0i P f args H fun r' H' => ∃ L, H' = hap H L ∧ T H.length H' r' ∧ Own H.length L
theorem OpC.dgcall {P : Program} {f : FuncId} {args : List AV} {T : Nat → Heap → AV → Prop} (h : OpC P f args T) {H : Heap} (hH : a0N H) {K : AV → Heap → Prop} (k : ∀ r L, T H.length (hap H L) r → Own H.length L → K r (hap H L)) : dgcall P f args H K := by
  obtain ⟨r, L, h1, h2, h3⟩ := h H hH
  exact ⟨r, L, h1, k r L h2 h3⟩
theorem GrC.acall {P : Program} {f : FuncId} {args : List AV} {T : Nat → Heap → AV → Prop} (h : GrC P f args T) {H : Heap} (hH : a0N H) {R : AV → Heap → Prop} (k : ∀ r L, T H.length (hap H L) r → Own H.length L → R r (hap H L)) : a0i P f args H R :=
  (h H hH).mono fun r' H' ⟨L, e, h1, h2⟩ => by subst e; exact k r' L h1 h2
structure Gw (H G : Heap) : Prop where
  len : H.length ≤ G.length
  low : ∀ id, id < H.length → G[id]? = H[id]?
  own : ∀ (id : Nat) b, H.length ≤ id → G[id]? = some (some b) → ∀ a ∈ b.flat, Ref (fun j => H.length ≤ j ∧ j < G.length) a
theorem Gw.refl (H : Heap) : Gw H H := ⟨Nat.le_refl _, fun _ _ => rfl, fun id b h hb => absurd (a0g hb) (by omega)⟩
theorem Gw.refs {H G : Heap} (hH : a0N H) (h : Gw H G) : a0N G := fun id b hb a ha => by
  rcases Nat.lt_or_ge id H.length with hi | hi
  · rw [h.low id hi] at hb
    exact (hH id b hb a ha).mono fun j hj => by have := h.len; show j < _; have : j < H.length := hj; omega
  · exact (h.own id b hi hb a ha).mono fun j hj => hj.2
theorem Gw.out {H G : Heap} (h : Gw H G) : ∃ L, G = hap H L ∧ Own H.length L := by
  have he : G = hap H (G.drop H.length) := by
    apply List.ext_getElem?
    intro j
    unfold hap
    rcases Nat.lt_or_ge j H.length with hj | hj
    · rw [List.getElem?_append_left hj, h.low j hj]
    · rw [List.getElem?_append_right hj, List.getElem?_drop]; congr 1; omega
  refine ⟨_, he, fun b hb a ha => ?_⟩
  obtain ⟨j, hj⟩ := List.mem_iff_getElem?.1 hb
  rw [List.getElem?_drop] at hj
  exact (h.own _ b (by omega) hj a ha).mono fun k hk => by simp only [List.length_drop]; have := h.len; omega
theorem Gw.app {H G L : Heap} (h : Gw H G) (k : ∀ b, some b ∈ L → ∀ a ∈ b.flat, Ref (fun j => H.length ≤ j ∧ j < G.length + L.length) a) : Gw H (hap G L) := by
  have hl : (hap G L).length = G.length + L.length := by simp [hap]
  refine ⟨by rw [hl]; have := h.len; omega, fun id hi => ?_, fun id b hi hb a ha => ?_⟩
  · unfold hap; rw [List.getElem?_append_left (by have := h.len; omega), h.low id hi]
  · rw [hl]
    unfold hap at hb
    rcases Nat.lt_or_ge id G.length with hj | hj
    · rw [List.getElem?_append_left hj] at hb
      exact (h.own id b hi hb a ha).mono fun j hj => by omega
    · rw [List.getElem?_append_right hj] at hb
      exact k b (List.mem_of_getElem? hb) a ha
theorem Gw.cl {H G L : Heap} (h : Gw H G) (k : ∀ b, some b ∈ L → ∀ a ∈ b.flat, Cl a) : Gw H (hap G L) := h.app fun b hb a ha => (k b hb a ha).ref
theorem Gw.set {H G : Heap} (h : Gw H G) {β : Nat} (hβ : H.length ≤ β) {b' : Blk} (hb' : ∀ a ∈ b'.flat, Ref (fun j => H.length ≤ j ∧ j < G.length) a) : Gw H (G.set β (some b')) := by
  refine ⟨by rw [List.length_set]; exact h.len, fun id hi => ?_, fun id b hi hb a ha => ?_⟩
  · rw [List.getElem?_set, if_neg (by omega)]; exact h.low id hi
  · rw [List.length_set]
    rw [List.getElem?_set] at hb
    split at hb
    · split at hb
      · cases hb; exact hb' a ha
      · cases hb
    · exact h.own id b hi hb a ha
theorem NatT.low {n0 n1 : Nat} {A : Heap} {a : AV} (h : n0 ≤ n1) (t : NatT n1 A a) : NatT n0 A a := by
  rcases t with rfl | ⟨id, r, rfl, h0, h1, h2⟩
  · exact .inl rfl
  · exact .inr ⟨id, r, rfl, by omega, h1, h2⟩
theorem IntT.low {n0 n1 : Nat} {A : Heap} {a : AV} (h : n0 ≤ n1) (t : IntT n1 A a) : IntT n0 A a := by
  obtain ⟨b, m, rfl, hm⟩ := t
  exact ⟨b, m, rfl, hm.low h⟩
theorem K1.low {n0 n1 : Nat} {A : Heap} {r : Blk} (h : n0 ≤ n1) (t : K1 n1 A r) : K1 n0 A r := ⟨t.wd, fun x hx => (t.el x hx).low h⟩
theorem VecT.low {n0 n1 : Nat} {A : Heap} {a : AV} (h : n0 ≤ n1) (t : VecT n1 A a) : VecT n0 A a := by
  rcases t with rfl | ⟨id, off, l, oc, r, rfl, h0, h1, h2, h3⟩
  · exact .inl rfl
  · exact .inr ⟨id, off, l, oc, r, rfl, by omega, h1, h2.low h, h3⟩
structure ElT (T : Nat → Heap → AV → Prop) (wd : Nat) : Prop where
  app : ∀ {n0 A a} L, T n0 A a → T n0 (hap A L) a
  low : ∀ {n0 n1 A a}, n0 ≤ n1 → T n1 A a → T n0 A a
  set : ∀ {n0 A a β xs x}, A[β]? = some (some ⟨wd, xs⟩) → (∀ y ∈ xs, T n0 A y) → T n0 A a → T n0 (A.set β (some ⟨wd, xs ++ [x]⟩)) a
  cells : ∀ {n0 A a}, T n0 A a → ∀ c ∈ a.cells, Ref (fun j => n0 ≤ j ∧ j < A.length) c
  fit : ∀ {n0 A a}, T n0 A a → a.fit = true ∧ a.cells.length = wd
theorem Free.app {G L : Heap} {β : Nat} (h : Free G β) (hL : ∀ b, some b ∈ L → ∀ a ∈ b.flat, Ref (· ≠ β) a) : Free (hap G L) β := fun j b hj hb a ha => by
  unfold hap at hb
  rcases Nat.lt_or_ge j G.length with hi | hi
  · rw [List.getElem?_append_left hi] at hb
    exact h j b hj hb a ha
  · rw [List.getElem?_append_right hi] at hb
    exact hL b (List.mem_of_getElem? hb) a ha
theorem Free.own {G L : Heap} {β : Nat} (h : Free G β) (hβ : β < G.length) (hL : Own G.length L) : Free (hap G L) β := h.app fun b hb a ha => (hL b hb a ha).mono fun j hj => by show j ≠ β; omega
theorem Free.set {G : Heap} {β γ : Nat} (h : Free G β) {b' : Blk} (hb' : ∀ a ∈ b'.flat, Ref (· ≠ β) a) : Free (G.set γ (some b')) β := fun j b hj hb a ha => by
  rw [List.getElem?_set] at hb
  split at hb
  · split at hb
    · cases hb; exact hb' a ha
    · cases hb
  · exact h j b hj hb a ha
theorem Free.last {G : Heap} (h : a0N G) (x : Option Blk) : Free (hap G [x]) G.length := fun j b hj hb a ha => by
  unfold hap at hb
  rcases Nat.lt_or_ge j G.length with hi | hi
  · rw [List.getElem?_append_left hi] at hb
    exact (h j b hb a ha).mono fun k hk => by show k ≠ G.length; have : k < G.length := hk; omega
  · rw [List.getElem?_eq_none (by simp; omega)] at hb
    cases hb
end Go.Abs
namespace Go.Abs
theorem b5a {id : Nat} {x : AV} (h : ∀ c ∈ x.cells, Ref (· ≠ id) c) : nref id x = true := by
  cases x with
  | agg cs => exact a0d.2 (.agg _ h)
  | mo l => exact a0d.2 (.mo l)
  | io a b l => exact a0d.2 (.io a b l)
  | _ => exact a0d.2 (h _ (by simp [AV.cells]))
theorem b5U {id : Nat} {b : Blk} (h : ∀ a ∈ b.flat, Ref (· ≠ id) a) : a5w id b = b := by
  unfold a5w
  have : b.xs.map (a4p id) = b.xs := by
    rw [List.map_congr_left (g := fun c => c) fun c hc => by unfold a4p; rw [if_pos (b5a fun a ha => h a (List.mem_flatMap.2 ⟨c, hc, ha⟩))]]
    simp
  rw [this]
theorem b9N {H : Heap} (hH : a0N H) {id : Nat} (hid : H.length ≤ id) : a0K id H = H := by
  unfold a0K
  apply List.ext_getElem?
  intro j
  rw [List.getElem?_map]
  cases hj : H[j]? with
  | none => rfl
  | some o =>
    cases o with
    | none => rfl
    | some b =>
      simp only [Option.map_some]
      rw [b5U fun a ha => (hH j b hj a ha).mono fun k hk => by show k ≠ id; have : k < H.length := hk; omega]
theorem b9P {H L : Heap} (hH : a0N H) {id : Nat} (hid : H.length ≤ id) : a0K id (hap H L) = hap H (a0K id L) := by
  unfold hap
  have : a0K id (H ++ L) = a0K id H ++ a0K id L := by unfold a0K; rw [List.map_append]
  rw [this, b9N hH hid]
theorem b9O (id : Nat) : a0K id [] = [] := rfl
theorem b7g (id : Nat) (b : Blk) (L : Heap) : a0K id (some b :: L) = some (a5w id b) :: a0K id L := rfl
theorem c1l (id wd : Nat) (xs : List AV) : a5w id ⟨wd, xs⟩ = ⟨wd, xs.map (a4p id)⟩ := rfl
theorem b8I {id : Nat} {x : AV} (h : nref id x = true) : a4p id x = x := by unfold a4p; rw [if_pos h]
theorem c1m (id off len : Nat) (oc : Option Nat) : a4p id (.mu id off len oc) = .top := by
  unfold a4p
  rw [if_neg]
  intro h
  cases a0d.1 h with | mu _ _ _ _ h => exact h rfl
theorem c7s {H L : Heap} (hH : a0N H) {i n0 wd bytes len : Nat} {env : Env} {y : AV} {xs ys : List AV} (hl : L[i]? = some (some ⟨wd, xs⟩)) (hlen : len = xs.length) (hn : n0 ≤ lid H i) (hy : a0t (hap H L) wd false y = some ys)
    (hys : ∀ a ∈ ys.flatMap AV.cells, nref (lid H i) a = true) (hxs : ∀ x ∈ xs, nref (lid H i) x = true) (h1 : (len + ys.length) * bytes ≤ 140737488355328) (h2 : len + ys.length ≤ 9223372036854775807) :
    appV n0 wd bytes false (.mu (lid H i) 0 len none) y env (hap H L) = some (.mu (lid H i) 0 (len + ys.length) none, scrub (lid H i) env, hap H ((a0K (lid H i) L).set i (some ⟨wd, xs ++ ys⟩))) := by
  subst hlen
  have hys' : (ys.flatMap AV.cells).all (nref (lid H i)) = true := List.all_eq_true.2 hys
  have hxc : (xs.flatMap AV.cells).all (nref (lid H i)) = true := List.all_eq_true.2 fun a ha => by
    obtain ⟨x, hx, ha⟩ := List.mem_flatMap.1 ha
    exact a8R (hxs x hx) a ha
  have hxs' : xs.all (nref (lid H i)) = true := List.all_eq_true.2 hxs
  simp only [appV, hy, Option.bind_some, a1y, hl, Option.join_some, a4R]
  rw [if_neg (by simp)]
  by_cases hf : free (hap H L) (lid H i) = true
  · rw [if_pos ⟨trivial, trivial, Nat.le_refl _, hn, hf, hys', hxc, h1, h2⟩]
    have hs : L.set i (some ⟨wd, xs ++ ys⟩) = (a0K (lid H i) L).set i (some ⟨wd, xs ++ ys⟩) := by
      apply List.ext_getElem?
      intro j
      rw [List.getElem?_set, List.getElem?_set]
      by_cases e : i = j
      · subst e; simp [a0K]
      · rw [if_neg e, if_neg e]
        unfold a0K
        rw [List.getElem?_map]
        cases hj : L[j]? with
        | none => rfl
        | some o =>
          cases o with
          | none => rfl
          | some b =>
            simp only [Option.map_some]
            rw [b5U fun a ha => b5p.1 hf (lid H j) b (by simp only [lid]; omega) (by unfold hap lid; rw [List.getElem?_append_right (by omega), Nat.add_sub_cancel_left]; exact hj) a ha]
    simp [a0G, hs]
  · rw [if_neg (fun h => hf h.2.2.2.2.1), if_neg (by simp), if_pos ⟨trivial, trivial, Nat.le_refl _, hn, hys', hxs', h1, h2⟩]
    rw [b9P hH (a8y H i), a4R]
    simp [a0G]
end Go.Abs
namespace Go.Abs
abbrev LB : Nat := 4294967296
def val : List Nat → Nat
  | [] => 0
  | d :: l => d + LB * val l
def Lim (l : List Nat) : Prop := ∀ d ∈ l, d < LB
/-- The limbs of a number, no nought at the end. -/
def limbs (n : Nat) : List Nat := if h : n = 0 then [] else n % LB :: limbs (n / LB)
termination_by n
decreasing_by exact Nat.div_lt_self (by omega) (by decide)
theorem a0v : limbs 0 = [] := by rw [limbs]; simp
theorem a3z {n : Nat} (h : n ≠ 0) : limbs n = n % LB :: limbs (n / LB) := by rw [limbs]; simp [h]
theorem a0H (n : Nat) : val (limbs n) = n := by
  induction n using Nat.strongRecOn with
  | _ n ih =>
    by_cases h : n = 0
    · subst h; rw [a0v]; rfl
    · rw [a3z h, val, ih (n / LB) (Nat.div_lt_self (by omega) (by decide))]
      exact Nat.mod_add_div n LB
theorem a1Y (n : Nat) : Lim (limbs n) := by
  induction n using Nat.strongRecOn with
  | _ n ih =>
    by_cases h : n = 0
    · subst h; rw [a0v]; intro d hd; simp at hd
    · rw [a3z h]
      intro d hd
      rcases List.mem_cons.1 hd with rfl | hd
      · exact Nat.mod_lt _ (by decide)
      · exact ih (n / LB) (Nat.div_lt_self (by omega) (by decide)) d hd
theorem c1V : Lim [] := fun d hd => by simp at hd
theorem b1o {d : Nat} {l : List Nat} : Lim (d :: l) ↔ d < LB ∧ Lim l := by
  constructor
  · intro h; exact ⟨h d (by simp), fun e he => h e (by simp [he])⟩
  · rintro ⟨h1, h2⟩ e he
    rcases List.mem_cons.1 he with rfl | he
    · exact h1
    · exact h2 e he
theorem a9g {a b : List Nat} : Lim (a ++ b) ↔ Lim a ∧ Lim b := by
  constructor
  · intro h; exact ⟨fun d hd => h d (by simp [hd]), fun d hd => h d (by simp [hd])⟩
  · rintro ⟨h1, h2⟩ d hd
    rcases List.mem_append.1 hd with hd | hd
    · exact h1 d hd
    · exact h2 d hd
theorem Lim.take {l : List Nat} (h : Lim l) (n : Nat) : Lim (l.take n) := fun d hd => h d (List.mem_of_mem_take hd)
theorem Lim.drop {l : List Nat} (h : Lim l) (n : Nat) : Lim (l.drop n) := fun d hd => h d (List.mem_of_mem_drop hd)
theorem a6X (a b : List Nat) : val (a ++ b) = val a + LB ^ a.length * val b := by
  induction a with
  | nil => simp [val]
  | cons d a ih =>
    simp only [List.cons_append, val, ih, List.length_cons]
    rw [Nat.mul_add, ← Nat.mul_assoc, ← Nat.pow_succ', Nat.add_assoc]
theorem a8l {l : List Nat} (h : Lim l) : val l < LB ^ l.length := by
  induction l with
  | nil => simp [val]
  | cons d l ih =>
    have h' := b1o.1 h
    have := ih h'.2
    simp only [val, List.length_cons, Nat.pow_succ']
    have h1 : LB * (val l + 1) ≤ LB * LB ^ l.length := Nat.mul_le_mul_left _ this
    rw [Nat.mul_add, Nat.mul_one] at h1
    have := h'.1
    omega
theorem b4R (n : Nat) : val (List.replicate n 0) = 0 := by
  induction n with
  | zero => rfl
  | succ n ih => simp [List.replicate_succ, val, ih]
/-- A row without a nought at its end is the limbs of its number. -/
theorem a8x : ∀ {l : List Nat}, Lim l → (l.getLast?).getD 1 ≠ 0 → limbs (val l) = l
  | [], _, _ => a0v
  | d :: l, h, hl => by
    obtain ⟨h1, h2⟩ := b1o.1 h
    have hl' : (l.getLast?).getD 1 ≠ 0 := by
      cases l with
      | nil => simp
      | cons e l => simpa [List.getLast?_cons_cons] using hl
    have hne : val (d :: l) ≠ 0 := by
      intro h0
      simp only [val] at h0
      have hd : d = 0 := by omega
      have hv : val l = 0 := by
        have : LB * val l = 0 := by omega
        rcases Nat.mul_eq_zero.1 this with h | h
        · exact absurd h (by decide)
        · exact h
      have := a8x h2 hl'
      rw [hv, a0v] at this
      subst this
      subst hd
      simp at hl
    rw [a3z hne]
    simp only [val]
    rw [Nat.add_mul_mod_self_left, Nat.mod_eq_of_lt h1, Nat.add_mul_div_left _ _ (by decide), Nat.div_eq_of_lt h1, Nat.zero_add, a8x h2 hl']
theorem c0s (n : Nat) : ((limbs n).getLast?).getD 1 ≠ 0 := by
  induction n using Nat.strongRecOn with
  | _ n ih =>
    by_cases h : n = 0
    · subst h; rw [a0v]; simp
    · rw [a3z h]
      have := ih (n / LB) (Nat.div_lt_self (by omega) (by decide))
      cases hq : limbs (n / LB) with
      | nil =>
        have h0 : n / LB = 0 := by
          have := a0H (n / LB)
          rw [hq] at this
          exact this.symm
        have : n % LB = n := Nat.mod_eq_of_lt (by
          rcases Nat.lt_or_ge n LB with h' | h'
          · exact h'
          · have := Nat.div_pos h' (by decide); omega)
        simp [this, h]
      | cons e l =>
        rw [hq] at this
        simpa [List.getLast?_cons_cons] using this
theorem a1I {n k : Nat} (h : n < LB ^ k) : (limbs n).length ≤ k := by
  induction k generalizing n with
  | zero =>
    have : n = 0 := by simpa using h
    subst this; rw [a0v]; simp
  | succ k ih =>
    by_cases h0 : n = 0
    · subst h0; rw [a0v]; simp
    · rw [a3z h0, List.length_cons]
      have : n / LB < LB ^ k := by
        rw [Nat.div_lt_iff_lt_mul (by decide)]
        rwa [Nat.pow_succ] at h
      have := ih this
      omega
theorem b6r {n : Nat} (h : limbs n ≠ []) : LB ^ ((limbs n).length - 1) ≤ n := by
  induction n using Nat.strongRecOn with
  | _ n ih =>
    by_cases h0 : n = 0
    · subst h0; rw [a0v] at h; simp at h
    · rw [a3z h0, List.length_cons, Nat.add_sub_cancel]
      by_cases hq : limbs (n / LB) = []
      · rw [hq]; simp; omega
      · have := ih (n / LB) (Nat.div_lt_self (by omega) (by decide)) hq
        have hl : 0 < (limbs (n / LB)).length := List.length_pos_iff.2 hq
        have h1 : LB ^ (limbs (n / LB)).length = LB ^ ((limbs (n / LB)).length - 1) * LB := by
          rw [← Nat.pow_succ]; congr 1; omega
        rw [h1]
        exact Nat.le_trans (Nat.mul_le_mul_right _ this) (Nat.div_mul_le_self n LB)
theorem c0P (l : List Nat) : val (l ++ [0]) = val l := by rw [a6X]; simp [val]
theorem a8j (l : List Nat) (d : Nat) : val (l ++ [d]) = val l + LB ^ l.length * d := by rw [a6X]; simp [val]
theorem b4Q {l : List Nat} {i : Nat} (h : i < l.length) : val (l.take (i + 1)) = val (l.take i) + LB ^ i * l[i] := by
  rw [List.take_succ_eq_append_getElem h, a8j, List.length_take, Nat.min_eq_left (by omega)]
theorem b3s {l : List Nat} (h : Lim l) (i : Nat) : l.getD i 0 < LB := by
  rw [List.getD_eq_getElem?_getD]
  rcases Nat.lt_or_ge i l.length with hi | hi
  · rw [List.getElem?_eq_getElem hi, Option.getD_some]; exact h _ (List.getElem_mem hi)
  · rw [List.getElem?_eq_none hi]; decide
/-- Up to a place; behind the end nothing comes. -/
theorem a0S (l : List Nat) (i : Nat) : val (l.take (i + 1)) = val (l.take i) + LB ^ i * l.getD i 0 := by
  rcases Nat.lt_or_ge i l.length with h | h
  · rw [b4Q h, List.getD_eq_getElem?_getD, List.getElem?_eq_getElem h, Option.getD_some]
  · rw [List.take_of_length_le (by omega), List.take_of_length_le h, List.getD_eq_getElem?_getD, List.getElem?_eq_none h]; simp
/-- Which of two is greater is told from the top. -/
theorem a8k {a b : List Nat} {i : Nat} (ha : Lim a) (hb : Lim b) (h : a.drop (i + 1) = b.drop (i + 1)) (hi : i < a.length) (hi' : i < b.length) (hl : a.length = b.length) (hlt : a.getD i 0 < b.getD i 0) : val a < val b := by
  have e1 : a = a.take (i + 1) ++ a.drop (i + 1) := (List.take_append_drop _ _).symm
  have e2 : b = b.take (i + 1) ++ b.drop (i + 1) := (List.take_append_drop _ _).symm
  rw [e1, e2, a6X, a6X, h, a0S, a0S]
  have l1 : (a.take (i + 1)).length = i + 1 := by rw [List.length_take]; omega
  have l2 : (b.take (i + 1)).length = i + 1 := by rw [List.length_take]; omega
  rw [l1, l2]
  have h1 := a8l (ha.take i)
  rw [List.length_take, Nat.min_eq_left (by omega)] at h1
  have h2 : LB ^ i * (a.getD i 0 + 1) ≤ LB ^ i * b.getD i 0 := Nat.mul_le_mul_left _ hlt
  rw [Nat.mul_add] at h2
  omega
def blen (n : Nat) : Nat := if n = 0 then 0 else Nat.log2 n + 1
theorem c2N (n : Nat) : n < 2 ^ blen n := by
  unfold blen
  split
  · rename_i h; subst h; decide
  · exact Nat.lt_log2_self
theorem b8u {n : Nat} (h : n ≠ 0) : 2 ^ (blen n - 1) ≤ n := by
  unfold blen
  rw [if_neg h, Nat.add_sub_cancel]
  exact Nat.log2_self_le h
theorem c7k {n k : Nat} (h1 : n < 2 ^ k) (h2 : k = 0 ∨ 2 ^ (k - 1) ≤ n) : blen n = k := by
  by_cases h0 : n = 0
  · subst h0
    rcases h2 with h2 | h2
    · rw [h2]; rfl
    · have := Nat.pow_pos (n := k - 1) (show 0 < 2 by decide); omega
  · have a := c2N n
    have b := b8u h0
    have c : 0 < blen n := by unfold blen; rw [if_neg h0]; omega
    have d : blen n - 1 < k := (Nat.pow_lt_pow_iff_right (by decide)).1 (Nat.lt_of_le_of_lt b h1)
    have e : k - 1 < blen n := by
      rcases h2 with h2 | h2
      · omega
      · exact (Nat.pow_lt_pow_iff_right (by decide)).1 (Nat.lt_of_le_of_lt h2 a)
    omega
/-- The lowest k bits do not count where others stand above them. -/
theorem b9h {h k r : Nat} (hh : h ≠ 0) (hr : r < 2 ^ k) : blen (r + 2 ^ k * h) = k + blen h := by
  have a := c2N h
  have b := b8u hh
  have c : 0 < blen h := by unfold blen; rw [if_neg hh]; omega
  refine c7k ?_ (.inr ?_)
  · rw [Nat.pow_add]
    have : 2 ^ k * (h + 1) ≤ 2 ^ k * 2 ^ blen h := Nat.mul_le_mul_left _ a
    rw [Nat.mul_add] at this
    omega
  · rw [show k + blen h - 1 = k + (blen h - 1) by omega, Nat.pow_add]
    have : 2 ^ k * 2 ^ (blen h - 1) ≤ 2 ^ k * h := Nat.mul_le_mul_left _ b
    omega
theorem b9g {n k : Nat} (h : 2 ^ k ≤ n) : blen n = k + blen (n / 2 ^ k) := by
  have hp : 0 < 2 ^ k := Nat.pow_pos (by decide)
  have h0 : n / 2 ^ k ≠ 0 := by
    have := Nat.div_pos h hp; omega
  have := b9h (r := n % 2 ^ k) h0 (Nat.mod_lt _ hp)
  rwa [Nat.mod_add_div] at this
theorem c5n (i : Nat) : LB ^ i = 2 ^ (32 * i) := by rw [Nat.pow_mul]
theorem c0H {l : List Nat} {d : Nat} (hl : Lim l) (hd : d ≠ 0) : blen (val (l ++ [d])) = 32 * l.length + blen d := by
  rw [a8j, c5n]
  exact b9h hd (by rw [← c5n]; exact a8l hl)
theorem a5h {l : List Nat} (h : Lim l) : (limbs (val l)).length ≤ l.length := a1I (a8l h)
/-- A row that may be handed round. -/
structure Nt (l : List Nat) : Prop where
  lim : Lim l
  len : l.length ≤ 17592186044416
theorem Nt.limbs {l : List Nat} (h : Nt l) : Nt (limbs (val l)) := ⟨a1Y _, Nat.le_trans (a5h h.lim) h.len⟩
theorem b7f (x : List Nat) (k d : Nat) : (x ++ List.replicate (k + 1) 0).set x.length d = (x ++ [d]) ++ List.replicate k 0 := by
  rw [List.set_append_right _ _ (Nat.le_refl _), Nat.sub_self, List.replicate_succ, List.set_cons_zero]; simp
/-- One place of a sum. -/
theorem c3k {vd pa pb B c x y i : Nat} (h : vd + B * c = pa + pb) : (vd + B * ((c + x + y) % LB)) + (B * LB) * ((c + x + y) / LB) = (pa + B * x) + (pb + B * y) := by
  have e : (c + x + y) % LB + LB * ((c + x + y) / LB) = c + x + y := Nat.mod_add_div _ _
  have e2 : B * ((c + x + y) % LB) + (B * LB) * ((c + x + y) / LB) = B * (c + x + y) := by rw [Nat.mul_assoc, ← Nat.mul_add, e]
  have e3 : B * (c + x + y) = B * c + B * x + B * y := by rw [Nat.mul_add, Nat.mul_add]
  omega
theorem a5Y {x : List Nat} {d : Nat} (h : Lim x) (hd : d < LB) : Lim (x ++ [d]) := a9g.2 ⟨h, by intro e he; simp at he; omega⟩
theorem c5B {w : List Nat} {k d : Nat} (h : k < w.length) : val (w.set k d) + LB ^ k * w.getD k 0 = val w + LB ^ k * d := by
  induction w generalizing k with
  | nil => simp at h
  | cons e w ih =>
    cases k with
    | zero => simp only [List.set_cons_zero, val, Nat.pow_zero, Nat.one_mul, List.getD_cons_zero]; omega
    | succ k =>
      simp only [List.set_cons_succ, val, List.getD_cons_succ, Nat.pow_succ']
      have := ih (k := k) (by simpa using h)
      have e1 : LB * (val (w.set k d) + LB ^ k * w.getD k 0) = LB * (val w + LB ^ k * d) := by rw [this]
      rw [Nat.mul_add, Nat.mul_add, ← Nat.mul_assoc, ← Nat.mul_assoc] at e1
      omega
theorem c6o {w : List Nat} {k d : Nat} (h : Lim w) (hd : d < LB) : Lim (w.set k d) := by
  intro e he
  rcases List.mem_or_eq_of_mem_set he with h' | h'
  · exact h e h'
  · rw [h']; exact hd
/-- One place of a product. -/
theorem c3V {vw vx A B C c x y q vb vs t : Nat} (hC : C = A * B) (h : vw + C * c = vx + A * (x * vb)) (hs : vs + C * q = vw + C * (t % LB)) (ht : t = c + x * y + q) :
    vs + (C * LB) * (t / LB) = vx + A * (x * (vb + B * y)) := by
  have e : t % LB + LB * (t / LB) = t := Nat.mod_add_div _ _
  have e1 : C * (t % LB) + (C * LB) * (t / LB) = C * t := by rw [Nat.mul_assoc, ← Nat.mul_add, e]
  have e2 : C * t = C * c + C * (x * y) + C * q := by rw [ht, Nat.mul_add, Nat.mul_add]
  have e3 : A * (x * (vb + B * y)) = A * (x * vb) + C * (x * y) := by
    rw [hC, Nat.mul_add, Nat.mul_add, Nat.mul_assoc A B, Nat.mul_left_comm B x y]
  omega
theorem c3W {c x y q : Nat} (hc : c < LB) (hx : x < LB) (hy : y < LB) (hq : q < LB) : c + x * y + q < LB * LB := by
  have : x * y ≤ (LB - 1) * (LB - 1) := Nat.mul_le_mul (by omega) (by omega)
  have e : (LB - 1) * (LB - 1) + (LB - 1) + (LB - 1) < LB * LB := by decide
  omega
theorem c0X {l : List Nat} {i : Nat} (h : i < l.length) : l.take (i + 1) = l.take i ++ [l.getD i 0] := by
  rw [List.take_succ_eq_append_getElem h, List.getD_eq_getElem?_getD, List.getElem?_eq_getElem h, Option.getD_some]
end Go.Abs
namespace Go.Abs
def u32s (l : List Nat) : List AV := l.map fun n : Nat => .int .u32 (n : Int)
def natV (l : List Nat) : AV := .sl 1 (u32s l)
theorem a1i (l : List Nat) : (u32s l).length = l.length := by simp [u32s]
theorem c0T (d : Nat) (l : List Nat) : u32s (d :: l) = .int .u32 (d : Int) :: u32s l := rfl
theorem b5O (l : List Nat) (n : Nat) : (u32s l).take n = u32s (l.take n) := by simp [u32s, List.map_take]
theorem c3h (l : List Nat) (i d : Nat) : (u32s l).set i (.int .u32 (d : Int)) = u32s (l.set i d) := by simp [u32s, List.map_set]
theorem b5P {l : List Nat} {i : Nat} (h : i < l.length) : (u32s l).getD i .top = .int .u32 (l.getD i 0 : Nat) := by
  simp [u32s, h]
theorem c0S (l : List Nat) : (u32s l).flatMap AV.cells = u32s l := by
  induction l with
  | nil => rfl
  | cons d l ih => rw [c0T, List.flatMap_cons, ih]; rfl
theorem c3i (n : Nat) : List.replicate n (AV.int .u32 0) = u32s (List.replicate n 0) := by simp [u32s]
theorem c0U {l : List Nat} {a : AV} (h : a ∈ u32s l) : Cl a := by
  obtain ⟨n, _, rfl⟩ := List.mem_map.1 h; exact .int _ _
theorem b8B {l : List Nat} {a : AV} (h : a ∈ (u32s l).flatMap AV.cells) : Cl a := by rw [c0S] at h; exact c0U h
theorem a4f (l : List Nat) : ∀ a ∈ (Blk.mk 1 (u32s l)).flat, Cl a := fun a h => b8B h
theorem a4d (l : List Nat) : Cl (natV l) := .sl 1 _ fun c h => b8B h
theorem c0h (l : List Nat) : (natV l).cells = [natV l] := rfl
theorem c3T (l : List Nat) : (natV l).fit = true := rfl
theorem c1G (id : Nat) (l : List Nat) : nref id (natV l) = true := a0V (a4d l)
theorem c3U (l : List Nat) : clb (natV l) = true := b0O (a4d l)
theorem c3S (id : Nat) (b : Blk) (l : List Nat) : frz id b (natV l) = natV l := b0M (a4d l)
theorem c1H (id : Nat) (b : Blk) (l : List Nat) : (u32s l).map (frz id b) = u32s l := by
  rw [List.map_congr_left (g := fun x => x) fun a h => b0M (c0U h)]; simp
theorem a4U (H : Heap) (l : List Nat) : lenV H (natV l) = some (.int .i64 l.length) := by simp [natV, b7V, a1i]
theorem b1k (H : Heap) (l : List Nat) : a0t H 1 false (natV l) = some (u32s l) := a4o H 1 _
theorem a1r (H : Heap) (l : List Nat) (k : IntKind) (i : Nat) (h : i < l.length) : idxV H 1 (natV l) (.int k i) = some (.ro (.int .u32 (l.getD i 0 : Nat)) 0) := by
  rw [natV, c2i _ _ _ _ _ (by omega) (by rw [a1i]; omega)]
  rw [Int.toNat_natCast, b5P h]
theorem c3R (H : Heap) (l : List Nat) (k : IntKind) (n : Nat) (h : n ≤ l.length) : slcV H 1 (natV l) none (some (.int k n)) none = some (natV (l.take n)) := by
  simp only [natV, slcV, a3e, Option.bind_some, a1i]
  rw [if_pos ⟨trivial, by omega, by omega, by omega⟩]
  simp [b5O]
theorem c1I (H L : Heap) (wd i off len : Nat) (oc : Option Nat) (k : IntKind) (j : Nat) {b : Blk} (h : L[i]? = some (some b)) (hw : b.wd = wd) (hj : j < len) :
    idxV (hap H L) wd (.mu (lid H i) off len oc) (.int k j) = some (.loc (lid H i) (off + j) 0) := by
  rw [c2j _ _ _ _ _ _ _ _ (by omega) (by omega), a1y, h]; simp [hw]
theorem b8P (H L : Heap) (i k : Nat) {b : Blk} (h : L[i]? = some (some b)) (hk : k < b.xs.length) : atV (hap H L) (.loc (lid H i) k 0) = some (b.xs.getD k .top).cells := by
  rw [c2V, a1y, h]; simp [hk]
theorem a4K {n : Int} (h0 : 0 ≤ n) (h1 : n < 4294967296) : IntKind.wrap .u32 n = n := by
  simp [IntKind.wrap, IntKind.bits, IntKind.signed]; omega
theorem a1p {n : Int} (h0 : 0 ≤ n) (h1 : n < 18446744073709551616) : IntKind.wrap .u64 n = n := by
  simp [IntKind.wrap, IntKind.bits, IntKind.signed]; omega
theorem a0b {n : Int} (h0 : -9223372036854775808 ≤ n) (h1 : n < 9223372036854775808) : IntKind.wrap .i64 n = n := by
  simp [IntKind.wrap, IntKind.bits, IntKind.signed]; omega
theorem a5X (n : Nat) : IntKind.wrap .u32 (n : Int) = ((n % LB : Nat) : Int) := by
  simp [IntKind.wrap, IntKind.bits, IntKind.signed]
theorem a5W (n : Int) : IntKind.wrap .u64 n = n % 18446744073709551616 := by
  simp [IntKind.wrap, IntKind.bits, IntKind.signed]
theorem b8w (n0 : Nat) (env : Env) (H L : Heap) (l : List Nat) (h : l.length ≤ 17592186044416) :
    appV n0 1 4 false .nil (natV l) env (hap H L) = some (.mu (lid H L.length) 0 l.length none, env, hap H (L ++ [some ⟨1, u32s l⟩])) := by
  have := b9o n0 env H L 1 4 false (natV l) (u32s l) (b1k _ l) (by decide) (by rw [a1i]; omega) (by rw [a1i]; omega)
  rwa [a1i] at this
theorem a9j (H : Heap) (i : Nat) (l : List Nat) (oc : Option Nat) : frz (lid H i) ⟨1, u32s l⟩ (.mu (lid H i) 0 l.length oc) = natV l := by
  rw [b3t _ _ _ _ _ (by rw [a1i])]; rfl
/-- The rules for numbers. -/
def EN := And.intro @a4U (And.intro @a9j (And.intro @c1H (And.intro @c1G (And.intro @c3U (And.intro @c0h (And.intro @c3T (And.intro @c3S (And.intro @b1k @a1i))))))))
theorem b1W (H : Heap) (X : List AV) (wd len : Nat) (oc : Option Nat) (k : IntKind) (j : Nat) (h : j < len) : idxV (hap H [some ⟨wd, X⟩]) wd (.mu (lid H 0) 0 len oc) (.int k j) = some (.loc (lid H 0) j 0) := by
  rw [c1I H [some ⟨wd, X⟩] wd 0 0 len oc k j rfl rfl h, Nat.zero_add]
theorem c7P (H : Heap) (x : List Nat) (j : Nat) (h : j < x.length) : atV (hap H [some ⟨1, u32s x⟩]) (.loc (lid H 0) j 0) = some [.int .u32 (x.getD j 0 : Nat)] := by
  rw [b8P H [some ⟨1, u32s x⟩] 0 j rfl (by simpa [a1i] using h)]
  simp only [b5P h, AV.cells]
theorem b6a (H : Heap) (env : Env) (x : List Nat) (j d : Nat) (h : j < x.length) : a8p 1 (.loc (lid H 0) j 0) (.int .u32 (d : Int)) env (hap H [some ⟨1, u32s x⟩]) = some (.top, env, hap H [some ⟨1, u32s (x.set j d)⟩]) := by
  rw [a6Z env H [some ⟨1, u32s x⟩] 1 0 j 0 _ rfl (by simpa [a1i] using h) rfl rfl (Nat.le_refl 1)]
  simp only [a8m, c3h, List.set_cons_zero]
theorem b1m (env : Env) (H L : Heap) (k k' : IntKind) (n : Nat) (h : n ≤ 35184372088832) : c0i 1 4 (.int .u32 0) (.int k n) (.int k' n) env (hap H L) = some (.mu (lid H L.length) 0 n (some n), env, hap H (L ++ [some ⟨1, u32s (List.replicate n 0)⟩])) := by
  rw [a8q env H L 1 4 _ k k' n n (by decide) (Nat.le_refl _) (by omega) (by omega), c3i]
theorem c7E (t : Nat) : Int.fdiv (t : Int) (2 ^ min (Int.toNat 32) IntKind.u64.bits) = ((t / LB : Nat) : Int) := by
  rw [show (2 : Int) ^ min (Int.toNat 32) IntKind.u64.bits = (LB : Int) by decide, Int.fdiv_eq_ediv_of_nonneg _ (by decide)]; rfl
def E1 := And.intro EV (And.intro EVC EN)
end Go.Abs
namespace Go.Abs
def sgn (neg : Bool) (n : Nat) : Int := if neg then -(n : Int) else n
/-- A number aXs it is handed round: a sign, limbs. -/
structure ZI where
  neg : Bool
  mag : List Nat
def ZI.av (x : ZI) : AV := .agg [.bool x.neg, natV x.mag]
def ZI.z (x : ZI) : Int := sgn x.neg (val x.mag)
/-- The number in its one form. -/
def canZ (z : Int) : ZI := ⟨decide (z < 0), limbs z.natAbs⟩
def Z (z : Int) : AV := .agg [.bool (decide (z < 0)), natV (limbs z.natAbs)]
theorem c2L (z : Int) : (canZ z).av = Z z := rfl
theorem c5s (z : Int) : (canZ z).z = z := by
  unfold canZ ZI.z sgn
  simp only [a0H, decide_eq_true_eq]
  split <;> omega
theorem c8w (neg : Bool) (n : Nat) : .agg [.bool (neg && decide (0 < n)), natV (limbs n)] = Z (sgn neg n) := by
  unfold Z sgn
  cases neg
  · simp <;> omega
  · rcases Nat.eq_zero_or_pos n with h | h
    · subst h; simp
    · simp [h]
theorem b8F (neg : Bool) : sgn neg 0 = 0 := by cases neg <;> rfl
theorem b7e (neg : Bool) (n : Nat) : (sgn neg n).natAbs = n := by cases neg <;> simp [sgn]
theorem Z_cl (z : Int) : Cl (Z z) := .agg _ (by intro c hc; simp at hc; rcases hc with rfl | rfl; exact .bool _; exact a4d _)
theorem ZI.cl (x : ZI) : Cl x.av := .agg _ (by intro c hc; simp at hc; rcases hc with rfl | rfl; exact .bool _; exact a4d _)
theorem c5w : Z 0 = .agg [.bool false, natV []] := by unfold Z; simp [a0v]
theorem le_zero : Le (.agg [.bool false, .nil]) (Z 0) := by rw [c5w]; exact Le.agg2 (Le.refl _) (Le.nil 1 (by decide))
/-- The number's limbs. -/
structure Zok (k : Nat) (x : ZI) : Prop where
  lim : Lim x.mag
  len : x.mag.length ≤ k
theorem Zok.mono {k m : Nat} {x : ZI} (h : Zok k x) (hk : k ≤ m) : Zok m x := ⟨h.lim, Nat.le_trans h.len hk⟩
theorem Zok.lt {k : Nat} {x : ZI} (h : Zok k x) : val x.mag < LB ^ k := by
  have h1 := a8l h.lim
  have h2 : LB ^ x.mag.length ≤ LB ^ k := Nat.pow_le_pow_right (by decide) h.len
  omega
theorem Zok.abs {k : Nat} {x : ZI} (h : Zok k x) : x.z.natAbs < LB ^ k := by unfold ZI.z; rw [b7e]; exact h.lt
theorem c5y {k : Nat} {z : Int} (h : z.natAbs < LB ^ k) : Zok k (canZ z) := ⟨a1Y _, a1I h⟩
section
variable (n0 : Nat) (env : Env) (H L : Heap)
def cpyV (wd : Nat) (x y : AV) (env : Env) (H : Heap) : Option (AV × Env × Heap) := (a0t H wd false y).bind fun ys => match x with
      | .mu id off len _ => (hrow H id).bind fun r =>
          if r.wd = wd ∧ off + len ≤ r.xs.length then
            some (.int .i64 (min ys.length len : Nat), env, H.set id (some ⟨wd, r.xs.take off ++ ys.take (min ys.length len) ++ r.xs.drop (off + min ys.length len)⟩)) else none
      | _ => none
theorem c8e (wd : Nat) (a b : Src) : ev n0 (.cpy wd a b) env H = cpyV wd (a.ev env) (b.ev env) env H := by
  simp only [ev, cpyV]; cases a0t H wd false (b.ev env) <;> simp only [Option.bind_none, Option.bind_some]; split <;> simp_all
theorem b9b (wd i len : Nat) (oc : Option Nat) (y : AV) (xs ys : List AV) (hl : L[i]? = some (some ⟨wd, xs⟩)) (hlen : len = xs.length) (hy : a0t (hap H L) wd false y = some ys) (hle : len ≤ ys.length) :
    cpyV wd (.mu (lid H i) 0 len oc) y env (hap H L) = some (.int .i64 len, env, hap H (L.set i (some ⟨wd, ys.take len⟩))) := by
  subst hlen
  simp only [cpyV, hy, Option.bind_some, a1y, hl, Option.join_some, a4R]
  rw [if_pos ⟨trivial, by omega⟩]
  simp [Nat.min_eq_right hle]
end
def EI := @c8e
def E2 := And.intro @EV2 (And.intro @EI @E1)
end Go.Abs
namespace Go.Abs
theorem ZI.av_fit (x : ZI) : x.av.fit = true := rfl
theorem ZI.av_cells (x : ZI) : x.av.cells = [.bool x.neg, natV x.mag] := rfl
theorem ZI.av_nref (id : Nat) (x : ZI) : nref id x.av = true := a0V x.cl
theorem ZI.av_frz (id : Nat) (b : Blk) (x : ZI) : frz id b x.av = x.av := b0M x.cl
theorem c7u (z : Int) : (Z z).cells = [.bool (decide (z < 0)), natV (limbs z.natAbs)] := rfl
theorem c8y (z : Int) : (Z z).fit = true := rfl
theorem c8o (id : Nat) (z : Int) : nref id (Z z) = true := a0V (Z_cl z)
theorem c8x (id : Nat) (b : Blk) (z : Int) : frz id b (Z z) = Z z := b0M (Z_cl z)
def vecV (v : List ZI) : AV := .sl 2 (v.map ZI.av)
def matV (b : List (List ZI)) : AV := .sl 1 (b.map vecV)
theorem b3z {a : AV} (h : Cl a) : ∀ c ∈ a.cells, Cl c := by
  intro c hc
  cases a with
  | agg cs => cases h with | agg _ h => exact h c hc
  | mo l => cases h
  | io i n s => cases h
  | _ => simp [AV.cells] at hc; subst hc; exact h
theorem c4J {α : Type} (wd : Nat) (f : α → AV) (l : List α) (h : ∀ x, Cl (f x)) : Cl (.sl wd (l.map f)) := by
  refine .sl wd _ fun c hc => ?_
  obtain ⟨x, hx, hc⟩ := List.mem_flatMap.1 hc
  obtain ⟨y, _, rfl⟩ := List.mem_map.1 hx
  exact b3z (h y) c hc
theorem a0s (v : List ZI) : Cl (vecV v) := c4J 2 _ v ZI.cl
theorem a6H (b : List (List ZI)) : Cl (matV b) := c4J 1 _ b a0s
theorem b9x (v : List ZI) : (vecV v).cells = [vecV v] := rfl
theorem c3f (v : List ZI) : (vecV v).fit = true := rfl
theorem c0O (id : Nat) (v : List ZI) : nref id (vecV v) = true := a0V (a0s v)
theorem c3g (v : List ZI) : clb (vecV v) = true := b0O (a0s v)
theorem c3e (id : Nat) (b : Blk) (v : List ZI) : frz id b (vecV v) = vecV v := b0M (a0s v)
theorem c0q (v : List (List ZI)) : (matV v).cells = [matV v] := rfl
theorem c4a (v : List (List ZI)) : (matV v).fit = true := rfl
theorem c1O (id : Nat) (v : List (List ZI)) : nref id (matV v) = true := a0V (a6H v)
theorem c4b (v : List (List ZI)) : clb (matV v) = true := b0O (a6H v)
theorem c3Z (id : Nat) (b : Blk) (v : List (List ZI)) : frz id b (matV v) = matV v := b0M (a6H v)
section
variable (H : Heap)
theorem c5k {α : Type} (wd : Nat) (f : α → AV) (l : List α) : lenV H (.sl wd (l.map f)) = some (.int .i64 l.length) := by rw [b7V, List.length_map]
theorem c1f {α : Type} (wd : Nat) (f : α → AV) (l : List α) (k : IntKind) (i : Nat) (h : i < l.length) : idxV H wd (.sl wd (l.map f)) (.int k i) = some (.ro (f l[i]) 0) := by
  rw [c2i _ _ _ _ _ (by omega) (by rw [List.length_map]; omega)]
  simp [h]
theorem c5A (v : List ZI) : lenV H (vecV v) = some (.int .i64 v.length) := c5k H 2 _ v
theorem b1C (v : List ZI) (k : IntKind) (i : Nat) (h : i < v.length) : idxV H 2 (vecV v) (.int k i) = some (.ro v[i].av 0) := c1f H 2 _ v k i h
theorem c6m (v : List (List ZI)) : lenV H (matV v) = some (.int .i64 v.length) := c5k H 1 _ v
theorem a4Z (v : List (List ZI)) (k : IntKind) (i : Nat) (h : i < v.length) : idxV H 1 (matV v) (.int k i) = some (.ro (vecV v[i]) 0) := c1f H 1 _ v k i h
/-- The elements of a row of the call's own, each closed. -/
theorem a5m {α : Type} (wd : Nat) (f : α → AV) (l : List α) (h : ∀ x, Cl (f x)) : ∀ a ∈ (Blk.mk wd (l.map f)).flat, Cl a := by
  intro a ha
  obtain ⟨x, hx, hc⟩ := List.mem_flatMap.1 ha
  obtain ⟨y, _, rfl⟩ := List.mem_map.1 hx
  exact b3z (h y) a hc
theorem c2n {α : Type} (id : Nat) (b : Blk) (f : α → AV) (l : List α) (h : ∀ x, Cl (f x)) : (l.map f).map (frz id b) = l.map f := by
  rw [List.map_map]
  exact List.map_congr_left fun x _ => b0M (h x)
theorem c0y {α : Type} (i : Nat) (wd : Nat) (f : α → AV) (l : List α) (oc : Option Nat) : frz (lid H i) ⟨wd, l.map f⟩ (.mu (lid H i) 0 l.length oc) = .sl wd (l.map f) := by
  rw [b3t _ _ _ _ _ (by rw [List.length_map])]
end
structure Vok (k : Nat) (v : List ZI) : Prop where
  len : v.length ≤ 2097152
  el : ∀ x ∈ v, Zok k x
structure Mok (k : Nat) (b : List (List ZI)) : Prop where
  len : b.length ≤ 2097152
  el : ∀ v ∈ b, Vok k v
theorem Vok.mono {k m : Nat} {v : List ZI} (h : Vok k v) (hk : k ≤ m) : Vok m v := ⟨h.len, fun x hx => (h.el x hx).mono hk⟩
theorem Mok.mono {k m : Nat} {b : List (List ZI)} (h : Mok k b) (hk : k ≤ m) : Mok m b := ⟨h.len, fun x hx => (h.el x hx).mono hk⟩
theorem Vok.get {k : Nat} {v : List ZI} (h : Vok k v) {i : Nat} (hi : i < v.length) : Zok k v[i] := h.el _ (List.getElem_mem hi)
theorem Mok.get {k : Nat} {v : List (List ZI)} (h : Mok k v) {i : Nat} (hi : i < v.length) : Vok k v[i] := h.el _ (List.getElem_mem hi)
theorem b5K : (0 < 2) = True := by decide
/-- The rules for vectors. -/
def EM := And.intro b5K <| And.intro @c5A (And.intro @c6m (And.intro @b9x (And.intro @c3f (And.intro @c0O (And.intro @c3g (And.intro @c3e (And.intro @c0q (And.intro @c4a (And.intro @c1O (And.intro @c4b (And.intro @c3Z
  (And.intro @ZI.av_fit (And.intro @ZI.av_cells (And.intro @ZI.av_nref (And.intro @ZI.av_frz (And.intro @c7u (And.intro @c8y (And.intro @c8o @c8x))))))))))))))))))
def ordZ : List Int → List Int → Int
  | [], [] => 0
  | [], _ :: _ => -1
  | _ :: _, [] => 1
  | a :: u, b :: v => if (a - b).sign = 0 then ordZ u v else (a - b).sign
theorem b1V : ∀ {u v : List Int}, ordZ u v = 0 ↔ u = v
  | [], [] => by simp [ordZ]
  | [], b :: v => by simp [ordZ]
  | a :: u, [] => by simp [ordZ]
  | a :: u, b :: v => by
    simp only [ordZ]
    split
    · rename_i h
      have hab : a = b := by
        have := Int.sign_eq_zero_iff_zero.1 h
        omega
      rw [b1V]; simp [hab]
    · rename_i h
      constructor
      · intro h'; exact absurd h' h
      · intro h'; simp at h'; exact absurd (by rw [h'.1]; simp) h
def zs (v : List ZI) : List Int := v.map ZI.z
def zss (b : List (List ZI)) : List (List Int) := b.map zs
def E3 := And.intro EM @E2
end Go.Abs
namespace Go.Abs
/-- The i-th entry of a vector, a matrix. -/
def zg (v : List ZI) (i : Nat) : Int := (v.getD i ⟨false, []⟩).z
def mg (b : List (List ZI)) (i : Nat) : List ZI := b.getD i []
theorem b9u {v : List ZI} {i : Nat} (h : i < v.length) : zg v i = v[i].z := by simp [zg, h]
theorem b6g {b : List (List ZI)} {i : Nat} (h : i < b.length) : mg b i = b[i] := by simp [mg, h]
/-- The vector in the one form of these entries. -/
def vec (n : Nat) (f : Nat → Int) : List ZI := (List.range n).map fun i => canZ (f i)
def mat (n : Nat) (f : Nat → List ZI) : List (List ZI) := (List.range n).map f
theorem a0r (n : Nat) (f : Nat → Int) : (vec n f).length = n := by simp [vec]
theorem a0C (n : Nat) (f : Nat → List ZI) : (mat n f).length = n := by simp [mat]
theorem b4P (n : Nat) (f : Nat → Int) : vec (n + 1) f = vec n f ++ [canZ (f n)] := by simp [vec, List.range_succ]
theorem b5c (n : Nat) (f : Nat → List ZI) : mat (n + 1) f = mat n f ++ [f n] := by simp [mat, List.range_succ]
theorem b7a {n : Nat} {f : Nat → Int} {i : Nat} (h : i < (vec n f).length) : (vec n f)[i] = canZ (f i) := by simp [vec]
theorem c1N {n : Nat} {f : Nat → List ZI} {i : Nat} (h : i < (mat n f).length) : (mat n f)[i] = f i := by simp [mat]
theorem c7T {n : Nat} {f : Nat → List ZI} {i : Nat} (h : i < n) : mg (mat n f) i = f i := by
  rw [b6g (by rw [a0C]; exact h), c1N]
theorem c0L {k n : Nat} {f : Nat → Int} (hn : n ≤ 2097152) (h : ∀ i, i < n → (f i).natAbs < LB ^ k) : Vok k (vec n f) := by
  refine ⟨by rw [a0r]; exact hn, fun x hx => ?_⟩
  obtain ⟨i, hi, rfl⟩ := List.mem_map.1 hx
  exact c5y (h i (List.mem_range.1 hi))
theorem c1L {k n : Nat} {f : Nat → List ZI} (hn : n ≤ 2097152) (h : ∀ i, i < n → Vok k (f i)) : Mok k (mat n f) := by
  refine ⟨by rw [a0C]; exact hn, fun x hx => ?_⟩
  obtain ⟨i, hi, rfl⟩ := List.mem_map.1 hx
  exact h i (List.mem_range.1 hi)
theorem Vok.abs {k : Nat} {v : List ZI} (h : Vok k v) (i : Nat) : (zg v i).natAbs < LB ^ k := by
  rcases Nat.lt_or_ge i v.length with hi | hi
  · rw [b9u hi]; exact (h.get hi).abs
  · simp [zg, hi, ZI.z, sgn, val]
    exact Nat.pow_pos (by decide)
theorem Mok.row {k : Nat} {b : List (List ZI)} (h : Mok k b) (i : Nat) : Vok k (mg b i) := by
  rcases Nat.lt_or_ge i b.length with hi | hi
  · rw [b6g hi]; exact h.get hi
  · simp [mg, hi]
    exact ⟨by simp, by simp⟩
section
variable {H : Heap}
/-- b4K rows. -/
def RC (L : Heap) : Prop := ∀ b, some b ∈ L → ∀ a ∈ b.flat, Cl a
theorem RC.nil : RC [] := fun b h => by cases h
theorem RC.none {L : Heap} (h : RC L) : RC (none :: L) := fun b hb a ha => by
  rcases List.mem_cons.1 hb with e | e
  · cases e
  · exact h b e a ha
theorem RC.cons {b : Blk} {L : Heap} (hb : ∀ a ∈ b.flat, Cl a) (h : RC L) : RC (some b :: L) := fun c hc a ha => by
  rcases List.mem_cons.1 hc with e | e
  · cases e; exact hb a ha
  · exact h c e a ha
theorem RC.row {α : Type} {wd : Nat} {f : α → AV} {l : List α} {L : Heap} (hf : ∀ x, Cl (f x)) (h : RC L) : RC (some ⟨wd, l.map f⟩ :: L) := .cons (a5m wd f l hf) h
theorem RC.one {wd : Nat} {x : AV} {L : Heap} (hx : Cl x) (h : RC L) : RC (some ⟨wd, [x]⟩ :: L) := .cons (fun a ha => by
  simp only [Blk.flat, List.flatMap_cons, List.flatMap_nil, List.append_nil] at ha
  exact b3z hx a ha) h
theorem RC.emp {wd : Nat} {L : Heap} (h : RC L) : RC (some ⟨wd, []⟩ :: L) := .cons (fun a ha => by cases ha) h
theorem RC.mo {l : List (Int × Int)} {L : Heap} (h : RC L) : RC (some ⟨0, [.mo l]⟩ :: L) := .cons (fun a ha => by cases ha) h
theorem RC.io {i n : Nat} {s : List Nat} {L : Heap} (h : RC L) : RC (some ⟨0, [.io i n s]⟩ :: L) := .cons (fun a ha => by cases ha) h
theorem RC.zero {L : Heap} (h : RC L) : RC (some ⟨2, [.agg [.bool false, .nil]]⟩ :: L) := .one (.agg _ (by
  intro c hc
  simp only [List.mem_cons, List.not_mem_nil, or_false] at hc
  rcases hc with rfl | rfl
  · exact .bool _
  · exact .nil)) h
theorem c2W {α : Type} (hH : a0N H) {L : Heap} (i : Nat) {n0 : Nat} (hn : n0 ≤ lid H i) {env : Env} {wd bytes : Nat} {f : α → AV} (hf : ∀ x, Cl (f x)) (l : List α) (x : α) (l' : List α) {y : AV} {len : Nat}
    (hlen : len = l.length) (hl : L[i]? = some (some ⟨wd, l.map f⟩)) (hL : RC L) (hy : y = f x) (hl' : l' = l ++ [x]) (hb : (len + 1) * bytes ≤ 140737488355328) (hbb : len + 1 ≤ 9223372036854775807) :
    appV n0 wd bytes false (.mu (lid H i) 0 len none) (.sl wd [y]) env (hap H L) = some (.mu (lid H i) 0 (len + 1) none, scrub (lid H i) env, hap H (L.set i (some ⟨wd, l'.map f⟩))) := by
  subst hy
  subst hl'
  have := b9n n0 env H L wd bytes false i len none (.sl wd [f x]) (l.map f) [f x] hH hl (by rw [List.length_map]; exact hlen) hn (a4o _ wd _) (b9m hL) (by
    intro a ha
    simp at ha
    exact (b3z (hf x) a ha).ref) (by simpa using hb) (by simpa using hbb) rfl
  simpa [a0G] using this
theorem b1u {α : Type} {L : Heap} (i : Nat) {n0 : Nat} (hn : n0 ≤ lid H i) {env : Env} {wd bytes : Nat} {f : α → AV} (l : List α) (x : α) (l' : List α) {y : AV} {len c : Nat}
    (hlen : len = l.length) (hl : L[i]? = some (some ⟨wd, l.map f⟩)) (hy : y = f x) (hl' : l' = l ++ [x]) (hc : len + 1 ≤ c) :
    appV n0 wd bytes false (.mu (lid H i) 0 len (some c)) (.sl wd [y]) env (hap H L) = some (.mu (lid H i) 0 (len + 1) (some c), env, hap H (L.set i (some ⟨wd, l'.map f⟩))) := by
  subst hy
  subst hl'
  have := c2X n0 env H L wd bytes false i len c (.sl wd [f x]) (l.map f) [f x] hl (by rw [List.length_map]; exact hlen) hn (a4o _ wd _) (by simp) (by simpa using hc)
  simpa using this
theorem b1l (env : Env) (L : Heap) (wd bytes : Nat) (z : AV) (k k' : IntKind) (c : Nat) (h0 : 0 < wd) (h2 : bytes * c ≤ 281474976710656) (h3 : c ≤ 9223372036854775807) :
    c0i wd bytes z (.int k 0) (.int k' c) env (hap H L) = some (.mu (lid H L.length) 0 0 (some c), env, hap H (L ++ [some ⟨wd, []⟩])) := by
  have := a8q env H L wd bytes z k k' 0 c h0 (Nat.zero_le _) h2 h3
  simpa using this
theorem a5j {α : Type} (i wd : Nat) (f : α → AV) (l : List α) (len : Nat) (oc : Option Nat) (h : len = l.length) : frz (lid H i) ⟨wd, l.map f⟩ (.mu (lid H i) 0 len oc) = .sl wd (l.map f) := by
  subst h; exact c0y H i wd f l oc
section
variable {x : Cx} {todo : List AItem} {env : Env} {R : AV → Heap → Prop} {a b c d e : Option Blk}
theorem Safe.drop1 (hH : a0N H) (hx : x.n0 = H.length) (he : env.all (fun p => nref (lid H 1) p.2) = true) (hL : RC [a]) (h : Safe x todo env (hap H [a]) R) : Safe x todo env (hap H [a, b]) R := Safe.dropC (L := [a]) hH hx he hL h
end
end
end Go.Abs
namespace Go.Abs
section
variable {x : Cx} {todo : List AItem} {env : Env} {R : AV → Heap → Prop} {H : Heap} {b : Option Blk}
theorem b0N {n : Nat} {a : AV} {k : Nat} {c : AV} (h : ((List.replicate n a).flatMap AV.cells)[k]? = some c) : ∃ j, a.cells[j]? = some c ∧ j = k % a.cells.length ∧ k / a.cells.length < n := by
  induction n generalizing k with
  | zero => simp at h
  | succ n ih =>
    rw [List.replicate_succ, List.flatMap_cons] at h
    rcases Nat.lt_or_ge k a.cells.length with hk | hk
    · rw [List.getElem?_append_left hk] at h
      exact ⟨k, h, (Nat.mod_eq_of_lt hk).symm, by rw [Nat.div_eq_of_lt hk]; omega⟩
    · rw [List.getElem?_append_right hk] at h
      obtain ⟨j, h1, h2, h3⟩ := ih h
      have hp : 0 < a.cells.length := by
        rcases Nat.eq_zero_or_pos a.cells.length with h0 | h0
        · have := a0a h1; omega
        · exact h0
      refine ⟨j, h1, ?_, ?_⟩
      · rw [h2, Nat.mod_eq_sub_mod hk]
      · rw [Nat.div_eq_sub_div hp hk]; omega
theorem a9U {n wd : Nat} {a : AV} (h : a.cells.length = wd) : ((List.replicate n a).flatMap AV.cells).length = n * wd := by
  rw [a1e (wd := wd)]
  · simp
  · intro x hx; rw [List.eq_of_mem_replicate hx]; exact h
/-- Numbers not yet written are told aXs 0. -/
theorem Safe.toldRep (i n : Nat) {L : Heap} (hl : L[i]? = some (some ⟨2, List.replicate n (.agg [.bool false, .nil])⟩)) (h : Safe x todo env (hap H (L.set i (some ⟨2, (vec n fun _ => 0).map ZI.av⟩))) R) : Safe x todo env (hap H L) R := by
  have e : (vec n fun _ => 0).map ZI.av = List.replicate n (.agg [.bool false, natV []]) := by
    apply List.ext_getElem
    · simp [a0r]
    · intro j h1 h2
      simp only [List.getElem_map, b7a, c2L, c5w, List.getElem_replicate]
  rw [e] at h
  refine Safe.toldRow (b' := ⟨2, List.replicate n (.agg [.bool false, natV []])⟩) i hl rfl (by intro y hy; rw [List.eq_of_mem_replicate hy]; rfl) ?_ (by simp) ?_ h
  · show ((List.replicate n _).flatMap AV.cells).length = ((List.replicate n _).flatMap AV.cells).length
    rw [a9U (wd := 2) rfl, a9U (wd := 2) rfl]
  · intro k a c ha hc
    obtain ⟨j, h1, h2, _⟩ := b0N ha
    obtain ⟨j', h1', h2', _⟩ := b0N hc
    have : j' = j := by rw [h2, h2']; rfl
    subst this
    match j' with
    | 0 => cases h1; cases h1'; exact Le.refl _
    | 1 => cases h1; cases h1'; exact Le.nil 1 (by decide)
    | j + 2 => simp [AV.cells] at h1
end
/-- One entry written. -/
def updF (f : Nat → Int) (i : Nat) (z : Int) : Nat → Int := fun k => if k = i then z else f k
theorem c5z (n : Nat) (f : Nat → Int) (i : Nat) (z : Int) : ((vec n f).map ZI.av).set i (Z z) = (vec n (updF f i z)).map ZI.av := by
  apply List.ext_getElem
  · simp [a0r]
  · intro j h1 h2
    rw [List.getElem_set]
    simp only [List.getElem_map, b7a, updF]
    by_cases h : i = j
    · subst h; simp [c2L]
    · rw [if_neg h, if_neg (fun e => h e.symm)]
/-- The matrix, each entry in one form. -/
def b5r (b : List (List ZI)) : List (List ZI) := mat b.length fun i => vec (mg b i).length fun k => zg (mg b i) k
theorem c6x (H : Heap) (i : Nat) (v : List ZI) (len : Nat) (oc : Option Nat) (h : len = v.length) : frz (lid H i) ⟨2, v.map ZI.av⟩ (.mu (lid H i) 0 len oc) = vecV v := a5j i 2 ZI.av v len oc h
theorem c6C (H : Heap) (i : Nat) (v : List (List ZI)) (len : Nat) (oc : Option Nat) (h : len = v.length) : frz (lid H i) ⟨1, v.map vecV⟩ (.mu (lid H i) 0 len oc) = matV v := a5j i 1 vecV v len oc h
theorem b7S (id : Nat) (b : Blk) (v : List ZI) : (v.map ZI.av).map (frz id b) = v.map ZI.av := c2n id b ZI.av v ZI.cl
theorem b7T (id : Nat) (b : Blk) (v : List (List ZI)) : (v.map vecV).map (frz id b) = v.map vecV := c2n id b vecV v a0s
end Go.Abs
namespace Go.Abs
section
variable {H L : Heap} {a b : Option Blk} {wd len j n : Nat} {X : List AV} {oc : Option Nat} {k : IntKind} {f : Nat → Int} {z : Int} {env : Env}
theorem c2h (h : j < len) : idxV (hap H (some ⟨wd, X⟩ :: L)) wd (.mu (lid H 0) 0 len oc) (.int k j) = some (.loc (lid H 0) j 0) := by
  rw [c1I H _ wd 0 0 len oc k j rfl rfl h, Nat.zero_add]
end
end Go.Abs
namespace Go.Abs
/-- A text by its bytes. -/
def strU (l : List UInt8) : AV := .str ⟨l.toArray⟩
def byts (l : List UInt8) : List AV := l.map fun b => .int .u8 (b.toNat : Int)
theorem a0J (l : List UInt8) : Cl (strU l) := .str _
theorem a4a (l : List UInt8) : (byts l).length = l.length := by simp [byts]
theorem b8t (a b : List UInt8) : byts (a ++ b) = byts a ++ byts b := by simp [byts]
theorem b6O (l : List UInt8) : (byts l).flatMap AV.cells = byts l := by
  induction l with
  | nil => rfl
  | cons d l ih =>
    rw [show byts (d :: l) = .int .u8 (d.toNat : Int) :: byts l from rfl, List.flatMap_cons, ih]
    rfl
theorem c7i {l : List UInt8} : ∀ a ∈ (Blk.mk 1 (byts l)).flat, Cl a := by
  intro a ha
  rw [show (Blk.mk 1 (byts l)).flat = byts l from b6O l] at ha
  obtain ⟨b, _, rfl⟩ := List.mem_map.1 ha
  exact .int _ _
theorem a3s (l : List UInt8) : (ByteArray.mk l.toArray).size = l.length := by simp [ByteArray.size]
theorem b7b (a b : List UInt8) : (ByteArray.mk a.toArray) ++ (ByteArray.mk b.toArray) = ⟨(a ++ b).toArray⟩ := by
  apply ByteArray.ext
  simp
theorem b7k (l : List UInt8) : a7m (byts l) = some (l.map fun b => (b.toNat : Int)) := by
  induction l with
  | nil => rfl
  | cons b l ih =>
    rw [show byts (b :: l) = .int .u8 (b.toNat : Int) :: byts l from rfl]
    simp only [a7m, ih, Option.map_some, List.map_cons]
theorem b9D (l : List UInt8) : strOfNums (l.map fun b => (b.toNat : Int)) = ⟨l.toArray⟩ := by
  unfold strOfNums
  congr 2
  rw [List.map_map]
  conv => rhs; rw [← List.map_id l]
  apply List.map_congr_left
  intro b _
  simp
theorem c1a (l : List UInt8) : strB (byts l) = some (strU l) := by
  simp only [strB, b7k, Option.map_some, b9D, strU]
theorem c1p (a b : List UInt8) (h : a.length + b.length ≤ 9223372036854775807) : binV .add (strU a) (strU b) = some (strU (a ++ b)) := by
  unfold strU
  rw [c2R _ _ (by rw [a3s, a3s]; exact h), b7b]
theorem a1X (a b : List UInt8) : binV .eql (strU a) (strU b) = some (.bool (a == b)) := by
  unfold strU
  rw [b6R]
  simp
theorem a6Y (l : List UInt8) : (strU l).cells = [strU l] := rfl
theorem c3o (l : List UInt8) : (strU l).fit = true := rfl
theorem b5S (id : Nat) (l : List UInt8) : nref id (strU l) = true := a0V (a0J l)
theorem c3p (l : List UInt8) : clb (strU l) = true := b0O (a0J l)
theorem c3n (id : Nat) (b : Blk) (l : List UInt8) : frz id b (strU l) = strU l := b0M (a0J l)
theorem RC.byts {l : List UInt8} {L : Heap} (h : RC L) : RC (some ⟨1, byts l⟩ :: L) := .cons c7i h
def ES := And.intro @a6Y (And.intro @c3o (And.intro @b5S (And.intro @c3p @c3n)))
def cdig (d : Nat) : UInt8 := UInt8.ofNat (48 + d)
theorem b5v {d : Nat} (h : d < 10) : (cdig d).toNat = 48 + d := by
  unfold cdig
  rw [UInt8.toNat_ofNat']
  omega
/-- The digits from the lowest; none for 0. -/
def digs (n : Nat) : List UInt8 := if h : n = 0 then [] else cdig (n % 10) :: digs (n / 10)
theorem a3A : digs 0 = [] := by rw [digs]; simp
theorem a5l {n : Nat} (h : n ≠ 0) : digs n = cdig (n % 10) :: digs (n / 10) := by rw [digs]; simp [h]
/-- A number's text. -/
def dec (n : Nat) : List UInt8 := if n = 0 then [48] else (digs n).reverse
def decI (z : Int) : List UInt8 := if z < 0 then 45 :: dec z.natAbs else dec z.natAbs
theorem b5u : ∀ (k n : Nat), n < 10 ^ k → (digs n).length ≤ k
  | 0, n, h => by
    have : n = 0 := by simpa using h
    rw [this, a3A]; simp
  | k + 1, n, h => by
    by_cases h0 : n = 0
    · rw [h0, a3A]; simp
    · rw [a5l h0, List.length_cons]
      have := b5u k (n / 10) (by rw [Nat.pow_succ] at h; omega)
      omega
theorem c5m (k : Nat) : LB ^ k ≤ 10 ^ (10 * k) := by
  rw [Nat.pow_mul]
  exact Nat.pow_le_pow_left (by decide) k
theorem c2A {k n : Nat} (h : n < LB ^ k) : (dec n).length ≤ 10 * k + 1 := by
  unfold dec
  split
  · simp
  · rw [List.length_reverse]
    have := b5u (10 * k) n (Nat.lt_of_lt_of_le h (c5m k))
    omega
theorem c4F {k : Nat} {z : Int} (h : z.natAbs < LB ^ k) : (decI z).length ≤ 10 * k + 2 := by
  unfold decI
  have := c2A h
  split
  · rw [List.length_cons]; omega
  · omega
def sdiv (d : Nat) : List Nat → List Nat × Nat
  | [] => ([], 0)
  | x :: xs => (((sdiv d xs).2 * LB + x) / d :: (sdiv d xs).1, ((sdiv d xs).2 * LB + x) % d)
theorem a6f (d x : Nat) (xs : List Nat) : sdiv d (x :: xs) = (((sdiv d xs).2 * LB + x) / d :: (sdiv d xs).1, ((sdiv d xs).2 * LB + x) % d) := rfl
theorem b4X (d : Nat) : ∀ xs, (sdiv d xs).1.length = xs.length
  | [] => rfl
  | x :: xs => by rw [a6f]; simp [b4X d xs]
theorem b1h {d : Nat} (hd : 0 < d) : ∀ xs, (sdiv d xs).2 < d
  | [] => hd
  | x :: xs => by rw [a6f]; exact Nat.mod_lt _ hd
theorem b4W {d : Nat} (hd : 0 < d) : ∀ xs, val (sdiv d xs).1 * d + (sdiv d xs).2 = val xs
  | [] => by simp [sdiv, val]
  | x :: xs => by
    have ih := b4W hd xs
    rw [a6f]
    simp only [val]
    have h := Nat.div_add_mod ((sdiv d xs).2 * LB + x) d
    rw [← ih]
    generalize ((sdiv d xs).2 * LB + x) / d = q at *
    generalize ((sdiv d xs).2 * LB + x) % d = r at *
    generalize val (sdiv d xs).1 = v at *
    generalize (sdiv d xs).2 = s at *
    have e1 : (q + LB * v) * d = d * q + LB * (v * d) := by rw [Nat.add_mul, Nat.mul_comm q d, Nat.mul_assoc]
    have e2 : LB * (v * d + s) = LB * (v * d) + s * LB := by rw [Nat.mul_add, Nat.mul_comm LB s]
    omega
theorem b8G {d : Nat} (hd : 0 < d) : ∀ {xs : List Nat}, Lim xs → Lim (sdiv d xs).1
  | [], _ => c1V
  | x :: xs, h => by
    obtain ⟨h1, h2⟩ := b1o.1 h
    rw [a6f]
    refine b1o.2 ⟨?_, b8G hd h2⟩
    have := b1h hd xs
    rw [Nat.div_lt_iff_lt_mul hd]
    have e : LB * d = (d - 1) * LB + LB := by
      rw [← Nat.succ_mul, Nat.mul_comm]
      congr 1; omega
    have : (sdiv d xs).2 * LB ≤ (d - 1) * LB := Nat.mul_le_mul_right _ (by omega)
    omega
theorem c3t {d : Nat} (hd : 0 < d) (xs : List Nat) : val (sdiv d xs).1 = val xs / d := by
  have h1 := b4W hd xs
  have h2 := b1h hd xs
  rw [← h1, Nat.add_comm, Nat.add_mul_div_right _ _ hd, Nat.div_eq_of_lt h2, Nat.zero_add]
theorem c3s {d : Nat} (hd : 0 < d) (xs : List Nat) : (sdiv d xs).2 = val xs % d := by
  have h1 := b4W hd xs
  have h2 := b1h hd xs
  rw [← h1, Nat.add_comm, Nat.add_mul_mod_self_right, Nat.mod_eq_of_lt h2]
def tx (n : Nat) (g : Nat → List UInt8) : List (List UInt8) := (List.range n).map g
theorem a4k (n : Nat) (g : Nat → List UInt8) : (tx n g).length = n := by simp [tx]
theorem b1E (n : Nat) (g : Nat → List UInt8) : tx (n + 1) g = tx n g ++ [g n] := by simp [tx, List.range_succ]
def txV (v : List ZI) : List UInt8 := Lib.join (tx v.length fun i => decI (zg v i)) [32]
def txM (b : List (List ZI)) : List UInt8 := Lib.join (tx b.length fun i => txV (mg b i)) [59, 32]
theorem c1Z (g : Nat → List UInt8) (sep : List UInt8) : Lib.join (tx 0 g) sep = [] := rfl
theorem join_one (g : Nat → List UInt8) (sep : List UInt8) : Lib.join (tx 1 g) sep = g 0 := Lib.join_one _ _
theorem c2a (g : Nat → List UInt8) (sep : List UInt8) (i : Nat) : Lib.join (tx (i + 2) g) sep = Lib.join (tx (i + 1) g) sep ++ sep ++ g (i + 1) := by
  have e : ∀ n, tx (n + 1) g = g 0 :: tx n fun i => g (i + 1) := fun n => by
    simp only [tx, List.range_succ_eq_map, List.map_cons, List.map_map]; rfl
  rw [e (i + 1), e i, Lib.join_cons, Lib.join_cons, b1E]
  simp [Lib.joinTail, List.append_assoc]
theorem b5l (g : Nat → List UInt8) (sep : List UInt8) : ∀ n, (Lib.join (tx n g) sep).length ≤ ((tx n g).map fun x => x.length + sep.length).sum
  | 0 => by rw [c1Z]; exact Nat.zero_le _
  | 1 => by rw [join_one]; simp [tx]
  | n + 2 => by
    have ih := b5l g sep (n + 1)
    rw [c2a, b1E (n + 1)]
    simp only [List.length_append, List.map_append, List.sum_append, List.map_cons, List.map_nil, List.sum_cons, List.sum_nil]
    omega
end Go.Abs
namespace Go.Abs
def fl (n : Nat) (f : Nat → Nat) : List Nat := (List.range n).map f
end Go.Abs
namespace Go.Abs
open Go.Proofs
noncomputable abbrev Pr : Program := Tryd.prog
abbrev a3G : FuncId := 4
abbrev a7d : FuncId := 5
abbrev a7Y : FuncId := 7
abbrev a7X : FuncId := 11
abbrev a5r : FuncId := 12
abbrev a3j : FuncId := 13
abbrev a4B : FuncId := 14
abbrev a9t : FuncId := 15
abbrev a4i : FuncId := 16
abbrev a6W : FuncId := 17
abbrev a1J : FuncId := 18
abbrev a3E : FuncId := 19
abbrev a1V : FuncId := 20
abbrev a9u : FuncId := 24
abbrev a9s : FuncId := 25
abbrev a1f : FuncId := 26
abbrev a1C : FuncId := 27
abbrev a1z : FuncId := 28
abbrev a5q : FuncId := 29
abbrev a4j : FuncId := 30
abbrev a4b : FuncId := 31
abbrev a1W : FuncId := 32
abbrev a3D : FuncId := 33
abbrev a1g : FuncId := 34
abbrev a0W : FuncId := 35
abbrev a5E : FuncId := 36
abbrev a5p : FuncId := 37
abbrev a4y : FuncId := 38
abbrev a4h : FuncId := 39
abbrev a3I : FuncId := 40
abbrev a1S : FuncId := 42
abbrev a5o : FuncId := 43
abbrev a8G : FuncId := 46
abbrev a1D : FuncId := 50
abbrev a5n : FuncId := 51
abbrev a4g : FuncId := 52
abbrev a1B : FuncId := 53
abbrev a9p : FuncId := 58
abbrev a6V : FuncId := 59
abbrev a3F : FuncId := 60
abbrev a4A : FuncId := 61
abbrev a4z : FuncId := 62
abbrev a6U : FuncId := 63
abbrev a3C : FuncId := 68
abbrev a3i : FuncId := 69
abbrev a8H : FuncId := 70
abbrev a0B : FuncId := 76
abbrev a0F : FuncId := 77
abbrev a9r : FuncId := 83
abbrev a9q : FuncId := 84
abbrev a7W : FuncId := 85
abbrev a0R : FuncId := 89
abbrev a0o : FuncId := 90
abbrev a1k : FuncId := 91
abbrev a0O : FuncId := 94
def c3m : ByteArray := ⟨#[0, 1, 2, 2, 3, 3, 3, 3, 4, 4, 4, 4, 4, 4, 4, 4, 5, 5, 5, 5, 5, 5, 5, 5, 5, 5, 5, 5, 5, 5, 5, 5, 6, 6, 6, 6, 6, 6, 6, 6, 6, 6, 6, 6, 6, 6, 6, 6, 6, 6, 6, 6, 6, 6, 6, 6, 6, 6, 6, 6, 6, 6, 6, 6, 7, 7, 7, 7, 7, 7, 7, 7, 7, 7, 7, 7, 7, 7, 7, 7, 7, 7, 7, 7, 7, 7, 7, 7, 7, 7, 7, 7, 7, 7, 7, 7, 7, 7, 7, 7, 7, 7, 7, 7, 7, 7, 7, 7, 7, 7, 7, 7, 7, 7, 7, 7, 7, 7, 7, 7, 7, 7, 7, 7, 7, 7, 7, 7, 8, 8, 8, 8, 8, 8, 8, 8, 8, 8, 8, 8, 8, 8, 8, 8, 8, 8, 8, 8, 8, 8, 8, 8, 8, 8, 8, 8, 8, 8, 8, 8, 8, 8, 8, 8, 8, 8, 8, 8, 8, 8, 8, 8, 8, 8, 8, 8, 8, 8, 8, 8, 8, 8, 8, 8, 8, 8, 8, 8, 8, 8, 8, 8, 8, 8, 8, 8, 8, 8, 8, 8, 8, 8, 8, 8, 8, 8, 8, 8, 8, 8, 8, 8, 8, 8, 8, 8, 8, 8, 8, 8, 8, 8, 8, 8, 8, 8, 8, 8, 8, 8, 8, 8, 8, 8, 8, 8, 8, 8, 8, 8, 8, 8, 8, 8, 8, 8, 8, 8, 8, 8, 8, 8, 8, 8, 8, 8]⟩
end Go.Abs

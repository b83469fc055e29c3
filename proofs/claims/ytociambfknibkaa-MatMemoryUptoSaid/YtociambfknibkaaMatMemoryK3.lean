/- Part 3 of the proof of MatMemory: A14, A15, A16, A17, A18, A19, A22, A23, A25, A26, M1, D1, D2, D3, D4, D5, D6, D7, D10, Num. -/
import Derived.Test.YtociambfknibkaaMatMemoryK2
import Derived.Below
import Derived.Lib.Join
import Derived.Test.YtociambfknibkaaProg
set_option linter.unusedVariables false
set_option linter.unusedSimpArgs false
set_option linter.defProp false
namespace Go.Abs
section
variable (P : Program) (n0 : Nat) (K : Env → Heap → Prop) (env : Env) (H : Heap)
theorem c9W : dops P n0 [] K env H = K env H := rfl
theorem c7R (d : Option Nat) (o : AOp) (l : List AIns) : dops P n0 (⟨d, none, o⟩ :: l) K env H = a6a P n0 o d (dops P n0 l K) env H := rfl
theorem c7Q (d : Option Nat) (t : Nat) (want : Bool) (o : AOp) (l : List AIns) :
    dops P n0 (⟨d, some (t, want), o⟩ :: l) K env H = a7V want (look env t) fun c => if c = want then a6a P n0 o d (dops P n0 l K) env H else dops P n0 l K (put d (.tup []) env) H := rfl
theorem d2o (o : POp) (d : Option Nat) : a6a P n0 (.p o) d K env H = b5S (pv o env H) fun v => K (put d v env) H := rfl
theorem d2p (o : EOp) (d : Option Nat) : a6a P n0 (.e o) d K env H = b4V (ev n0 o env H) fun v env' H' => K (put d v env') H' := rfl
/-- A call in a drawn region. -/
def dcall (P : Program) (f : FuncId) (args : List AV) (H : Heap) (K : AV → Prop) : Prop := ∃ r, (∀ L, a0i P f args (H ++ L) fun r' H' => r' = r ∧ H' = H ++ L) ∧ K r
def dres (K : Env → Heap → Prop) (d : Option Nat) (env : Env) (H : Heap) : AV → Prop := fun r => K (put d r env) H
theorem d2r (d : Option Nat) (r : AV) : dres K d env H r = K (put d r env) H := rfl
theorem c5T (f : FuncId) (args : List Src) (d : Option Nat) : a6a P n0 (.call f args) d K env H = dcall P f (args.map (·.ev env)) H (dres K d env H) := rfl
def c1Y (P : Program) (g : AV) (args : List AV) (H : Heap) (K : AV → Prop) : Prop := match g with
  | .fn f caps => dcall P f (args ++ caps) H K
  | _ => False
theorem c3L (g : Src) (args : List Src) (d : Option Nat) : a6a P n0 (.callv g args) d K env H = c1Y P (g.ev env) (args.map (·.ev env)) H (dres K d env H) := by
  simp only [a6a, c1Y]; split <;> simp_all [dcall, dres]
theorem c7T (f : FuncId) (caps args : List AV) (K : AV → Prop) : c1Y P (.fn f caps) args H K = dcall P f (args ++ caps) H K := rfl
end
/-- A call in a drawn region that hands out rows of its own. -/
def dgcall (P : Program) (f : FuncId) (args : List AV) (H : Heap) (K : AV → Heap → Prop) : Prop := ∃ r L, (a0i P f args H fun r' H' => r' = r ∧ H' = H ++ L) ∧ K r (H ++ L)
theorem a0b (P : Program) (n0 : Nat) (K : Env → Heap → Prop) (env : Env) (H : Heap) (f : FuncId) (args : List Src) (d : Option Nat) : a6a P n0 (.gcall f args) d K env H = dgcall P f (args.map (·.ev env)) H (ares K d env) := rfl
def b7M (P : Program) (g : AV) (args : List AV) (H : Heap) (K : AV → Heap → Prop) : Prop := match g with
  | .fn f caps => dgcall P f (args ++ caps) H K
  | _ => False
theorem a0a (P : Program) (n0 : Nat) (K : Env → Heap → Prop) (env : Env) (H : Heap) (g : Src) (args : List Src) (d : Option Nat) : a6a P n0 (.gcallv g args) d K env H = b7M P (g.ev env) (args.map (·.ev env)) H (ares K d env) := by
  simp only [a6a, b7M]; split <;> simp_all [dgcall, ares]
theorem a0d (P : Program) (H : Heap) (f : FuncId) (caps args : List AV) (K : AV → Heap → Prop) : b7M P (.fn f caps) args H K = dgcall P f (args ++ caps) H K := rfl
@[congr] theorem d0N {P : Program} {f : FuncId} {aXs as' : List AV} {H H' : Heap} {K : AV → Heap → Prop} (h : aXs = as') (h' : H = H') : dgcall P f aXs H K = dgcall P f as' H' K := by rw [h, h']
@[congr] theorem c9Z {P : Program} {g g' : AV} {aXs as' : List AV} {H H' : Heap} {K : AV → Heap → Prop} (h : g = g') (h2 : aXs = as') (h' : H = H') : b7M P g aXs H K = b7M P g' as' H' K := by rw [h, h2, h']
@[congr] theorem d2R {P : Program} {n0 : Nat} {l : List AIns} {K : Env → Heap → Prop} {env env' : Env} {H H' : Heap} (h : env = env') (h' : H = H') : dops P n0 l K env H = dops P n0 l K env' H' := by rw [h, h']
@[congr] theorem d2q {P : Program} {n0 : Nat} {o : AOp} {d : Option Nat} {K : Env → Heap → Prop} {env env' : Env} {H H' : Heap} (h : env = env') (h' : H = H') : a6a P n0 o d K env H = a6a P n0 o d K env' H' := by rw [h, h']
@[congr] theorem d2t {P : Program} {f : FuncId} {aXs as' : List AV} {H H' : Heap} {K : AV → Prop} (h : aXs = as') (h' : H = H') : dcall P f aXs H K = dcall P f as' H' K := by rw [h, h']
@[congr] theorem d0O {P : Program} {g g' : AV} {aXs as' : List AV} {H H' : Heap} {K : AV → Prop} (h : g = g') (h2 : aXs = as') (h' : H = H') : c1Y P g aXs H K = c1Y P g' as' H' K := by rw [h, h2, h']
theorem a0g.acall {P : Program} {f : FuncId} {args : List AV} {H : Heap} {r : AV} {R : AV → Heap → Prop} (h : a0g P f args r) (k : R r H) : a0i P f args H R :=
  (h H).mono fun r' H' ⟨h1, h2⟩ => by subst h1; subst h2; exact k
theorem a0g.dcall {P : Program} {f : FuncId} {args : List AV} {H : Heap} {r : AV} {K : AV → Prop} (h : a0g P f args r) (k : K r) : dcall P f args H K := ⟨r, fun L => h (H ++ L), k⟩
theorem a0g.dgcall {P : Program} {f : FuncId} {args : List AV} {H : Heap} {r : AV} {K : AV → Heap → Prop} (h : a0g P f args r) (k : K r H) : dgcall P f args H K := ⟨r, [], by simpa using h H, by simpa using k⟩
theorem b4C {a : AV} (h : Cl a) : clb a = true := c7W.2 h
theorem a1n {id : Nat} {a : AV} (h : Cl a) : nref id a = true := a0s.2 h.ref
theorem d2x (k : IntKind) (n : Int) : clb (.int k n) = true := b4C (.int k n)
theorem b5j (b : Bool) : clb (.bool b) = true := b4C (.bool b)
theorem d2v (s : ByteArray) : clb (.str s) = true := b4C (.str s)
theorem d2w : clb .nil = true := b4C .nil
theorem c9d (id : Nat) : nref id .top = true := a1n .top
theorem c9i (id : Nat) (k : IntKind) (n : Int) : nref id (.int k n) = true := a1n (.int k n)
theorem c6V (id : Nat) (b : Bool) : nref id (.bool b) = true := a1n (.bool b)
theorem c9e (id : Nat) (s : ByteArray) : nref id (.str s) = true := a1n (.str s)
theorem c9f (id : Nat) : nref id .nil = true := a1n .nil
theorem c9h (id : Nat) (v : Value) : nref id (.lit v) = true := a1n (.lit v)
theorem d1B (id wd : Nat) (xs : List AV) : nref id (.sl wd xs) = true := a0s.2 (.sl wd xs)
theorem d1C (id off : Nat) (x : AV) : nref id (.ro x off) = true := a0s.2 (.ro x off)
theorem c9j (id : Nat) (cs : List AV) : nref id (.agg cs) = cs.all (nref id) := by
  rw [Bool.eq_iff_iff, a0s, List.all_eq_true]
  constructor
  · intro h c hc; cases h with | agg _ h => exact a0s.2 (h c hc)
  · intro h; exact .agg _ fun c hc => a0s.1 (h c hc)
theorem c9c (id : Nat) (cs : List AV) : nref id (.tup cs) = cs.all (nref id) := by
  rw [Bool.eq_iff_iff, a0s, List.all_eq_true]
  constructor
  · intro h c hc; cases h with | tup _ h => exact a0s.2 (h c hc)
  · intro h; exact .tup _ fun c hc => a0s.1 (h c hc)
theorem d1E (id : Nat) (f : FuncId) (cs : List AV) : nref id (.fn f cs) = cs.all (nref id) := by
  rw [Bool.eq_iff_iff, a0s, List.all_eq_true]
  constructor
  · intro h c hc; cases h with | fn _ _ h => exact a0s.2 (h c hc)
  · intro h; exact .fn _ _ fun c hc => a0s.1 (h c hc)
theorem d1D (H : Heap) (i j off len : Nat) (oc : Option Nat) : nref (lid H i) (.mu (lid H j) off len oc) = decide (j ≠ i) := by
  rw [Bool.eq_iff_iff, a0s, decide_eq_true_eq]
  constructor
  · intro h; cases h with | mu _ _ _ _ h => intro e; exact h (by rw [e])
  · intro h; exact .mu _ _ _ _ (by simp only [lid]; omega)
theorem c9g (H : Heap) (i j k off : Nat) : nref (lid H i) (.loc (lid H j) k off) = decide (j ≠ i) := by
  rw [Bool.eq_iff_iff, a0s, decide_eq_true_eq]
  constructor
  · intro h; cases h with | loc _ _ _ h => intro e; exact h (by rw [e])
  · intro h; exact .loc _ _ _ (by simp only [lid]; omega)
theorem c6H (id : Nat) : scrub id [] = [] := rfl
theorem c4U (id t : Nat) (a : AV) (env : Env) : scrub id ((t, a) :: env) = (t, if nref id a then a else .top) :: scrub id env := rfl
theorem d1Y (id : Nat) (b : Blk) (k : IntKind) (n : Int) : frz id b (.int k n) = .int k n := by simp only [frz]
theorem c9G (id : Nat) (b : Blk) (c : Bool) : frz id b (.bool c) = .bool c := by simp only [frz]
theorem d1V (id : Nat) (b : Blk) (s : ByteArray) : frz id b (.str s) = .str s := by simp only [frz]
theorem d1W (id : Nat) (b : Blk) : frz id b .nil = .nil := by simp only [frz]
theorem d1U (id : Nat) (b : Blk) : frz id b .top = .top := by simp only [frz]
theorem d1X (id : Nat) (b : Blk) (v : Value) : frz id b (.lit v) = .lit v := by simp only [frz]
theorem d3y (id : Nat) (b : Blk) (wd : Nat) (xs : List AV) : frz id b (.sl wd xs) = .sl wd xs := by simp only [frz]
theorem d0L (id : Nat) (b : Blk) (x : AV) (off : Nat) : frz id b (.ro x off) = .ro x off := by simp only [frz]
theorem d1Z (id : Nat) (b : Blk) (cs : List AV) : frz id b (.agg cs) = .agg (cs.map (frz id b)) := by simp only [frz]
theorem d1T (id : Nat) (b : Blk) (cs : List AV) : frz id b (.tup cs) = .tup (cs.map (frz id b)) := by simp only [frz]
theorem d3z (id : Nat) (b : Blk) (f : FuncId) (cs : List AV) : frz id b (.fn f cs) = .fn f (cs.map (frz id b)) := by simp only [frz]
theorem b7H (H : Heap) (i : Nat) (b : Blk) (len : Nat) (oc : Option Nat) (h : len = b.xs.length) : frz (lid H i) b (.mu (lid H i) 0 len oc) = .sl b.wd b.xs := by
  simp [frz, h]
theorem b7I (H : Heap) (i : Nat) (b : Blk) (off len : Nat) (oc : Option Nat) (h : off + len ≤ b.xs.length) : frz (lid H i) b (.mu (lid H i) off len oc) = .sl b.wd ((b.xs.drop off).take len) := by
  simp [frz, h]
theorem a4G (H : Heap) (i j : Nat) (b : Blk) (off len : Nat) (oc : Option Nat) (h : j ≠ i) : frz (lid H i) b (.mu (lid H j) off len oc) = .mu (lid H j) off len oc := by
  have : lid H j ≠ lid H i := by simp only [lid]; omega
  simp [frz, this]
theorem a2q (H : Heap) (i j : Nat) (b : Blk) (k off : Nat) (h : j ≠ i) : frz (lid H i) b (.loc (lid H j) k off) = .loc (lid H j) k off := by
  have : lid H j ≠ lid H i := by simp only [lid]; omega
  simp [frz, this]
theorem a7W (H : Heap) (i : Nat) (b : Blk) (k off : Nat) (h : k < b.xs.length) : frz (lid H i) b (.loc (lid H i) k off) = .ro (b.xs.getD k .top) off := by
  simp [frz, h]
section
variable (n0 : Nat) (env : Env) (H L : Heap)
def a5d (n : Nat) (p v : AV) (env : Env) (H : Heap) : Option (AV × Env × Heap) := match p with
  | .loc id i off => (hrow H id).bind fun b =>
        if i < b.xs.length ∧ v.fit = true ∧ v.cells.length = n ∧ off + n ≤ b.wd then some (.top, env, H.set id (some ⟨b.wd, b.xs.set i (upd (b.xs.getD i .top) b.wd off n v)⟩)) else none
  | _ => none
theorem c9R (n : Nat) (a v : Src) : ev n0 (.store n a v) env H = a5d n (a.ev env) (v.ev env) env H := by simp only [ev, a5d]; split <;> simp_all
theorem b1W (n i k off : Nat) (v : AV) {b : Blk} (hl : L[i]? = some (some b)) (hk : k < b.xs.length) (hf : v.fit = true) (hn : v.cells.length = n) (ho : off + n ≤ b.wd) :
    a5d n (.loc (lid H i) k off) v env (hap H L) = some (.top, env, hap H (L.set i (some ⟨b.wd, b.xs.set k (upd (b.xs.getD k .top) b.wd off n v)⟩))) := by
  simp only [a5d, a1I, hl, Option.join_some, Option.bind_some, a6T]
  rw [if_pos ⟨hk, hf, hn, ho⟩]
theorem d3H (n : Nat) (v : Src) : ev n0 (.box n v) env H = if (v.ev env).fit = true ∧ (v.ev env).cells.length = n ∧ 0 < n then some (.loc H.length 0 0, env, H ++ [some ⟨n, [v.ev env]⟩]) else none := rfl
theorem d3G (wd : Nat) (ps : List Src) : ev n0 (.bsl wd ps) env H = if 0 < wd ∧ ps.all (fun s => (s.ev env).fit && decide ((s.ev env).cells.length = wd) && (s.ev env).cells.all clb) then some (.sl wd (ps.map (·.ev env)), env, H) else none := rfl
theorem d2i (wd : Nat) (ps : List Src) : ev n0 (.bslm wd ps) env H = if 0 < wd ∧ ps.all (fun s => (s.ev env).fit && decide ((s.ev env).cells.length = wd)) then
      some (.mu H.length 0 ps.length (some ps.length), env, H ++ [some ⟨wd, ps.map (·.ev env)⟩]) else none := rfl
def c5u (wd bytes : Nat) (z l c : AV) (env : Env) (H : Heap) : Option (AV × Env × Heap) := match l, c with
    | .int _ l, .int _ c => if 0 < wd ∧ 0 ≤ l ∧ l ≤ c ∧ (bytes : Int) * c ≤ 281474976710656 ∧ c ≤ 9223372036854775807 then
        some (.mu H.length 0 l.toNat (some c.toNat), env, H ++ [some ⟨wd, List.replicate l.toNat z⟩]) else none
    | _, _ => none
theorem d2h (wd bytes : Nat) (z : AV) (l c : Src) : ev n0 (.mksl wd bytes z l c) env H = c5u wd bytes z (l.ev env) (c.ev env) env H := by simp only [ev, c5u]; split <;> simp_all
theorem b6D (wd bytes : Nat) (z : AV) (k k' : IntKind) (l c : Nat) (h0 : 0 < wd) (h1 : l ≤ c) (h2 : bytes * c ≤ 281474976710656) (h3 : c ≤ 9223372036854775807) :
    c5u wd bytes z (.int k l) (.int k' c) env (hap H L) = some (.mu (lid H L.length) 0 l (some c), env, hap H (L ++ [some ⟨wd, List.replicate l z⟩])) := by
  simp only [c5u, c3s, b2G, Int.toNat_natCast]
  rw [if_pos ⟨h0, by omega, by omega, by rw [← Int.natCast_mul]; omega, by omega⟩]
noncomputable def appV (n0 wd bytes : Nat) (str : Bool) (x y : AV) (env : Env) (H : Heap) : Option (AV × Env × Heap) := (a0C H wd str y).bind fun ys =>
      match x with
      | .nil => if 0 < wd ∧ ys.length * bytes ≤ 140737488355328 ∧ ys.length ≤ 9223372036854775807 then some (.mu H.length 0 ys.length none, env, H ++ [some ⟨wd, ys⟩]) else none
      | .mu id off len oc => (hrow H id).bind fun r =>
          if r.wd = wd ∧ off = 0 ∧ len ≤ r.xs.length ∧ n0 ≤ id ∧ 0 < ys.length ∧ (oc.any fun c => decide (len + ys.length ≤ c)) = true then
            some (.mu id 0 (len + ys.length) oc, env, H.set id (some ⟨wd, r.xs.take len ++ ys⟩)) else
          if r.wd = wd ∧ off = 0 ∧ len ≤ r.xs.length ∧ n0 ≤ id ∧ free H id = true ∧ (ys.flatMap AV.cells).all (nref id) = true ∧ (r.xs.flatMap AV.cells).all (nref id) = true ∧
              (len + ys.length) * bytes ≤ 140737488355328 ∧ len + ys.length ≤ 9223372036854775807 then
            some (.mu id 0 (len + ys.length) (a0Q oc (len + ys.length)), scrub id env, H.set id (some ⟨wd, r.xs.take len ++ ys⟩)) else
          if r.wd = wd ∧ off + len ≤ r.xs.length ∧ 0 < ys.length ∧ (oc.any fun c => decide (c < len + ys.length)) = true ∧ (len + ys.length) * bytes ≤ 140737488355328 ∧ len + ys.length ≤ 9223372036854775807 then
            some (.mu H.length 0 (len + ys.length) none, env, H ++ [some ⟨wd, (r.xs.drop off).take len ++ ys⟩]) else none
      | _ => none
theorem d3I (wd bytes : Nat) (str : Bool) (a b : Src) : ev n0 (.app wd bytes str a b) env H = appV n0 wd bytes str (a.ev env) (b.ev env) env H := by
  simp only [ev, appV]; cases a0C H wd str (b.ev env) <;> simp only [Option.bind_none, Option.bind_some]; split <;> simp_all
theorem c4w (wd bytes : Nat) (str : Bool) (y : AV) (ys : List AV) (hy : a0C (hap H L) wd str y = some ys) (h0 : 0 < wd) (h1 : ys.length * bytes ≤ 140737488355328) (h2 : ys.length ≤ 9223372036854775807) :
    appV n0 wd bytes str .nil y env (hap H L) = some (.mu (lid H L.length) 0 ys.length none, env, hap H (L ++ [some ⟨wd, ys⟩])) := by
  simp only [appV, hy, Option.bind_some, c3s, b2G]
  rw [if_pos ⟨h0, h1, h2⟩]
/-- No row of these names the i-th. -/
def d0y (H : Heap) (L : Heap) (i : Nat) : Prop := ∀ (j : Nat) b, L[j]? = some (some b) → ∀ a ∈ b.flat, Ref (· ≠ lid H i) a
theorem a8r {H L : Heap} {i : Nat} (h : ∀ b, some b ∈ L → ∀ a ∈ b.flat, Cl a) : d0y H L i := fun j b hb a ha => (h b (List.mem_of_getElem? hb) a ha).ref
theorem c9L {H L : Heap} {i : Nat} (hH : a0S H) (h : d0y H L i) : free (hap H L) (lid H i) = true := by
  rw [c0r]
  intro j bj hj hb a ha
  rcases Nat.lt_or_ge j H.length with hlt | hge
  · simp only [hap] at hb
    rw [List.getElem?_append_left hlt] at hb
    exact (hH j bj hb a ha).mono fun k hk => by show k ≠ lid H i; simp only [lid]; omega
  · simp only [hap] at hb
    rw [List.getElem?_append_right hge] at hb
    exact h _ bj hb a ha
theorem a8s (wd bytes : Nat) (str : Bool) (i len : Nat) (oc : Option Nat) (y : AV) (xs ys : List AV) (hH : a0S H) (hl : L[i]? = some (some ⟨wd, xs⟩)) (hlen : len = xs.length) (hn : n0 ≤ lid H i) (hy : a0C (hap H L) wd str y = some ys) (ha : d0y H L i)
    (hys : ∀ a ∈ ys.flatMap AV.cells, Ref (· ≠ lid H i) a) (h1 : (len + ys.length) * bytes ≤ 140737488355328) (h2 : len + ys.length ≤ 9223372036854775807) (hoc : (oc.any fun c => decide (len + ys.length ≤ c)) = false) :
    appV n0 wd bytes str (.mu (lid H i) 0 len oc) y env (hap H L) = some (.mu (lid H i) 0 (len + ys.length) (a0Q oc (len + ys.length)), scrub (lid H i) env, hap H (L.set i (some ⟨wd, xs ++ ys⟩))) := by
  subst hlen
  simp only [appV, hy, Option.bind_some, a1I, hl, Option.join_some, a6T]
  rw [if_neg (fun h => by rw [hoc] at h; exact absurd h.2.2.2.2.2 (by decide)), if_pos]
  · simp
  · refine ⟨trivial, trivial, Nat.le_refl _, hn, c9L hH ha, ?_, ?_, h1, h2⟩
    · rw [List.all_eq_true]; intro a h; exact a0s.2 (hys a h)
    · rw [List.all_eq_true]; intro a h; exact a0s.2 (ha i _ hl a h)
/-- Where there is room, what else names the row stays. -/
theorem c8p (wd bytes : Nat) (str : Bool) (i len c : Nat) (y : AV) (xs ys : List AV) (hl : L[i]? = some (some ⟨wd, xs⟩)) (hlen : len = xs.length) (hn : n0 ≤ lid H i) (hy : a0C (hap H L) wd str y = some ys) (h0 : 0 < ys.length) (hc : len + ys.length ≤ c) :
    appV n0 wd bytes str (.mu (lid H i) 0 len (some c)) y env (hap H L) = some (.mu (lid H i) 0 (len + ys.length) (some c), env, hap H (L.set i (some ⟨wd, xs ++ ys⟩))) := by
  subst hlen
  simp only [appV, hy, Option.bind_some, a1I, hl, Option.join_some, a6T]
  rw [if_pos]
  · simp
  · exact ⟨trivial, trivial, Nat.le_refl _, hn, h0, by simpa using hc⟩
theorem a1L (wd : Nat) (xs : List AV) : a0C H wd false (.sl wd xs) = some xs := by simp [a0C]
theorem c6y (wd i off len : Nat) (oc : Option Nat) (xs : List AV) (hl : L[i]? = some (some ⟨wd, xs⟩)) (h : off + len ≤ xs.length) : a0C (hap H L) wd false (.mu (lid H i) off len oc) = some ((xs.drop off).take len) := by
  simp [a0C, a1I, hl, h]
end
theorem d2e (k : IntKind) (n : Int) : (AV.int k n).fit = true := rfl
theorem c9P (b : Bool) : (AV.bool b).fit = true := rfl
theorem d2b (s : ByteArray) : (AV.str s).fit = true := rfl
theorem d2f (cs : List AV) : (AV.agg cs).fit = true := rfl
theorem d3A (wd : Nat) (xs : List AV) : (AV.sl wd xs).fit = true := rfl
theorem d2c : AV.nil.fit = true := rfl
theorem d3C (id off len : Nat) (oc : Option Nat) : (AV.mu id off len oc).fit = true := rfl
theorem d2d (id i off : Nat) : (AV.loc id i off).fit = true := rfl
theorem d3D (f : FuncId) (cs : List AV) : (AV.fn f cs).fit = true := rfl
theorem d3B (x : AV) (off : Nat) : (AV.ro x off).fit = true := rfl
theorem a6R (x : AV) (wd : Nat) (v : AV) : upd x wd 0 wd v = v := by simp [upd]
theorem c8T (env : Env) (H : Heap) : resL env H [] = some [] := rfl
theorem c8S (env : Env) (H : Heap) (t : Nat) (r : List ResV) : resL env H (.tmp t :: r) = (resL env H r).map (look env t :: ·) := rfl
theorem c6M (env : Env) (H : Heap) (t : Nat) (n : Option Nat) (r : List ResV) : resL env H (.cell t n :: r) = (b7v H n (look env t)).bind fun a => (resL env H r).map (a :: ·) := rfl
theorem c6S (a : AV) : b4J [a] = a := rfl
theorem c6R (a b : AV) (r : List AV) : b4J (a :: b :: r) = .tup (a :: b :: r) := rfl
theorem c6T : b4J [] = .tup [] := rfl
/-- What a call answers with. -/
def gret (o : Option (List AV)) (k : AV → Prop) : Prop := match o with
  | some aXs => k (b4J aXs)
  | none => False
theorem c7D (aXs : List AV) (k : AV → Prop) : gret (some aXs) k = k (b4J aXs) := rfl
@[congr] theorem d2Q {x y : Option (List AV)} {k : AV → Prop} (h : x = y) : gret x k = gret y k := by rw [h]
theorem Safe.retn {x : Cx} {todo : List AItem} {env : Env} {H : Heap} {R : AV → Heap → Prop} (h : gret (resL env H x.rs) fun r => R r H) : Safe x (.code .ret :: todo) env H R := by
  unfold gret at h
  split at h
  · rename_i aXs ha; exact Safe.ret ha h
  · exact h.elim
theorem Safe.donen {x : Cx} {env : Env} {H : Heap} {R : AV → Heap → Prop} (h : gret (resL env H x.rs) fun r => R r H) : Safe x [] env H R := by
  unfold gret at h
  split at h
  · rename_i aXs ha; exact Safe.done ha h
  · exact h.elim
theorem c0I : (0 < 1) = True := by decide
/-- The evaluator. -/
def EV := And.intro (And.intro (And.intro (@c3G) (@c1S)) (And.intro (@d2K) (@d2r))) <| And.intro (And.intro (And.intro (And.intro (And.intro (And.intro (And.intro (@d0x) (@c8r)) (And.intro (@c8q) (And.intro (@d2H) (@d2I)))) (And.intro (And.intro (@c5Y) (@c3Q)) (And.intro (@c8e) (And.intro (@c9W) (@c7R))))) (And.intro (And.intro (And.intro (@c7Q) (@d2o)) (And.intro (@d2p) (And.intro (@c5T) (@c3L)))) (And.intro (And.intro (@c7T) (@c5b)) (And.intro (@c5c) (And.intro (@c5R) (@c5S)))))) (And.intro (And.intro (And.intro (And.intro (@c5N) (@d3S)) (And.intro (@d3T) (And.intro (@c7m) (@c9u)))) (And.intro (And.intro (@c8W) (@c8X)) (And.intro (@c7O) (And.intro (@c5Q) (@d3W))))) (And.intro (And.intro (And.intro (@d1o) (@c4Z)) (And.intro (@c1h) (And.intro (@c8Y) (@d3d)))) (And.intro (And.intro (@d1r) (@c9w)) (And.intro (@d3g) (And.intro (@d3h) (@d3M))))))) (And.intro (And.intro (And.intro (And.intro (And.intro (@d3L) (@d3V)) (And.intro (@d0V) (And.intro (@d0U) (@d1v)))) (And.intro (And.intro (@c7U) (@d3e)) (And.intro (@c9Q) (And.intro (@d1u) (@d2a))))) (And.intro (And.intro (And.intro (@c9N) (@d1t)) (And.intro (@d1s) (And.intro (@c9D) (@d1q)))) (And.intro (And.intro (@d3b) (@d1n)) (And.intro (@d3f) (And.intro (@d1p) (@d3c)))))) (And.intro (And.intro (And.intro (And.intro (@c9p) (@d3i)) (And.intro (@d0w) (And.intro (@c3t) (@c9v)))) (And.intro (And.intro (@b2u) (@d0n)) (And.intro (@d0m) (And.intro (@c4s) (@d0l))))) (And.intro (And.intro (And.intro (@d0p) (@d2E)) (And.intro (@d0v) (And.intro (@d0k) (@d0u)))) (And.intro (And.intro (@d0o) (And.intro (@d0q) (@d0r))) (And.intro (@d0s) (And.intro (@d0t) (@c2f)))))))) (And.intro (And.intro (And.intro (And.intro (And.intro (And.intro (@c8j) (@c7n)) (And.intro (@d3P) (And.intro (@b7T) (@c8d)))) (And.intro (And.intro (@c8c) (@c5V)) (And.intro (@c7Z) (And.intro (@c8a) (@c8b))))) (And.intro (And.intro (And.intro (@d0e) (@c4n)) (And.intro (@c1Z) (And.intro (@d0f) (@a1I)))) (And.intro (And.intro (@c3s) (@a6T)) (And.intro (@b2G) (And.intro (@d3t) (@c5X)))))) (And.intro (And.intro (And.intro (And.intro (@join_some) (@c9x)) (And.intro (@c7t) (And.intro (@c9R) (@d3H)))) (And.intro (And.intro (@d3G) (@d2i)) (And.intro (@d2h) (And.intro (@d3I) (@d2e))))) (And.intro (And.intro (And.intro (@c9P) (@d2b)) (And.intro (@d2f) (And.intro (@d3A) (@d2c)))) (And.intro (And.intro (@d3C) (@d2d)) (And.intro (@d3D) (And.intro (@d3B) (@d2x))))))) (And.intro (And.intro (And.intro (And.intro (And.intro (@b5j) (@d2v)) (And.intro (@d2w) (And.intro (@c9d) (@c9i)))) (And.intro (And.intro (@c6V) (@c9e)) (And.intro (@c9f) (And.intro (@c9h) (@d1B))))) (And.intro (And.intro (And.intro (@d1C) (@c9j)) (And.intro (@c9c) (And.intro (@d1E) (@d1D)))) (And.intro (And.intro (@c9g) (@c6H)) (And.intro (@c4U) (And.intro (@d1Y) (@c9G)))))) (And.intro (And.intro (And.intro (And.intro (@d1V) (@d1W)) (And.intro (@d1U) (And.intro (@d1X) (@d3y)))) (And.intro (And.intro (@d0L) (@d1Z)) (And.intro (@d1T) (And.intro (@d3z) (@c9K))))) (And.intro (And.intro (And.intro (@c7K) (@c9H)) (And.intro (@c7J) (And.intro (@c7I) (@a6R)))) (And.intro (And.intro (@c8T) (And.intro (@c8S) (@c6M))) (And.intro (@c6S) (And.intro (@c6R) (And.intro @c6T (And.intro @c7D @c0I)))))))))
def EVC := And.intro (And.intro (And.intro (And.intro (And.intro (@List.map_cons.{0,0}) (@List.map_nil.{0,0})) (And.intro (@List.length_cons.{0}) (And.intro (@List.length_nil.{0}) (@List.cons_append.{0})))) (And.intro (And.intro (@List.nil_append.{0}) (@List.all_cons.{0})) (And.intro (@List.all_nil.{0}) (And.intro (@Option.map_some.{0,0}) (@Option.map_none.{0,0}))))) (And.intro (And.intro (And.intro (@Option.bind_some.{0,0}) (@Option.bind_none.{0,0})) (And.intro (@Option.isSome_some.{0}) (And.intro (@List.getElem?_cons_zero.{0}) (@List.getElem?_cons_succ.{0})))) (And.intro (And.intro (@List.set_cons_zero.{0}) (@List.set_cons_succ.{0})) (And.intro (@Option.join_some.{0}) (And.intro (@List.getD_cons_zero.{0}) (@List.drop_zero.{0})))))) (And.intro (And.intro (And.intro (And.intro (And.intro (@if_true.{0}) (@if_true.{1})) (And.intro (@if_false.{0}) (@if_false.{1}))) (And.intro (@Bool.false_eq_true) (And.intro (@Bool.true_and) (@Bool.and_true)))) (And.intro (And.intro (@Bool.not_true) (@Bool.not_false)) (And.intro (@decide_true) (And.intro (@decide_false) (@Bool.and_self))))) (And.intro (And.intro (And.intro (@ne_eq.{1}) (@not_true_eq_false)) (And.intro (@not_false_eq_true) (And.intro (@and_self) (@and_true)))) (And.intro (And.intro (@true_and) (@Nat.zero_add)) (And.intro (@Nat.add_zero) (And.intro (@Option.some.injEq.{0}) (@Nat.lt_add_one))))))
end Go.Abs
namespace Go.Abs
/-- Whatever is the one is the other. -/
def Le (a b : AV) : Prop := ∀ E v, Rep E v a → Rep E v b
theorem Le.refl (a : AV) : Le a a := fun _ _ h => h
theorem Le.trans {a b c : AV} (h : Le a b) (k : Le b c) : Le a c := fun E v r => k E v (h E v r)
theorem Le.nil (wd : Nat) (h : 0 < wd) : Le .nil (.sl wd []) := fun E v r => b8C wd h r
theorem Le.top (a : AV) : Le a .top := fun E v r => .top v
theorem Le.agg {aXs bs : List AV} (hl : aXs.length = bs.length) (h : ∀ (k : Nat) a b, aXs[k]? = some a → bs[k]? = some b → Le a b) : Le (.agg aXs) (.agg bs) := by
  intro E v r
  cases r with
  | agg vs _ hlen h1 hrep =>
    refine .agg vs bs (by omega) h1 fun k v b hv hb => ?_
    have hk := a0h hb
    exact h k _ b (List.getElem?_eq_getElem (by omega)) hb E v (hrep k v _ hv (List.getElem?_eq_getElem (by omega)))
  | dead v a id hr hd h1 => simp [AV.ref] at hr
theorem Le.tup {aXs bs : List AV} (hl : aXs.length = bs.length) (h : ∀ (k : Nat) a b, aXs[k]? = some a → bs[k]? = some b → Le a b) : Le (.tup aXs) (.tup bs) := by
  intro E v r
  cases r with
  | tup vs _ hlen hrep =>
    refine .tup vs bs (by omega) fun k v b hv hb => ?_
    have hk := a0h hb
    exact h k _ b (List.getElem?_eq_getElem (by omega)) hb E v (hrep k v _ hv (List.getElem?_eq_getElem (by omega)))
  | dead v a id hr hd h1 => simp [AV.ref] at hr
theorem Le.agg2 {a b c d : AV} (h : Le a c) (k : Le b d) : Le (.agg [a, b]) (.agg [c, d]) := Le.agg rfl fun i x y hx hy => by
  match i with
  | 0 => cases hx; cases hy; exact h
  | 1 => cases hx; cases hy; exact k
theorem Le.tup2 {a b c d : AV} (h : Le a c) (k : Le b d) : Le (.tup [a, b]) (.tup [c, d]) := Le.tup rfl fun i x y hx hy => by
  match i with
  | 0 => cases hx; cases hy; exact h
  | 1 => cases hx; cases hy; exact k
theorem a0i.cutL {P : Program} {f : FuncId} {args : List AV} {H : Heap} {r : AV} (hr : Ref (· < H.length) r) (h : a0i P f args H fun r' H' => Le r' r ∧ ∃ L, H' = hap H L) : a0i P f args H fun r' H' => r' = r ∧ H' = H := by
  refine ⟨h.1, fun φ w vs hok hl hrep => (h.2 φ w vs hok hl hrep).mono ?_⟩
  rintro e w' ⟨v, r', φ', H', rfl, ⟨hle, L, rfl⟩, q1, q2, q3, q4⟩
  have hfree : ∀ (j : Nat) bj, j < H.length → (hap H L)[j]? = some (some bj) → ∀ a ∈ bj.flat, Ref (· < H.length) a := by
    intro j bj hj hb
    simp only [hap] at hb
    rw [List.getElem?_append_left hj] at hb
    exact hok.refs hb
  have hcut := HOk.cut q1 H.length hfree
  have ht : (hap H L).take H.length = H := by simp [hap]
  simp only [ht] at hcut
  exact ⟨v, r, φ', H, rfl, ⟨rfl, rfl⟩, hcut.1, (hle _ _ q2).mono hcut.2 hr, Nat.le_refl _, q4.trans hcut.2⟩
theorem a0g.introL {P : Program} {mu : Nat → Nat → Bool} {f : FuncId} {fn : Func} (hf : P.funcs[f]? = some fn) {ac : ACode} {rs : List ResV} {nt : Nat} (hc : fchk P mu fn = some (ac, rs, nt))
    {args : List AV} {r : AV} (ha : args.length ≤ nt) (hr : Cl r) (h : ∀ H, a0S H → Safe ⟨P, mu, f, nt, rs, H.length⟩ [.code ac] (b4U 0 args) (hap H []) fun r' H' => Le r' r ∧ ∃ L, H' = hap H L) : a0g P f args r := by
  intro H
  refine a0i.cutL hr.ref (a0i.intro hf hc ha fun hH => ?_)
  have := h H hH
  rw [a1C] at this
  exact this
/-- A row's elements told aXs others that tell less. -/
theorem Safe.toldRow (i : Nat) {x : Cx} {todo : List AItem} {env : Env} {H L : Heap} {R : AV → Heap → Prop} {b b' : Blk} (hl : L[i]? = some (some b)) (hw : b'.wd = b.wd) (hx : ∀ y ∈ b'.xs, y.cells.length = b.wd) (hlen : b'.flat.length = b.flat.length) (hemp : b.xs = [] → b'.xs = [])
    (hle : ∀ (k : Nat) a c, b.flat[k]? = some a → b'.flat[k]? = some c → Le a c) (h : Safe x todo env (hap H (L.set i (some b'))) R) (hpos : 0 < b.wd := by exact Nat.zero_lt_succ _) : Safe x todo env (hap H L) R := by
  intro φ w tmps bf k cs hg hn hb hk htd hsz hok he
  have hl' : (hap H L)[lid H i]? = some (some b) := by
    unfold hap lid
    rw [List.getElem?_append_right (by omega), Nat.add_sub_cancel_left]; exact hl
  have hget : ∀ (j : Nat), (hap H (L.set i (some b')))[j]? = if lid H i = j then some (some b') else (hap H L)[j]? := by
    intro j
    rw [← a6T]
    exact a3B _ _ _ (a0f hl') j
  have hx2 : ∀ w : World, Ext All ⟨φ, hap H L, w⟩ ⟨φ, hap H (L.set i (some b')), w⟩ := by
    intro w
    refine ⟨rfl, rfl, rfl, Nat.le_refl _, by simp [hap], fun _ _ _ => rfl, ?_, fun _ _ _ _ _ _ _ => rfl, ?_, fun _ _ _ => rfl⟩
    · intro j blk' _ _ hb'
      rw [hget] at hb'
      split at hb'
      · rename_i hj; subst hj; simp at hb'; subst hb'; exact ⟨b, hl', hw.symm⟩
      · exact ⟨blk', hb', rfl⟩
    · rintro b0 _ ⟨j, blk', hb', hp⟩
      simp only [hget] at hb'
      split at hb'
      · rename_i hj; subst hj; exact ⟨_, b, hl', hp⟩
      · exact ⟨j, blk', hb', hp⟩
  have live : ∀ (j : Nat) blk', (hap H (L.set i (some b')))[j]? = some (some blk') → (j = lid H i ∧ blk' = b') ∨ (j ≠ lid H i ∧ (hap H L)[j]? = some (some blk')) := by
    intro j blk' hb'
    rw [hget] at hb'
    split at hb'
    · rename_i hj; simp at hb'; exact .inl ⟨hj.symm, hb'.symm⟩
    · rename_i hj; exact .inr ⟨fun e => hj e.symm, hb'⟩
  have hok' : HOk ⟨φ, hap H (L.set i (some b')), w⟩ := by
    refine ⟨fun j x bl h h0 hp => ?_, fun j x h => ?_, fun j x bl h hp => ?_, fun j x h hp => ?_, fun j1 j2 x y bl h1 h2 p1 p2 => ?_⟩
    · rcases live j x h with ⟨rfl, rfl⟩ | ⟨_, h'⟩
      · omega
      · rcases hok.obj j x bl h' h0 hp with ⟨L, q1, q2⟩ | ⟨mid, n, seen, m, q1, q2, q3, q4⟩
        · exact .inl ⟨L, q1, q2⟩
        · refine .inr ⟨mid, n, seen, m, q1, q2, q3, fun blk hb => ?_⟩
          rcases live mid blk hb with ⟨rfl, rfl⟩ | ⟨_, hb'⟩
          · exact absurd (q4 b hl').1 (by omega)
          · exact q4 blk hb'
    · rcases live j x h with ⟨rfl, rfl⟩ | ⟨_, h'⟩
      · rw [hw]; exact hx
      · exact hok.wids j x h'
    · have mv : ∀ {v a}, Rep ⟨φ, hap H L, w⟩ v a → Rep ⟨φ, hap H (L.set i (some b')), w⟩ v a := fun r => r.mono (hx2 w) (r.ref.mono fun _ _ => trivial)
      rcases live j x h with ⟨rfl, rfl⟩ | ⟨_, h'⟩
      · obtain ⟨c, e, r⟩ := hok.row _ b bl hl' hp
        refine ⟨c, e, fun h0 => r.heap hpos, by rw [hlen]; exact r.fits, fun k v hk hv => r.one k v (by rw [← hlen]; exact hk) hv, fun k v a hv ha => ?_⟩
        have hk := a0h ha
        have ha' : b.flat[k]? = some (b.flat[k]'(by omega)) := List.getElem?_eq_getElem (by omega)
        exact mv (hle k _ a ha' ha _ _ (r.rep k v _ hv ha'))
      · obtain ⟨c, e, r⟩ := hok.row j x bl h' hp
        exact ⟨c, e, r.heap, r.fits, r.one, fun k v a hv ha => mv (r.rep k v a hv ha)⟩
    · rcases live j x h with ⟨rfl, rfl⟩ | ⟨_, h'⟩
      · exact hemp (hok.emp _ b hl' hp)
      · exact hok.emp j x h' hp
    · have g1 : ∃ z, (hap H L)[j1]? = some (some z) := by rcases live j1 x h1 with ⟨rfl, _⟩ | ⟨_, h'⟩; exact ⟨b, hl'⟩; exact ⟨x, h'⟩
      have g2 : ∃ z, (hap H L)[j2]? = some (some z) := by rcases live j2 y h2 with ⟨rfl, _⟩ | ⟨_, h'⟩; exact ⟨b, hl'⟩; exact ⟨y, h'⟩
      obtain ⟨_, g1⟩ := g1
      obtain ⟨_, g2⟩ := g2
      exact hok.inj j1 j2 _ _ bl g1 g2 p1 p2
  obtain ⟨v, w', fr, r, φ', H', q1, q2, q3, q4, q5, q6⟩ := h φ w tmps bf k cs hg (by simpa [hap] using hn) hb hk htd hsz hok' (fun t => (he t).mono (hx2 w) ((he t).ref.mono fun _ _ => trivial))
  exact ⟨v, w', fr, r, φ', H', q1, q2, q3, q4, ((hx2 w).sub fun _ _ => trivial).trans q5, q6⟩
theorem d0Z (n i off : Nat) (v : AV) (env : Env) (H L : Heap) : a5d n (.loc (lid H i) 0 off) v env (hap H L) = (L[i]?).join.bind fun b =>
    if 0 < b.xs.length ∧ v.fit = true ∧ v.cells.length = n ∧ off + n ≤ b.wd then some (.top, env, hap H (L.set i (some ⟨b.wd, b.xs.set 0 (upd (b.xs.getD 0 .top) b.wd off n v)⟩))) else none := by
  simp only [a5d, a1I, a6T]
theorem d0j (env : Env) (cs : List AV) : bldV env cs [] = some cs := rfl
theorem c8h (env : Env) (cs : List AV) (off n : Nat) (s : Src) (r : List (Nat × Nat × Src)) :
    bldV env cs ((off, n, s) :: r) = if (s.ev env).cells.length = n ∧ off + n ≤ cs.length ∧ (s.ev env).fit = true then bldV env (a1r cs off (s.ev env).cells) r else none := rfl
theorem c6B (cs : List AV) (off : Nat) (aXs : List AV) : a1r cs off aXs = cs.take off ++ aXs ++ cs.drop (off + aXs.length) := rfl
def EV2 := And.intro (And.intro @d0Z (And.intro @d0j (And.intro @c8h @c6B))) (And.intro (And.intro (And.intro (@List.drop_succ_cons.{0}) (@List.take_succ_cons.{0})) (And.intro (@List.take_zero.{0}) (@List.take_nil.{0}))) (And.intro (And.intro (@List.drop_nil.{0}) (@List.append_nil.{0})) (And.intro (@Nat.le_refl) (@Nat.lt_irrefl))))
end Go.Abs
namespace Go.Abs
section
variable {x : Cx} {l : ACode} {todo : List AItem} {R : AV → Heap → Prop}
/-- The structural steps. -/
def stl : Nat → List AItem → List AItem
  | 0, k => k
  | n + 1, .code (.seq a b) :: k => stl n (.code a :: .code b :: k)
  | n + 1, .code .skip :: k => stl n k
  | n + 1, .code (.block id a) :: k => stl n (.code a :: .inBlock id :: k)
  | n + 1, .inBlock _ :: k => stl n k
  | n + 1, .code (.scope a) :: k => stl n (.code a :: .inScope a :: k)
  | n + 1, .inScope _ :: k => stl n k
  | n + 1, .code (.exit id) :: k => match b8r id k with
    | some k' => stl n k'
    | none => .code (.exit id) :: k
  | n + 1, .code (.label _) :: k => stl n k
  | n + 1, .code (.goto l) :: k => match b8p l k with
    | some k' => stl n k'
    | none => .code (.goto l) :: k
  | _, k => k
theorem Safe.stl {env : Env} {H : Heap} : ∀ (n : Nat) (k : List AItem), Safe x (stl n k) env H R → Safe x k env H R := by
  intro n
  induction n with
  | zero => intro k h; cases k <;> exact h
  | succ n ih =>
    intro k h
    unfold Abs.stl at h
    split at h
    · rename_i h0; cases h0
    · rename_i h0; cases h0; exact Safe.seq (ih _ h)
    · rename_i h0; cases h0; exact Safe.skip (ih _ h)
    · rename_i h0; cases h0; exact Safe.block (ih _ h)
    · rename_i h0; cases h0; exact Safe.inBlock (ih _ h)
    · rename_i h0; cases h0; exact Safe.scope (ih _ h)
    · rename_i h0; cases h0; exact Safe.inScope (ih _ h)
    · rename_i h0; cases h0
      split at h
      · rename_i he; exact Safe.exit he (ih _ h)
      · exact h
    · rename_i h0; cases h0; exact Safe.label (ih _ h)
    · rename_i h0; cases h0
      split at h
      · rename_i he; exact Safe.goto he (ih _ h)
      · exact h
    · exact h
theorem Safe.rg {env : Env} {H : Heap} {k k' : List AItem} {b : Bool} {l : List AIns} (e : Abs.stl 40 k = .code (.region l b) :: k')
    (h : if b = true then dops x.P x.n0 l (fun env' H' => Safe x k' env' H' R) env H else aops x.P x.n0 l (fun env' H' => Safe x k' env' H' R) env H) : Safe x k env H R := by
  refine Safe.stl 40 k ?_
  rw [e]
  cases b
  · exact Safe.region h
  · exact Safe.regionD h
theorem Safe.cd {env : Env} {H : Heap} {k k' : List AItem} {s : Src} {a b : ACode} (e : Abs.stl 40 k = .code (.cond s a b) :: k')
    (h : c5O (s.ev env) fun c => if c then Safe x (.code a :: k') env H R else Safe x (.code b :: k') env H R) : Safe x k env H R := by
  refine Safe.stl 40 k ?_
  rw [e]
  exact Safe.cond h
theorem Safe.lp {env : Env} {H : Heap} {k k' : List AItem} {a : ACode} (e : Abs.stl 40 k = .code (.loop a) :: k') (h : Safe x (.inLoop a :: k') env H R) : Safe x k env H R := by
  refine Safe.stl 40 k ?_
  rw [e]
  exact Safe.loop h
theorem Safe.rt {env : Env} {H : Heap} {k k' : List AItem} (e : Abs.stl 40 k = .code .ret :: k') (h : gret (resL env H x.rs) fun r => R r H) : Safe x k env H R := by
  refine Safe.stl 40 k ?_
  rw [e]
  exact Safe.retn h
theorem Safe.loopP (n : Nat) (E : Nat → Env) (G : Nat → Heap) (P : Nat → Prop) {env : Env} {H : Heap} (he : env = E 0) (hG : H = G 0) (h0 : P 0)
    (step : ∀ i, i < n → P i → (P (i + 1) → Safe x (.inLoop l :: todo) (E (i + 1)) (G (i + 1)) R) → Safe x (.inLoop l :: todo) (E i) (G i) R)
    (last : P n → Safe x (.inLoop l :: todo) (E n) (G n) R) : Safe x (.inLoop l :: todo) env H R := by
  subst he; subst hG
  have key : ∀ k i, i + k = n → P i → Safe x (.inLoop l :: todo) (E i) (G i) R := by
    intro k
    induction k with
    | zero => intro i hi hp; rw [show i = n by omega] at hp ⊢; exact last hp
    | succ k ih => intro i hi hp; exact step i (by omega) hp fun hp' => ih (i + 1) (by omega) hp'
  exact key n 0 (by omega) h0
theorem Safe.loopN (n : Nat) (E : Nat → Env) (G : Nat → Heap) {env : Env} {H : Heap} (he : env = E 0) (hG : H = G 0)
    (step : ∀ i, i < n → Safe x (.inLoop l :: todo) (E (i + 1)) (G (i + 1)) R → Safe x (.inLoop l :: todo) (E i) (G i) R)
    (last : Safe x (.inLoop l :: todo) (E n) (G n) R) : Safe x (.inLoop l :: todo) env H R :=
  Safe.loopP n E G (fun _ => True) he hG trivial (fun i hi _ ih => step i hi (ih trivial)) fun _ => last
/-- A loop that counts down. -/
theorem Safe.loopD (n : Nat) (E : Nat → Env) (G : Nat → Heap) {env : Env} {H : Heap} (he : env = E n) (hG : H = G n)
    (step : ∀ i, i < n → Safe x (.inLoop l :: todo) (E i) (G i) R → Safe x (.inLoop l :: todo) (E (i + 1)) (G (i + 1)) R)
    (last : Safe x (.inLoop l :: todo) (E 0) (G 0) R) : Safe x (.inLoop l :: todo) env H R := by
  subst he; subst hG
  have key : ∀ i, i ≤ n → Safe x (.inLoop l :: todo) (E i) (G i) R := by
    intro i
    induction i with
    | zero => intro _; exact last
    | succ i ih => intro hi; exact step i (by omega) (ih (by omega))
  exact key n (Nat.le_refl _)
/-- A loop with a measure. -/
theorem Safe.loopW {α : Type} (μ : α → Nat) (E : α → Env) (G : α → Heap) (P : α → Prop) (a0 : α) {env : Env} {H : Heap} (he : env = E a0) (hG : H = G a0) (h0 : P a0)
    (step : ∀ a, P a → (∀ b, P b → μ b < μ a → Safe x (.inLoop l :: todo) (E b) (G b) R) → Safe x (.inLoop l :: todo) (E a) (G a) R) : Safe x (.inLoop l :: todo) env H R := by
  subst he; subst hG
  have key : ∀ k a, μ a ≤ k → P a → Safe x (.inLoop l :: todo) (E a) (G a) R := by
    intro k
    induction k with
    | zero => intro a ha hp; exact step a hp fun b hb hlt => absurd hlt (by omega)
    | succ k ih => intro a ha hp; exact step a hp fun b hb hlt => ih b (by omega) hb
  exact key (μ a0) a0 (Nat.le_refl _) h0
theorem a1E {α β : Type} (f : α → β) (l : List α) {i : Nat} (h : i < l.length) : (l.take (i + 1)).map f = (l.take i).map f ++ [f l[i]] := by
  rw [List.take_succ_eq_append_getElem h, List.map_append]; rfl
theorem a5c {α : Type} (l : List α) {i : Nat} (h : i < l.length) : l.take (i + 1) = l.take i ++ [l[i]] := List.take_succ_eq_append_getElem h
end
end Go.Abs
namespace Go.Abs
theorem Ref.both {S T : Nat → Prop} {a : AV} (h : Ref S a) (k : Ref T a) : Ref (fun i => S i ∧ T i) a := by
  induction h with
  | top => exact .top
  | int => exact .int _ _
  | bool => exact .bool _
  | str => exact .str _
  | nil => exact .nil
  | lit => exact .lit _
  | sl => exact .sl _ _
  | ro => exact .ro _ _
  | mu i off len oc h => cases k with | mu _ _ _ _ h' => exact .mu i off len oc ⟨h, h'⟩
  | mp b i h => cases k with | mp _ _ h' => exact .mp b i ⟨h, h'⟩
  | mo l => exact .mo l
  | io i n seen => exact .io i n seen
  | loc i k off h => cases k with | loc _ _ _ h' => exact .loc i _ off ⟨h, h'⟩
  | agg cs h ih => cases k with | agg _ h' => exact .agg cs fun c hc => ih c hc (h' c hc)
  | tup cs h ih => cases k with | tup _ h' => exact .tup cs fun c hc => ih c hc (h' c hc)
  | fn f cs h ih => cases k with | fn _ _ h' => exact .fn f cs fun c hc => ih c hc (h' c hc)
  | bfn f cs h ih => cases k with | bfn _ _ h' => exact .bfn f cs fun c hc => ih c hc (h' c hc)
theorem c7k {env : Env} {id : Nat} (h : env.all (fun p => nref id p.2) = true) (t : Nat) : Ref (· ≠ id) (look env t) := by
  induction env with
  | nil => exact .top
  | cons p env ih =>
    simp only [List.all_cons, Bool.and_eq_true] at h
    simp only [look]
    split
    · exact a0s.1 h.1
    · exact ih h.2
theorem Safe.drop {x : Cx} {todo : List AItem} {env : Env} {H L : Heap} {R : AV → Heap → Prop} {o : Option Blk} (hH : a0S H) (hx : x.n0 = H.length) (he : env.all (fun p => nref (lid H L.length) p.2) = true)
    (hL : ∀ b, some b ∈ L → ∀ a ∈ b.flat, nref (lid H L.length) a = true) (h : Safe x todo env (hap H L) R) : Safe x todo env (hap H (L ++ [o])) R := by
  intro φ w tmps b k cs hg hn hb hk htd hsz hok hrep
  have hlen : (hap H (L ++ [o])).length = lid H L.length + 1 := by simp [hap, lid, Nat.add_assoc]
  have lt : ∀ {a}, Ref (· < (hap H (L ++ [o])).length) a → Ref (· ≠ lid H L.length) a → Ref (· < lid H L.length) a := fun h1 h2 => (h1.both h2).mono fun i ⟨q1, q2⟩ => by rw [hlen] at q1; show i < _; omega
  have htake : (hap H (L ++ [o])).take (lid H L.length) = hap H L := by
    simp only [hap, lid, ← List.append_assoc]
    rw [show H.length + L.length = (H ++ L).length by simp, List.take_left']
    rfl
  have hcut := HOk.cut (E := ⟨φ, hap H (L ++ [o]), w⟩) hok (lid H L.length) (by
    intro j bj hj hbj a ha
    refine lt (hok.refs hbj a ha) ?_
    simp only [hap] at hbj
    rcases Nat.lt_or_ge j H.length with hlt | hge
    · rw [List.getElem?_append_left hlt] at hbj
      exact (hH j bj hbj a ha).mono fun i hi => by show i ≠ H.length + L.length; have : i < H.length := hi; omega
    · rw [List.getElem?_append_right hge] at hbj
      have hj2 : j - H.length < L.length := by simp only [lid] at hj; omega
      rw [List.getElem?_append_left hj2] at hbj
      exact a0s.1 (hL bj (List.mem_of_getElem? hbj) a ha))
  simp only [htake] at hcut
  obtain ⟨v, w', fr, r, φ', H', q1, q2, q3, q4, q5, q6⟩ := h φ w tmps b k cs hg (by rw [hx]; simp [hap]) hb hk htd hsz hcut.1 (fun t => (hrep t).mono hcut.2 (lt (hrep t).ref (c7k he t)))
  exact ⟨v, w', fr, r, φ', H', q1, q2, q3, q4, (hcut.2.sub fun i hi => by rw [hx] at hi; show i < H.length + L.length; have : i < H.length := hi; omega).trans q5, q6⟩
/-- The same where the other rows are closed. -/
theorem Safe.dropC {x : Cx} {todo : List AItem} {env : Env} {H L : Heap} {R : AV → Heap → Prop} {o : Option Blk} (hH : a0S H) (hx : x.n0 = H.length) (he : env.all (fun p => nref (lid H L.length) p.2) = true)
    (hL : ∀ b, some b ∈ L → ∀ a ∈ b.flat, Cl a) (h : Safe x todo env (hap H L) R) : Safe x todo env (hap H (L ++ [o])) R :=
  Safe.drop hH hx he (fun b hb a ha => a1n (hL b hb a ha)) h
end Go.Abs
namespace Go.Abs
theorem a0g.ofBelow {P : Program} {f : FuncId} {fn : Func} (hf : P.funcs[f]? = some fn) (hn : (fn.name == "runtime.NumGoroutine") = false) (hb : fn.body.isSome = true) {args : List AV} {r : AV}
    (h : ∀ (E : Emb) (vs : List Value), HOk E → vs.length = args.length → (∀ (k : Nat) v a, vs[k]? = some v → args[k]? = some a → Rep E v a) →
      Calls P f vs.toArray E.w fun e w' => (∃ v, e = .returned v ∧ ∀ E', Rep E' v r) ∧ Go.RowKit.Below E.w.heap.size E.w w') : a0g P f args r := by
  intro H
  refine ⟨⟨fn, hf, hn, hb⟩, fun φ w vs hok hl hrep => (h ⟨φ, H, w⟩ vs hok hl hrep).mono ?_⟩
  rintro e w' ⟨⟨v, rfl, hv⟩, hbl⟩
  exact ⟨v, r, φ, H, rfl, ⟨rfl, rfl⟩, HOk.of_heap (E := ⟨φ, H, w⟩) hbl.os hbl.tape hbl.output hbl.size (fun b hb => hbl.block b hb) hok, hv _, Nat.le_refl _,
    Ext.of_heap (E := ⟨φ, H, w⟩) hbl.os hbl.tape hbl.output hbl.size (fun b hb => hbl.block b hb) hok⟩
end Go.Abs
namespace Go.Abs
theorem a0S.set {H : Heap} (h : a0S H) (id : Nat) {b : Blk} (hb : ∀ a ∈ b.flat, Ref (· < H.length) a) : a0S (H.set id (some b)) := by
  intro j bj hj a ha
  rw [List.length_set]
  rw [List.getElem?_set] at hj
  split at hj
  · split at hj
    · cases hj; exact hb a ha
    · cases hj
  · exact h j bj hj a ha
/-- A function's rows of its own are forgotten; what it wrote below stays. -/
theorem a0i.eff {P : Program} {mu : Nat → Nat → Bool} {f : FuncId} {fn : Func} (hf : P.funcs[f]? = some fn) {ac : ACode} {rs : List ResV} {nt : Nat} (hc : fchk P mu fn = some (ac, rs, nt))
    {args : List AV} {H : Heap} {R : AV → Heap → Prop} (ha : args.length ≤ nt)
    (h : a0S H → Safe ⟨P, mu, f, nt, rs, H.length⟩ [.code ac] (b4U 0 args) (hap H []) fun r' H' => ∃ H1 L, H' = hap H1 L ∧ H1.length = H.length ∧ a0S H1 ∧ Ref (· < H.length) r' ∧ R r' H1) : a0i P f args H R := by
  have h0 : a0i P f args H fun r' H' => ∃ H1 L, H' = hap H1 L ∧ H1.length = H.length ∧ a0S H1 ∧ Ref (· < H.length) r' ∧ R r' H1 := a0i.intro hf hc ha fun hH => by
    have := h hH
    rw [a1C] at this
    exact this
  refine ⟨h0.1, fun φ w vs hok hl hrep => (h0.2 φ w vs hok hl hrep).mono ?_⟩
  rintro e w' ⟨v, r', φ', H', rfl, ⟨H1, L, rfl, hlen, hrefs, hcl, hR⟩, q1, q2, q3, q4⟩
  have hfree : ∀ (j : Nat) bj, j < H.length → (hap H1 L)[j]? = some (some bj) → ∀ a ∈ bj.flat, Ref (· < H.length) a := by
    intro j bj hj hb
    simp only [hap] at hb
    rw [List.getElem?_append_left (by omega)] at hb
    have := hrefs j bj hb
    rwa [hlen] at this
  have hcut := HOk.cut q1 H.length hfree
  have ht : (hap H1 L).take H.length = H1 := by simp [hap, ← hlen]
  simp only [ht] at hcut
  exact ⟨v, r', φ', H1, rfl, hR, hcut.1, q2.mono hcut.2 hcl, by omega, q4.trans hcut.2⟩
section
variable {H L : Heap} {id : Nat} (hid : id < H.length)
include hid
theorem b9U (b : Blk) : hrow (hap (H.set id (some b)) L) id = some b := by
  rw [c9E _ _ _ (by simpa using hid)]
  simp [hrow, hid]
theorem d1y (b : Option Blk) (b' : Option Blk) : (hap (H.set id b) L).set id b' = hap (H.set id b') L := by
  unfold hap
  rw [List.set_append_left _ _ (by simpa using hid), List.set_set]
theorem c6U (b : Blk) (off len : Nat) (oc : Option Nat) : lenV (hap (H.set id (some b)) L) (.mu id off len oc) = some (.int .i64 len) := by
  rw [b2u, b9U hid]; rfl
theorem d1z (wd : Nat) (X : List AV) (off len j : Nat) (oc : Option Nat) (k : IntKind) (h : j < len) : idxV (hap (H.set id (some ⟨wd, X⟩)) L) wd (.mu id off len oc) (.int k j) = some (.loc id (off + j) 0) := by
  rw [b7G _ _ _ _ _ _ _ _ (by omega) (by omega), b9U hid]
  simp
theorem d3m (b : Blk) (j : Nat) (h : j < b.xs.length) : atV (hap (H.set id (some b)) L) (.loc id j 0) = some (b.xs.getD j .top).cells := by
  rw [b7T, b9U hid]; simp [h]
theorem d3l (env : Env) (b : Blk) (n j : Nat) (v : AV) (h : j < b.xs.length) (hf : v.fit = true) (hn : v.cells.length = n) (ho : n ≤ b.wd) :
    a5d n (.loc id j 0) v env (hap (H.set id (some b)) L) = some (.top, env, hap (H.set id (some ⟨b.wd, b.xs.set j (upd (b.xs.getD j .top) b.wd 0 n v)⟩)) L) := by
  simp only [a5d, b9U hid, Option.bind_some, d1y hid]
  rw [if_pos ⟨h, hf, hn, by omega⟩]
end
theorem c8K {H : Heap} {id : Nat} {b : Option Blk} (h : H[id]? = some b) : H.set id b = H := by
  apply List.ext_getElem?
  intro j
  rw [List.getElem?_set]
  split
  · rename_i e; subst e
    have := (List.getElem?_eq_some_iff.1 h).1
    rw [if_pos this, h]
  · rfl
end Go.Abs
namespace Go.Abs
def fr (n : Nat) (f : Nat → AV) : List AV := (List.range n).map f
/-- Rows bound anew: the outer one, and n inner ones behind it. -/
def hm (G : Heap) (β n : Nat) (O : List AV) (R : Nat → Option Blk) : Heap := G.mapIdx fun j o => if j = β then some ⟨1, O⟩ else if β < j ∧ j ≤ β + n then R (j - (β + 1)) else o
/-- A matrix: inner rows of c elements of w cells; logical row i lies at π i. -/
def orow (β n c : Nat) (oc : Option Nat) (π : Nat → Nat) : List AV := fr n fun i => .mu (β + 1 + π i) 0 c oc
def hM (G : Heap) (β n w c : Nat) (oc : Option Nat) (π : Nat → Nat) (S : Nat → Nat → AV) : Heap := hm G β n (orow β n c oc π) fun j => some ⟨w, fr c (S j)⟩
def swp (π : Nat → Nat) (p r : Nat) : Nat → Nat := fun i => if i = p then π r else if i = r then π p else π i
theorem a1V (H L M : Heap) : hap (hap H L) M = hap H (L ++ M) := by simp [hap]
end Go.Abs
namespace Go.Abs
theorem HOk.hrefs {φ : Nat → Option Nat} {H : Heap} {w : World} (h : HOk ⟨φ, H, w⟩) : a0S H := fun id b hb a ha => h.refs (E := ⟨φ, H, w⟩) hb a ha
/-- A row of what is handed out is no longer written. -/
theorem a0i.frz {P : Program} {f : FuncId} {args : List AV} {H : Heap} {R R2 : AV → Heap → Prop} (h : a0i P f args H R)
    (hR : a0S H → ∀ r H', R r H' → ∃ id b, H'[id]? = some (some b) ∧ (0 < b.wd ∧ ∀ c ∈ b.flat, Cl c) ∧ R2 (Abs.frz id b r) (frzH id b H')) : a0i P f args H R2 := by
  refine ⟨h.1, fun φ w vs hok hl hrep => (h.2 φ w vs hok hl hrep).mono ?_⟩
  rintro e w' ⟨v, r, φ', H', rfl, hr, q1, q2, q3, q4⟩
  obtain ⟨id, b, h1, ⟨h0, h2⟩, h3⟩ := hR hok.hrefs r H' hr
  exact ⟨v, _, φ', _, rfl, h3, d0M q1 h0 h1 h2, c3H q1 h0 h1 h2 q2, by simpa [frzH] using q3, q4.trans ((c3I (E := ⟨φ', H', w'⟩)).sub fun _ _ => trivial)⟩
end Go.Abs
namespace Go.Abs
/-- A row of limbs. -/
structure K0 (r : Blk) : Prop where
  wd : r.wd = 1
  pos : 0 < r.xs.length
  len : r.xs.length ≤ 17592186044416
  el : ∀ x ∈ r.xs, ∃ z : Int, x = .int .u32 z
def NatT (n0 : Nat) (A : Heap) (a : AV) : Prop := a = .nil ∨ ∃ id r, a = .mu id 0 r.xs.length (some r.xs.length) ∧ n0 ≤ id ∧ A[id]? = some (some r) ∧ K0 r
def IntT (n0 : Nat) (A : Heap) (a : AV) : Prop := ∃ b m, a = .agg [.bool b, m] ∧ NatT n0 A m
/-- A row of numbers. -/
structure K1 (n0 : Nat) (A : Heap) (r : Blk) : Prop where
  wd : r.wd = 2
  el : ∀ x ∈ r.xs, IntT n0 A x
def VecT (n0 : Nat) (A : Heap) (a : AV) : Prop := a = .nil ∨ ∃ id off l oc r, a = .mu id off l oc ∧ n0 ≤ id ∧ A[id]? = some (some r) ∧ K1 n0 A r ∧ off + l ≤ r.xs.length ∧ l ≤ 2097152
/-- A row of vectors. -/
structure K2 (n0 : Nat) (A : Heap) (r : Blk) : Prop where
  wd : r.wd = 1
  el : ∀ x ∈ r.xs, VecT n0 A x
def MatT (n0 : Nat) (A : Heap) (a : AV) : Prop := a = .nil ∨ ∃ id off l oc r, a = .mu id off l oc ∧ n0 ≤ id ∧ A[id]? = some (some r) ∧ K2 n0 A r ∧ off + l ≤ r.xs.length ∧ l ≤ 2097152
/-- Rows of limbs stay such. -/
def M0 (n0 : Nat) (A B : Heap) : Prop := ∀ id r, n0 ≤ id → A[id]? = some (some r) → K0 r → ∃ r', B[id]? = some (some r') ∧ K0 r' ∧ r'.xs.length = r.xs.length
def M1 (n0 : Nat) (A B : Heap) : Prop := ∀ id r, n0 ≤ id → A[id]? = some (some r) → K1 n0 A r → ∃ r', B[id]? = some (some r') ∧ K1 n0 B r' ∧ r'.xs.length = r.xs.length
def M2 (n0 : Nat) (A B : Heap) : Prop := ∀ id r, n0 ≤ id → A[id]? = some (some r) → K2 n0 A r → ∃ r', B[id]? = some (some r') ∧ K2 n0 B r' ∧ r'.xs.length = r.xs.length
section
variable {n0 : Nat} {A B C : Heap}
theorem M0.refl : M0 n0 A A := fun id r _ h k => ⟨r, h, k, rfl⟩
theorem M0.trans (h : M0 n0 A B) (k : M0 n0 B C) : M0 n0 A C := fun id r h0 h1 h2 => by
  obtain ⟨r', q1, q2, q3⟩ := h id r h0 h1 h2
  obtain ⟨r2, s1, s2, s3⟩ := k id r' h0 q1 q2
  exact ⟨r2, s1, s2, by omega⟩
theorem M1.refl : M1 n0 A A := fun id r _ h k => ⟨r, h, k, rfl⟩
theorem M1.trans (h : M1 n0 A B) (k : M1 n0 B C) : M1 n0 A C := fun id r h0 h1 h2 => by
  obtain ⟨r', q1, q2, q3⟩ := h id r h0 h1 h2
  obtain ⟨r2, s1, s2, s3⟩ := k id r' h0 q1 q2
  exact ⟨r2, s1, s2, by omega⟩
theorem M2.refl : M2 n0 A A := fun id r _ h k => ⟨r, h, k, rfl⟩
theorem M2.trans (h : M2 n0 A B) (k : M2 n0 B C) : M2 n0 A C := fun id r h0 h1 h2 => by
  obtain ⟨r', q1, q2, q3⟩ := h id r h0 h1 h2
  obtain ⟨r2, s1, s2, s3⟩ := k id r' h0 q1 q2
  exact ⟨r2, s1, s2, by omega⟩
theorem NatT.mono (h : M0 n0 A B) {a : AV} (t : NatT n0 A a) : NatT n0 B a := by
  rcases t with rfl | ⟨id, r, rfl, h0, h1, h2⟩
  · exact .inl rfl
  · obtain ⟨r', q1, q2, q3⟩ := h id r h0 h1 h2
    exact .inr ⟨id, r', by rw [q3], h0, q1, q2⟩
theorem IntT.mono (h : M0 n0 A B) {a : AV} (t : IntT n0 A a) : IntT n0 B a := by
  obtain ⟨b, m, rfl, hm⟩ := t
  exact ⟨b, m, rfl, hm.mono h⟩
theorem K1.mono (h : M0 n0 A B) {r : Blk} (k : K1 n0 A r) : K1 n0 B r := ⟨k.wd, fun x hx => (k.el x hx).mono h⟩
theorem VecT.mono (h : M1 n0 A B) {a : AV} (t : VecT n0 A a) : VecT n0 B a := by
  rcases t with rfl | ⟨id, off, l, oc, r, rfl, h0, h1, h2, h3, h4⟩
  · exact .inl rfl
  · obtain ⟨r', q1, q2, q3⟩ := h id r h0 h1 h2
    exact .inr ⟨id, off, l, oc, r', rfl, h0, q1, q2, by omega, h4⟩
theorem K2.mono (h : M1 n0 A B) {r : Blk} (k : K2 n0 A r) : K2 n0 B r := ⟨k.wd, fun x hx => (k.el x hx).mono h⟩
theorem MatT.mono (h : M2 n0 A B) {a : AV} (t : MatT n0 A a) : MatT n0 B a := by
  rcases t with rfl | ⟨id, off, l, oc, r, rfl, h0, h1, h2, h3, h4⟩
  · exact .inl rfl
  · obtain ⟨r', q1, q2, q3⟩ := h id r h0 h1 h2
    exact .inr ⟨id, off, l, oc, r', rfl, h0, q1, q2, by omega, h4⟩
theorem IntT.nint {k : IntKind} {z : Int} (h : IntT n0 A (.int k z)) : False := by
  obtain ⟨b, m, e, _⟩ := h; cases e
theorem VecT.nint {k : IntKind} {z : Int} (h : VecT n0 A (.int k z)) : False := by
  rcases h with e | ⟨_, _, _, _, _, e, _⟩ <;> cases e
theorem K0.no1 {r : Blk} (h : K0 r) (k : K1 n0 A r) : False := by have := h.wd; have := k.wd; omega
theorem K0.no2 {r : Blk} (h : K0 r) (k : K2 n0 A r) : False := by
  have hx : r.xs[0]'h.pos ∈ r.xs := List.getElem_mem _
  obtain ⟨z, e⟩ := h.el _ hx
  have := k.el _ hx
  rw [e] at this
  exact this.nint
theorem K1.no2 {r : Blk} (h : K1 n0 A r) (k : K2 n0 B r) : False := by have := h.wd; have := k.wd; omega
theorem a0B {H L : Heap} {id : Nat} {x : Option Blk} (h : H[id]? = some x) : (hap H L)[id]? = some x := by
  unfold hap; rw [List.getElem?_append_left (a0f h)]; exact h
theorem b1H (A L : Heap) (x : Option Blk) : (hap A (L ++ [x]))[lid A L.length]? = some x := by
  unfold hap lid
  rw [List.getElem?_append_right (by omega)]
  simp
theorem M0.app (L : Heap) : M0 n0 A (hap A L) := fun id r _ h k => ⟨r, a0B h, k, rfl⟩
theorem M1.app (L : Heap) : M1 n0 A (hap A L) := fun id r _ h k => ⟨r, a0B h, k.mono (.app L), rfl⟩
theorem M2.app (L : Heap) : M2 n0 A (hap A L) := fun id r _ h k => ⟨r, a0B h, k.mono (.app L), rfl⟩
theorem a1p {A : Heap} {β id : Nat} {x : Option Blk} (hβ : β < A.length) : (A.set β x)[id]? = if β = id then some x else A[id]? := by
  rw [List.getElem?_set]
  by_cases e : β = id
  · subst e; simp [hβ]
  · rw [if_neg e, if_neg e]
/-- A row that is none of limbs. -/
theorem M0.set {β : Nat} {x : Option Blk} (h : ∀ r, A[β]? = some (some r) → ¬ K0 r) : M0 n0 A (A.set β x) := fun id r _ h1 k => by
  refine ⟨r, ?_, k, rfl⟩
  rw [List.getElem?_set, if_neg (fun e => by subst e; exact h r h1 k)]; exact h1
theorem M0.set0 {β : Nat} {r r' : Blk} (h : A[β]? = some (some r)) (k' : K0 r') (hl : r'.xs.length = r.xs.length) : M0 n0 A (A.set β (some r')) := fun id s h0 h1 k => by
  have hβ := a0f h
  by_cases e : β = id
  · subst e
    rw [h] at h1; cases h1
    exact ⟨r', by rw [a1p hβ, if_pos rfl], k', hl⟩
  · exact ⟨s, by rw [a1p hβ, if_neg e]; exact h1, k, rfl⟩
/-- Limbs written over. -/
theorem c8I {β : Nat} {r r' : Blk} (h : A[β]? = some (some r)) (k : K0 r) (k' : K0 r') (hl : r'.xs.length = r.xs.length) : M0 n0 A (A.set β (some r')) ∧ M1 n0 A (A.set β (some r')) ∧ M2 n0 A (A.set β (some r')) := by
  have hβ := a0f h
  have m0 : M0 n0 A (A.set β (some r')) := .set0 h k' hl
  have m1 : M1 n0 A (A.set β (some r')) := fun id s h0 h1 k1 => by
    refine ⟨s, ?_, k1.mono m0, rfl⟩
    rw [a1p hβ, if_neg (fun e => by subst e; rw [h] at h1; cases h1; exact k.no1 k1)]; exact h1
  refine ⟨m0, m1, fun id s h0 h1 k2 => ⟨s, ?_, k2.mono m1, rfl⟩⟩
  rw [a1p hβ, if_neg (fun e => by subst e; rw [h] at h1; cases h1; exact k.no2 k2)]; exact h1
/-- A number written over. -/
theorem d2X {β i : Nat} {r : Blk} {a : AV} (h : A[β]? = some (some r)) (k : K1 n0 A r) (ha : IntT n0 A a) : M0 n0 A (A.set β (some ⟨2, r.xs.set i a⟩)) ∧ M1 n0 A (A.set β (some ⟨2, r.xs.set i a⟩)) ∧ M2 n0 A (A.set β (some ⟨2, r.xs.set i a⟩)) := by
  have hβ := a0f h
  have m0 : M0 n0 A (A.set β (some ⟨2, r.xs.set i a⟩)) := .set fun s hs k0 => by rw [h] at hs; cases hs; exact k0.no1 k
  have m1 : M1 n0 A (A.set β (some ⟨2, r.xs.set i a⟩)) := fun id s h0 h1 k1 => by
    by_cases e : β = id
    · subst e
      rw [h] at h1; cases h1
      refine ⟨_, by rw [a1p hβ, if_pos rfl], ⟨rfl, fun x hx => ?_⟩, by simp⟩
      rcases List.mem_or_eq_of_mem_set hx with hx | rfl
      · exact (k1.el x hx).mono m0
      · exact ha.mono m0
    · exact ⟨s, by rw [a1p hβ, if_neg e]; exact h1, k1.mono m0, rfl⟩
  refine ⟨m0, m1, fun id s h0 h1 k2 => ⟨s, ?_, k2.mono m1, rfl⟩⟩
  rw [a1p hβ, if_neg (fun e => by subst e; rw [h] at h1; cases h1; exact k.no2 k2)]; exact h1
end
/-- What a spoiler leaves. -/
structure Sp (n0 : Nat) (A B : Heap) : Prop where
  m0 : M0 n0 A B
  m1 : M1 n0 A B
  m2 : M2 n0 A B
  len : B.length = A.length
  refs : a0S B
  low : ∀ id, id < n0 → B[id]? = A[id]?
theorem Sp.refl {n0 : Nat} {A : Heap} (h : a0S A) : Sp n0 A A := ⟨.refl, .refl, .refl, rfl, h, fun _ _ => rfl⟩
theorem Sp.trans {n0 : Nat} {A B C : Heap} (h : Sp n0 A B) (k : Sp n0 B C) : Sp n0 A C := ⟨h.m0.trans k.m0, h.m1.trans k.m1, h.m2.trans k.m2, by rw [k.len, h.len], k.refs, fun id hi => by rw [k.low id hi, h.low id hi]⟩
/-- Rows that name rows from n0 on alone. -/
def Own (n0 : Nat) (L : Heap) : Prop := ∀ b, some b ∈ L → ∀ a ∈ b.flat, Ref (fun j => n0 ≤ j ∧ j < n0 + L.length) a
theorem d1w (n0 : Nat) : Own n0 [] := fun b hb => by cases hb
theorem Own.app {n0 : Nat} {L M : Heap} (h : Own n0 L) (k : ∀ b, some b ∈ M → ∀ a ∈ b.flat, Ref (fun j => n0 ≤ j ∧ j < n0 + (L ++ M).length) a) : Own n0 (L ++ M) := fun b hb a ha => by
  rcases List.mem_append.1 hb with hb | hb
  · exact (h b hb a ha).mono fun j hj => by simp only [List.length_append]; omega
  · exact k b hb a ha
theorem Own.refs {H L : Heap} (hH : a0S H) (h : Own H.length L) : a0S (hap H L) := by
  intro id b hb a ha
  have hl : (hap H L).length = H.length + L.length := by simp [hap]
  rcases Nat.lt_or_ge id H.length with hi | hi
  · unfold hap at hb
    rw [List.getElem?_append_left hi] at hb
    exact (hH id b hb a ha).mono fun j hj => by rw [hl]; have : j < H.length := hj; show j < _; omega
  · unfold hap at hb
    rw [List.getElem?_append_right hi] at hb
    exact (h b (List.mem_of_getElem? hb) a ha).mono fun j hj => by rw [hl]; show j < _; omega
/-- One of the rows bound anew. -/
theorem Own.set {H L : Heap} (h : Own H.length L) {i : Nat} {b' : Blk} (hb' : ∀ a ∈ b'.flat, Ref (fun j => H.length ≤ j ∧ j < H.length + L.length) a) : Own H.length (L.set i (some b')) := fun b hb a ha => by
  rw [List.length_set]
  rcases List.mem_or_eq_of_mem_set hb with hb | hb
  · exact h b hb a ha
  · cases hb; exact hb' a ha
section
variable {n0 : Nat} {A : Heap}
theorem NatT.ref {a : AV} (h : NatT n0 A a) : Ref (fun j => n0 ≤ j ∧ j < A.length) a := by
  rcases h with rfl | ⟨id, r, rfl, h0, h1, _⟩
  · exact .nil
  · exact .mu _ _ _ _ ⟨h0, a0f h1⟩
theorem IntT.ref {a : AV} (h : IntT n0 A a) : Ref (fun j => n0 ≤ j ∧ j < A.length) a := by
  obtain ⟨b, m, rfl, hm⟩ := h
  refine .agg _ fun c hc => ?_
  simp only [List.mem_cons, List.not_mem_nil, or_false] at hc
  rcases hc with rfl | rfl
  · exact .bool b
  · exact hm.ref
theorem IntT.cells {a : AV} (h : IntT n0 A a) : ∀ c ∈ a.cells, Ref (fun j => n0 ≤ j ∧ j < A.length) c := by
  obtain ⟨b, m, rfl, hm⟩ := h
  intro c hc
  simp only [AV.cells, List.mem_cons, List.not_mem_nil, or_false] at hc
  rcases hc with rfl | rfl
  · exact .bool b
  · exact hm.ref
theorem IntT.fit {a : AV} (h : IntT n0 A a) : a.fit = true ∧ a.cells.length = 2 := by
  obtain ⟨b, m, rfl, hm⟩ := h; exact ⟨rfl, rfl⟩
theorem VecT.ref {a : AV} (h : VecT n0 A a) : Ref (fun j => n0 ≤ j ∧ j < A.length) a := by
  rcases h with rfl | ⟨id, off, l, oc, r, rfl, h0, h1, _⟩
  · exact .nil
  · exact .mu _ _ _ _ ⟨h0, a0f h1⟩
theorem VecT.cells {a : AV} (h : VecT n0 A a) : ∀ c ∈ a.cells, Ref (fun j => n0 ≤ j ∧ j < A.length) c := by
  intro c hc
  have : a.cells = [a] := by rcases h with rfl | ⟨id, off, l, oc, r, rfl, _⟩ <;> rfl
  rw [this] at hc
  simp only [List.mem_cons, List.not_mem_nil, or_false] at hc
  subst hc
  exact h.ref
theorem VecT.fit {a : AV} (h : VecT n0 A a) : a.fit = true ∧ a.cells.length = 1 := by
  rcases h with rfl | ⟨id, off, l, oc, r, rfl, _⟩ <;> exact ⟨rfl, rfl⟩
end
theorem a1c {H X : Heap} (hH : a0S H) (hX : ∀ b, some b ∈ X → ∀ a ∈ b.flat, Cl a) : a0S (hap H X) := Own.refs hH fun b hb a ha => (hX b hb a ha).ref
theorem d1R {H B B' L : Heap} (hl : B.length = B'.length) {id : Nat} {x : Option Blk} (h0 : (hap H B).length ≤ id) (h : (hap (hap H B) L)[id]? = some x) : (hap H (B' ++ L))[id]? = some x := by
  simp only [hap, List.length_append] at h0
  simp only [hap] at h ⊢
  rw [List.getElem?_append_right (by simp only [List.length_append]; omega)] at h
  rw [← List.append_assoc, List.getElem?_append_right (by simp only [List.length_append]; omega), ← h]
  congr 1
  simp only [List.length_append]; omega
theorem d2g {H B B' L : Heap} {a : AV} (t : NatT (hap H B).length (hap (hap H B) L) a) (hl : B.length = B'.length) : NatT H.length (hap H (B' ++ L)) a := by
  rcases t with rfl | ⟨id, r, rfl, h0, h1, h2⟩
  · exact .inl rfl
  · exact .inr ⟨id, r, rfl, by simp only [hap, List.length_append] at h0; omega, d1R hl h0 h1, h2⟩
theorem b2C {H B B' L : Heap} {a : AV} (t : IntT (hap H B).length (hap (hap H B) L) a) (hl : B.length = B'.length) : IntT H.length (hap H (B' ++ L)) a := by
  obtain ⟨b, m, rfl, hm⟩ := t
  exact ⟨b, m, rfl, d2g hm hl⟩
theorem b2B {H B B' L : Heap} (ho : Own (hap H B).length L) (hl : B.length = B'.length) (hB : ∀ b, some b ∈ B' → ∀ a ∈ b.flat, Ref (fun j => H.length ≤ j ∧ j < H.length + (B' ++ L).length) a) : Own H.length (B' ++ L) := fun b hb a ha => by
  rcases List.mem_append.1 hb with hb | hb
  · exact hB b hb a ha
  · exact (ho b hb a ha).mono fun j hj => by simp only [hap, List.length_append] at hj ⊢; omega
theorem a0i.open {P : Program} {mu : Nat → Nat → Bool} {f : FuncId} {fn : Func} (hf : P.funcs[f]? = some fn) {ac : ACode} {rs : List ResV} {nt : Nat} (hc : fchk P mu fn = some (ac, rs, nt))
    {args : List AV} {H : Heap} {R : AV → Heap → Prop} (ha : args.length ≤ nt) (h : a0S H → Safe ⟨P, mu, f, nt, rs, H.length⟩ [.code ac] (b4U 0 args) (hap H []) R) : a0i P f args H R :=
  a0i.intro hf hc ha fun hH => by
    have := h hH
    rw [a1C] at this
    exact this
/-- A call that hands out rows of its own, the same at the same rows. -/
def OpC (P : Program) (f : FuncId) (args : List AV) (T : Nat → Heap → AV → Prop) : Prop := ∀ H, a0S H → ∃ r L, (a0i P f args H fun r' H' => r' = r ∧ H' = hap H L) ∧ T H.length (hap H L) r ∧ Own H.length L
/-- A call that hands out rows of its own. -/
def GrC (P : Program) (f : FuncId) (args : List AV) (T : Nat → Heap → AV → Prop) : Prop := ∀ H, a0S H → a0i P f args H fun r' H' => ∃ L, H' = hap H L ∧ T H.length H' r' ∧ Own H.length L
theorem OpC.gr {P : Program} {f : FuncId} {args : List AV} {T : Nat → Heap → AV → Prop} (h : OpC P f args T) : GrC P f args T := fun H hH => by
  obtain ⟨r, L, h1, h2, h3⟩ := h H hH
  exact h1.mono fun r' H' ⟨e1, e2⟩ => ⟨L, e2, by rw [e1, e2]; exact h2, h3⟩
theorem OpC.dgcall {P : Program} {f : FuncId} {args : List AV} {T : Nat → Heap → AV → Prop} (h : OpC P f args T) {H : Heap} (hH : a0S H) {K : AV → Heap → Prop} (k : ∀ r L, T H.length (hap H L) r → Own H.length L → K r (hap H L)) : dgcall P f args H K := by
  obtain ⟨r, L, h1, h2, h3⟩ := h H hH
  exact ⟨r, L, h1, k r L h2 h3⟩
theorem GrC.acall {P : Program} {f : FuncId} {args : List AV} {T : Nat → Heap → AV → Prop} (h : GrC P f args T) {H : Heap} (hH : a0S H) {R : AV → Heap → Prop} (k : ∀ r L, T H.length (hap H L) r → Own H.length L → R r (hap H L)) : a0i P f args H R :=
  (h H hH).mono fun r' H' ⟨L, e, h1, h2⟩ => by subst e; exact k r' L h1 h2
structure Gw (H G : Heap) : Prop where
  len : H.length ≤ G.length
  low : ∀ id, id < H.length → G[id]? = H[id]?
  own : ∀ (id : Nat) b, H.length ≤ id → G[id]? = some (some b) → ∀ a ∈ b.flat, Ref (fun j => H.length ≤ j ∧ j < G.length) a
theorem Gw.refl (H : Heap) : Gw H H := ⟨Nat.le_refl _, fun _ _ => rfl, fun id b h hb => absurd (a0f hb) (by omega)⟩
theorem Gw.refs {H G : Heap} (hH : a0S H) (h : Gw H G) : a0S G := fun id b hb a ha => by
  rcases Nat.lt_or_ge id H.length with hi | hi
  · rw [h.low id hi] at hb
    exact (hH id b hb a ha).mono fun j hj => by have := h.len; show j < _; have : j < H.length := hj; omega
  · exact (h.own id b hi hb a ha).mono fun j hj => hj.2
theorem Gw.out {H G : Heap} (h : Gw H G) : ∃ L, G = hap H L ∧ Own H.length L := by
  have he : G = hap H (G.drop H.length) := by
    apply List.ext_getElem?
    intro j
    unfold hap
    rcases Nat.lt_or_ge j H.length with hj | hj
    · rw [List.getElem?_append_left hj, h.low j hj]
    · rw [List.getElem?_append_right hj, List.getElem?_drop]; congr 1; omega
  refine ⟨_, he, fun b hb a ha => ?_⟩
  obtain ⟨j, hj⟩ := List.mem_iff_getElem?.1 hb
  rw [List.getElem?_drop] at hj
  exact (h.own _ b (by omega) hj a ha).mono fun k hk => by simp only [List.length_drop]; have := h.len; omega
theorem Gw.app {H G L : Heap} (h : Gw H G) (k : ∀ b, some b ∈ L → ∀ a ∈ b.flat, Ref (fun j => H.length ≤ j ∧ j < G.length + L.length) a) : Gw H (hap G L) := by
  have hl : (hap G L).length = G.length + L.length := by simp [hap]
  refine ⟨by rw [hl]; have := h.len; omega, fun id hi => ?_, fun id b hi hb a ha => ?_⟩
  · unfold hap; rw [List.getElem?_append_left (by have := h.len; omega), h.low id hi]
  · rw [hl]
    unfold hap at hb
    rcases Nat.lt_or_ge id G.length with hj | hj
    · rw [List.getElem?_append_left hj] at hb
      exact (h.own id b hi hb a ha).mono fun j hj => by omega
    · rw [List.getElem?_append_right hj] at hb
      exact k b (List.mem_of_getElem? hb) a ha
theorem Gw.own_app {H G L : Heap} (h : Gw H G) (k : Own G.length L) : Gw H (hap G L) := h.app fun b hb a ha => (k b hb a ha).mono fun j hj => by have := h.len; omega
theorem Gw.cl {H G L : Heap} (h : Gw H G) (k : ∀ b, some b ∈ L → ∀ a ∈ b.flat, Cl a) : Gw H (hap G L) := h.app fun b hb a ha => (k b hb a ha).ref
theorem Gw.set {H G : Heap} (h : Gw H G) {β : Nat} (hβ : H.length ≤ β) {b' : Blk} (hb' : ∀ a ∈ b'.flat, Ref (fun j => H.length ≤ j ∧ j < G.length) a) : Gw H (G.set β (some b')) := by
  refine ⟨by rw [List.length_set]; exact h.len, fun id hi => ?_, fun id b hi hb a ha => ?_⟩
  · rw [List.getElem?_set, if_neg (by omega)]; exact h.low id hi
  · rw [List.length_set]
    rw [List.getElem?_set] at hb
    split at hb
    · split at hb
      · cases hb; exact hb' a ha
      · cases hb
    · exact h.own id b hi hb a ha
theorem NatT.low {n0 n1 : Nat} {A : Heap} {a : AV} (h : n0 ≤ n1) (t : NatT n1 A a) : NatT n0 A a := by
  rcases t with rfl | ⟨id, r, rfl, h0, h1, h2⟩
  · exact .inl rfl
  · exact .inr ⟨id, r, rfl, by omega, h1, h2⟩
theorem IntT.low {n0 n1 : Nat} {A : Heap} {a : AV} (h : n0 ≤ n1) (t : IntT n1 A a) : IntT n0 A a := by
  obtain ⟨b, m, rfl, hm⟩ := t
  exact ⟨b, m, rfl, hm.low h⟩
theorem K1.low {n0 n1 : Nat} {A : Heap} {r : Blk} (h : n0 ≤ n1) (t : K1 n1 A r) : K1 n0 A r := ⟨t.wd, fun x hx => (t.el x hx).low h⟩
theorem VecT.low {n0 n1 : Nat} {A : Heap} {a : AV} (h : n0 ≤ n1) (t : VecT n1 A a) : VecT n0 A a := by
  rcases t with rfl | ⟨id, off, l, oc, r, rfl, h0, h1, h2, h3⟩
  · exact .inl rfl
  · exact .inr ⟨id, off, l, oc, r, rfl, by omega, h1, h2.low h, h3⟩
structure ElT (T : Nat → Heap → AV → Prop) (wd : Nat) : Prop where
  app : ∀ {n0 A a} L, T n0 A a → T n0 (hap A L) a
  low : ∀ {n0 n1 A a}, n0 ≤ n1 → T n1 A a → T n0 A a
  set : ∀ {n0 A a β xs x}, A[β]? = some (some ⟨wd, xs⟩) → (∀ y ∈ xs, T n0 A y) → T n0 A a → T n0 (A.set β (some ⟨wd, xs ++ [x]⟩)) a
  cells : ∀ {n0 A a}, T n0 A a → ∀ c ∈ a.cells, Ref (fun j => n0 ≤ j ∧ j < A.length) c
  fit : ∀ {n0 A a}, T n0 A a → a.fit = true ∧ a.cells.length = wd
theorem a0z : ElT IntT 2 := ⟨fun L h => h.mono (.app L), fun h t => t.low h, fun hβ _ t => t.mono (.set fun r hr k => by rw [hβ] at hr; cases hr; exact absurd k.wd (by simp)), fun t => t.cells, fun t => t.fit⟩
theorem a3W : ElT VecT 1 := ⟨fun L h => h.mono (.app L), fun h t => t.low h, fun {n0 A a β xs x} hβ hxs t => by
    have m0 : M0 n0 A (A.set β (some ⟨1, xs ++ [x]⟩)) := .set fun r hr k => by
      rw [hβ] at hr; cases hr
      exact k.no2 (n0 := n0) (A := A) ⟨rfl, hxs⟩
    refine t.mono fun id r h0 h1 k1 => ⟨r, ?_, k1.mono m0, rfl⟩
    rw [List.getElem?_set, if_neg (fun e => by subst e; rw [hβ] at h1; cases h1; exact absurd k1.wd (by simp))]; exact h1, fun t => t.cells, fun t => t.fit⟩
/-- An append where there is room. -/
theorem c4v {n0 wd bytes β i n id2 : Nat} {env : Env} {G : Heap} {xs : List AV} {y : AV} (hβ : G[β]? = some (some ⟨wd, xs⟩)) (hl : xs.length = i) (hn : n0 ≤ β) (h2 : G[id2]? = some (some ⟨wd, [y]⟩)) (hin : i < n) :
    appV n0 wd bytes false (.mu β 0 i (some n)) (.mu id2 0 1 (some 1)) env G = some (.mu β 0 (i + 1) (some n), env, G.set β (some ⟨wd, xs ++ [y]⟩)) := by
  subst hl
  have h1 : hrow G β = some ⟨wd, xs⟩ := by simp [hrow, hβ]
  have h3 : hrow G id2 = some ⟨wd, [y]⟩ := by simp [hrow, h2]
  simp only [appV, a0C, h1, h3, Option.bind_some, List.drop_zero]
  rw [if_pos (by simp)]
  simp only [Option.bind_some, List.take_succ_cons, List.take_zero, List.length_cons, List.length_nil]
  rw [if_pos (by simp; exact ⟨hn, by omega⟩)]
  simp
/-- An append to a row of the call's own that nothing else names. -/
theorem c4u {n0 wd bytes β i id2 : Nat} {env : Env} {G : Heap} {xs : List AV} {y : AV} (hβ : G[β]? = some (some ⟨wd, xs⟩)) (hl : xs.length = i) (hn : n0 ≤ β) (h2 : G[id2]? = some (some ⟨wd, [y]⟩)) (hF : Free G β)
    (hx : ∀ x ∈ xs, ∀ c ∈ x.cells, Ref (· ≠ β) c) (hy : ∀ c ∈ y.cells, Ref (· ≠ β) c) (hb : (i + 1) * bytes ≤ 140737488355328) (hi : i + 1 ≤ 9223372036854775807) :
    appV n0 wd bytes false (.mu β 0 i none) (.mu id2 0 1 (some 1)) env G = some (.mu β 0 (i + 1) none, scrub β env, G.set β (some ⟨wd, xs ++ [y]⟩)) := by
  subst hl
  have h1 : hrow G β = some ⟨wd, xs⟩ := by simp [hrow, hβ]
  have h3 : hrow G id2 = some ⟨wd, [y]⟩ := by simp [hrow, h2]
  simp only [appV, a0C, h1, h3, Option.bind_some, List.drop_zero]
  rw [if_pos (by simp)]
  simp only [Option.bind_some, List.take_succ_cons, List.take_zero, List.length_cons, List.length_nil, Option.any_none]
  rw [if_neg (by simp), if_pos]
  · simp [a0Q]
  · refine ⟨trivial, trivial, Nat.le_refl _, hn, c0r.2 hF, ?_, ?_, by omega, by omega⟩
    · simp only [List.flatMap_cons, List.flatMap_nil, List.append_nil, List.all_eq_true]
      exact fun c hc => a0s.2 (hy c hc)
    · simp only [List.all_eq_true, List.mem_flatMap]
      rintro c ⟨x, hx', hc⟩
      exact a0s.2 (hx x hx' c hc)
theorem Free.app {G L : Heap} {β : Nat} (h : Free G β) (hL : ∀ b, some b ∈ L → ∀ a ∈ b.flat, Ref (· ≠ β) a) : Free (hap G L) β := fun j b hj hb a ha => by
  unfold hap at hb
  rcases Nat.lt_or_ge j G.length with hi | hi
  · rw [List.getElem?_append_left hi] at hb
    exact h j b hj hb a ha
  · rw [List.getElem?_append_right hi] at hb
    exact hL b (List.mem_of_getElem? hb) a ha
theorem Free.own {G L : Heap} {β : Nat} (h : Free G β) (hβ : β < G.length) (hL : Own G.length L) : Free (hap G L) β := h.app fun b hb a ha => (hL b hb a ha).mono fun j hj => by show j ≠ β; omega
theorem Free.self {G : Heap} {β : Nat} (h : Free G β) (x : Option Blk) : Free (G.set β x) β := fun j b hj hb a ha => by
  rw [List.getElem?_set, if_neg (Ne.symm hj)] at hb
  exact h j b hj hb a ha
theorem Free.set {G : Heap} {β γ : Nat} (h : Free G β) {b' : Blk} (hb' : ∀ a ∈ b'.flat, Ref (· ≠ β) a) : Free (G.set γ (some b')) β := fun j b hj hb a ha => by
  rw [List.getElem?_set] at hb
  split at hb
  · split at hb
    · cases hb; exact hb' a ha
    · cases hb
  · exact h j b hj hb a ha
theorem Free.last {G : Heap} (h : a0S G) (x : Option Blk) : Free (hap G [x]) G.length := fun j b hj hb a ha => by
  unfold hap at hb
  rcases Nat.lt_or_ge j G.length with hi | hi
  · rw [List.getElem?_append_left hi] at hb
    exact (h j b hb a ha).mono fun k hk => by show k ≠ G.length; have : k < G.length := hk; omega
  · rw [List.getElem?_eq_none (by simp; omega)] at hb
    cases hb
end Go.Abs
namespace Go.Abs
/-- What is known of variables and rows told aXs less. -/
def Told (n0 : Nat) (env : Env) (H : Heap) (env' : Env) (H' : Heap) : Prop := ∀ φ w tmps, HOk ⟨φ, H, w⟩ → a0r ⟨φ, H, w⟩ env tmps → n0 ≤ H.length →
  HOk ⟨φ, H', w⟩ ∧ a0r ⟨φ, H', w⟩ env' tmps ∧ n0 ≤ H'.length ∧ Ext (· < n0) ⟨φ, H, w⟩ ⟨φ, H', w⟩
section
variable {P : Program} {nt : Nat}
theorem b7X {mu : Nat → Nat → Bool} {rid : Nat} {ops : Array Oper} {n0 : Nat} {l2 : List AIns} {K : Env → Heap → Prop} {Q : Exit → Act → World → Prop} {E0 : Emb} (hQ : ∀ a w, Kc n0 nt E0 K a w → Q .normal a w) :
    ∀ (l0 : List Oper) (k : Nat) (l : List AIns), a8z P mu nt rid ops k l0 = some (l ++ l2) → ∀ (E : Emb) (env : Env) (tmps : Array Value), tmps.size = nt → HOk E → a0r E env tmps → n0 ≤ E.H.length → Ext (· < n0) E0 E →
      aops P n0 l (fun env' H' => ∃ env2 H2, Told n0 env' H' env2 H2 ∧ aops P n0 l2 K env2 H2) env E.H → wpList P ops Q l0 ⟨tmps, []⟩ E.w
  | l0, k, [], hl, E, env, tmps, hsz, hok, he, hn, hx, h => by
    simp only [aops] at h
    obtain ⟨env2, H2, ht, h⟩ := h
    obtain ⟨t1, t2, t3, t4⟩ := ht E.φ E.w tmps hok he hn
    exact b2H hQ l0 k l2 hl ⟨E.φ, H2, E.w⟩ env2 tmps hsz t1 t2 t3 (hx.trans t4) h
  | [], k, i :: l, hl, E, env, tmps, hsz, hok, he, hn, hx, h => by
    simp [a8z] at hl
  | o :: l0, k, i :: l, hl, E, env, tmps, hsz, hok, he, hn, hx, h => by
    simp only [a8z] at hl
    split at hl
    · rename_i i' l' hi hl'
      rw [List.cons_append] at hl
      obtain ⟨rfl, rfl⟩ := List.cons.inj (Option.some.inj hl)
      unfold cins at hi
      split at hi
      · rename_i hd
        split at hi
        · rename_i g a hg ha
          cases hi
          have next : ∀ a w, Kc n0 nt E (aops P n0 l (fun env' H' => ∃ env2 H2, Told n0 env' H' env2 H2 ∧ aops P n0 l2 K env2 H2)) a w → wpList P ops Q l0 a w := by
            intro a w ⟨φ, env', H', q1, q2, q3, q4, q5, q6, q7⟩
            have : a = ⟨a.tmps, []⟩ := by cases a; simp at q4; simp [q4]
            rw [this]
            exact b7X hQ l0 (k + 1) l hl' ⟨φ, H', w⟩ env' a.tmps q5 q2 q3 q6 (hx.trans q7) q1
          have hw := b5z (o := o) he hg
          simp only [aops] at h
          unfold wpList
          split at h
          · simp only at hw
            rw [if_pos hw]
            exact .inl (a3Y ha hd hsz hok he hn h next)
          · rename_i t want _
            simp only at hw
            simp only [a7V] at h
            have pass : Region.wanted o (yielded ops tmps) = false → aops P n0 l (fun env' H' => ∃ env2 H2, Told n0 env' H' env2 H2 ∧ aops P n0 l2 K env2 H2) (put o.dst (.tup []) env) E.H → wpList P ops Q (o :: l0) ⟨tmps, []⟩ E.w := by
              intro hf h
              unfold wpList
              rw [if_neg (by rw [hf]; simp)]
              refine next _ _ ⟨E.φ, _, E.H, h, hok, ?_, ?_, ?_, hn, Ext.refl _ _⟩
              · subst hsz; exact a8n he hd b5K
              · cases o.dst <;> rfl
              · rw [b4Z]; exact hsz
            split at h
            · rename_i c hc
              have hw' := hw.1 c hc
              split at h
              · rename_i hcw
                rw [if_pos (by rw [hw', hcw]; simp)]
                exact .inl (a3Y ha hd hsz hok he hn h next)
              · rename_i hcw
                have := pass (by rw [hw']; simpa using hcw) h
                unfold wpList at this
                exact this
            · rename_i hc
              have hw' := hw.2 hc
              rw [if_neg (by cases want <;> simp)] at h
              have := pass hw' h
              unfold wpList at this
              exact this
            · exact h.elim
        · simp at hi
      · simp at hi
    · simp at hl
end
section
variable {x : Cx} {todo : List AItem} {R : AV → Heap → Prop}
/-- A region in two a0p. -/
theorem Safe.region2 {env : Env} {H : Heap} (l1 l2 : List AIns) (h : aops x.P x.n0 l1 (fun env' H' => ∃ env2 H2, Told x.n0 env' H' env2 H2 ∧ aops x.P x.n0 l2 (fun env' H' => Safe x todo env' H' R) env2 H2) env H) : Safe x (.code (.region (l1 ++ l2) false) :: todo) env H R := by
  intro φ w tmps b k cs hg hn hb hk ht hsz hok he
  obtain ⟨i, k', rfl, h1, h2⟩ := a0D ht
  obtain ⟨c, rfl, h1⟩ := a0O h1
  obtain ⟨id, ops, rfl, g1, _⟩ := b2w h1
  have hw := b7X (P := x.P) (nt := x.nt) (rid := id) (ops := ops) (n0 := x.n0) (K := fun env' H' => Safe x todo env' H' R) (E0 := ⟨φ, H, w⟩)
    (Q := fun e a w' => e = .normal ∧ Kc x.n0 x.nt ⟨φ, H, w⟩ (fun env' H' => Safe x todo env' H' R) a w') (fun a w h => ⟨rfl, h⟩) ops.toList 0 l1 g1 ⟨φ, H, w⟩ env tmps hsz hok he hn (Ext.refl _ _) h
  obtain ⟨e, a', w', ⟨rfl, φ1, env1, H1, s1, s2, s3, s4, s5, s6, s7⟩, harr⟩ := wp_region_list hw b k' cs
  have ha : a' = ⟨a'.tmps, []⟩ := by cases a'; simp at s4; simp [s4]
  rw [ha] at harr
  obtain ⟨v, w2, fr, r, φ', H', q1, q2, q3, q4, q5, q6, q7⟩ := s1 φ1 w' a'.tmps b k' cs hg s6 hb hk h2 s5 s2 s3
  exact ⟨v, w2, fr, r, φ', H', q1, q2, q3, q4, s7.trans q5, Steps.trans harr q6, q7⟩
theorem Safe.rg2 {env : Env} {H : Heap} {k k' : List AItem} {l : List AIns} (l1 l2 : List AIns) (e : Abs.stl 40 k = .code (.region l false) :: k') (e2 : l = l1 ++ l2)
    (h : aops x.P x.n0 l1 (fun env' H' => ∃ env2 H2, Told x.n0 env' H' env2 H2 ∧ aops x.P x.n0 l2 (fun env' H' => Safe x k' env' H' R) env2 H2) env H) : Safe x k env H R := by
  refine Safe.stl 40 k ?_
  rw [e, e2]
  exact Safe.region2 l1 l2 h
end
/-- One of the call's own rows told aXs less. -/
theorem c8C {n0 : Nat} {env : Env} {H L : Heap} (i : Nat) {b b' : Blk} (hl : L[i]? = some (some b)) (hw : b'.wd = b.wd) (hx : ∀ y ∈ b'.xs, y.cells.length = b.wd) (hlen : b'.flat.length = b.flat.length) (hemp : b.xs = [] → b'.xs = [])
    (hle : ∀ (k : Nat) a c, b.flat[k]? = some a → b'.flat[k]? = some c → Le a c) (hpos : 0 < b.wd) : Told n0 env (hap H L) env (hap H (L.set i (some b'))) := by
  intro φ w tmps hok he hn
  have hl' : (hap H L)[lid H i]? = some (some b) := by
    unfold hap lid
    rw [List.getElem?_append_right (by omega), Nat.add_sub_cancel_left]; exact hl
  have hget : ∀ (j : Nat), (hap H (L.set i (some b')))[j]? = if lid H i = j then some (some b') else (hap H L)[j]? := by
    intro j
    rw [← a6T]
    exact a3B _ _ _ (a0f hl') j
  have hx2 : ∀ w : World, Ext All ⟨φ, hap H L, w⟩ ⟨φ, hap H (L.set i (some b')), w⟩ := by
    intro w
    refine ⟨rfl, rfl, rfl, Nat.le_refl _, by simp [hap], fun _ _ _ => rfl, ?_, fun _ _ _ _ _ _ _ => rfl, ?_, fun _ _ _ => rfl⟩
    · intro j blk' _ _ hb'
      rw [hget] at hb'
      split at hb'
      · rename_i hj; subst hj; simp at hb'; subst hb'; exact ⟨b, hl', hw.symm⟩
      · exact ⟨blk', hb', rfl⟩
    · rintro b0 _ ⟨j, blk', hb', hp⟩
      simp only [hget] at hb'
      split at hb'
      · rename_i hj; subst hj; exact ⟨_, b, hl', hp⟩
      · exact ⟨j, blk', hb', hp⟩
  have live : ∀ (j : Nat) blk', (hap H (L.set i (some b')))[j]? = some (some blk') → (j = lid H i ∧ blk' = b') ∨ (j ≠ lid H i ∧ (hap H L)[j]? = some (some blk')) := by
    intro j blk' hb'
    rw [hget] at hb'
    split at hb'
    · rename_i hj; simp at hb'; exact .inl ⟨hj.symm, hb'.symm⟩
    · rename_i hj; exact .inr ⟨fun e => hj e.symm, hb'⟩
  have hok' : HOk ⟨φ, hap H (L.set i (some b')), w⟩ := by
    refine ⟨fun j x bl h h0 hp => ?_, fun j x h => ?_, fun j x bl h hp => ?_, fun j x h hp => ?_, fun j1 j2 x y bl h1 h2 p1 p2 => ?_⟩
    · rcases live j x h with ⟨rfl, rfl⟩ | ⟨_, h'⟩
      · omega
      · rcases hok.obj j x bl h' h0 hp with ⟨L, q1, q2⟩ | ⟨mid, n, seen, m, q1, q2, q3, q4⟩
        · exact .inl ⟨L, q1, q2⟩
        · refine .inr ⟨mid, n, seen, m, q1, q2, q3, fun blk hb => ?_⟩
          rcases live mid blk hb with ⟨rfl, rfl⟩ | ⟨_, hb'⟩
          · exact absurd (q4 b hl').1 (by omega)
          · exact q4 blk hb'
    · rcases live j x h with ⟨rfl, rfl⟩ | ⟨_, h'⟩
      · rw [hw]; exact hx
      · exact hok.wids j x h'
    · have mv : ∀ {v a}, Rep ⟨φ, hap H L, w⟩ v a → Rep ⟨φ, hap H (L.set i (some b')), w⟩ v a := fun r => r.mono (hx2 w) (r.ref.mono fun _ _ => trivial)
      rcases live j x h with ⟨rfl, rfl⟩ | ⟨_, h'⟩
      · obtain ⟨c, e, r⟩ := hok.row _ b bl hl' hp
        refine ⟨c, e, fun h0 => r.heap hpos, by rw [hlen]; exact r.fits, fun k v hk hv => r.one k v (by rw [← hlen]; exact hk) hv, fun k v a hv ha => ?_⟩
        have hk := a0h ha
        have ha' : b.flat[k]? = some (b.flat[k]'(by omega)) := List.getElem?_eq_getElem (by omega)
        exact mv (hle k _ a ha' ha _ _ (r.rep k v _ hv ha'))
      · obtain ⟨c, e, r⟩ := hok.row j x bl h' hp
        exact ⟨c, e, r.heap, r.fits, r.one, fun k v a hv ha => mv (r.rep k v a hv ha)⟩
    · rcases live j x h with ⟨rfl, rfl⟩ | ⟨_, h'⟩
      · exact hemp (hok.emp _ b hl' hp)
      · exact hok.emp j x h' hp
    · have g1 : ∃ z, (hap H L)[j1]? = some (some z) := by rcases live j1 x h1 with ⟨rfl, _⟩ | ⟨_, h'⟩; exact ⟨b, hl'⟩; exact ⟨x, h'⟩
      have g2 : ∃ z, (hap H L)[j2]? = some (some z) := by rcases live j2 y h2 with ⟨rfl, _⟩ | ⟨_, h'⟩; exact ⟨b, hl'⟩; exact ⟨y, h'⟩
      obtain ⟨_, g1⟩ := g1
      obtain ⟨_, g2⟩ := g2
      exact hok.inj j1 j2 _ _ bl g1 g2 p1 p2
  exact ⟨hok', fun t => (he t).mono (hx2 w) ((he t).ref.mono fun _ _ => trivial), by simpa [hap] using hn, (hx2 w).sub fun _ _ => trivial⟩
/-- An append to a full row that is none of the call's own: a new row. -/
theorem d2L {n0 wd bytes id n : Nat} {env : Env} {G : Heap} {xs ys : List AV} {y : AV} (h : G[id]? = some (some ⟨wd, xs⟩)) (hl : xs.length = n) (hn : id < n0) (hy : a0C G wd false y = some ys) (h0 : 0 < ys.length)
    (h1 : (n + ys.length) * bytes ≤ 140737488355328) (h2 : n + ys.length ≤ 9223372036854775807) :
    appV n0 wd bytes false (.mu id 0 n (some n)) y env G = some (.mu G.length 0 (n + ys.length) none, env, G ++ [some ⟨wd, xs ++ ys⟩]) := by
  subst hl
  have hr : hrow G id = some ⟨wd, xs⟩ := by simp [hrow, h]
  simp only [appV, hy, hr, Option.bind_some, Option.any_some]
  rw [if_neg (fun h => by omega), if_neg (fun h => by omega), if_pos]
  · simp
  · exact ⟨trivial, by simp, h0, by simp; omega, h1, h2⟩
end Go.Abs
namespace Go.Abs
abbrev LB : Nat := 4294967296
def val : List Nat → Nat
  | [] => 0
  | d :: l => d + LB * val l
def Lim (l : List Nat) : Prop := ∀ d ∈ l, d < LB
/-- The limbs of a number, no nought at the end. -/
def limbs (n : Nat) : List Nat := if h : n = 0 then [] else n % LB :: limbs (n / LB)
termination_by n
decreasing_by exact Nat.div_lt_self (by omega) (by decide)
theorem a0x : limbs 0 = [] := by rw [limbs]; simp
theorem a2J {n : Nat} (h : n ≠ 0) : limbs n = n % LB :: limbs (n / LB) := by rw [limbs]; simp [h]
theorem a0v (n : Nat) : val (limbs n) = n := by
  induction n using Nat.strongRecOn with
  | _ n ih =>
    by_cases h : n = 0
    · subst h; rw [a0x]; rfl
    · rw [a2J h, val, ih (n / LB) (Nat.div_lt_self (by omega) (by decide))]
      exact Nat.mod_add_div n LB
theorem a0T (n : Nat) : Lim (limbs n) := by
  induction n using Nat.strongRecOn with
  | _ n ih =>
    by_cases h : n = 0
    · subst h; rw [a0x]; intro d hd; simp at hd
    · rw [a2J h]
      intro d hd
      rcases List.mem_cons.1 hd with rfl | hd
      · exact Nat.mod_lt _ (by decide)
      · exact ih (n / LB) (Nat.div_lt_self (by omega) (by decide)) d hd
theorem c3r : Lim [] := fun d hd => by simp at hd
theorem b5d {d : Nat} {l : List Nat} : Lim (d :: l) ↔ d < LB ∧ Lim l := by
  constructor
  · intro h; exact ⟨h d (by simp), fun e he => h e (by simp [he])⟩
  · rintro ⟨h1, h2⟩ e he
    rcases List.mem_cons.1 he with rfl | he
    · exact h1
    · exact h2 e he
theorem b2t {a b : List Nat} : Lim (a ++ b) ↔ Lim a ∧ Lim b := by
  constructor
  · intro h; exact ⟨fun d hd => h d (by simp [hd]), fun d hd => h d (by simp [hd])⟩
  · rintro ⟨h1, h2⟩ d hd
    rcases List.mem_append.1 hd with hd | hd
    · exact h1 d hd
    · exact h2 d hd
theorem Lim.take {l : List Nat} (h : Lim l) (n : Nat) : Lim (l.take n) := fun d hd => h d (List.mem_of_mem_take hd)
theorem Lim.drop {l : List Nat} (h : Lim l) (n : Nat) : Lim (l.drop n) := fun d hd => h d (List.mem_of_mem_drop hd)
theorem a8l (a b : List Nat) : val (a ++ b) = val a + LB ^ a.length * val b := by
  induction a with
  | nil => simp [val]
  | cons d a ih =>
    simp only [List.cons_append, val, ih, List.length_cons]
    rw [Nat.mul_add, ← Nat.mul_assoc, ← Nat.pow_succ', Nat.add_assoc]
theorem a2U {l : List Nat} (h : Lim l) : val l < LB ^ l.length := by
  induction l with
  | nil => simp [val]
  | cons d l ih =>
    have h' := b5d.1 h
    have := ih h'.2
    simp only [val, List.length_cons, Nat.pow_succ']
    have h1 : LB * (val l + 1) ≤ LB * LB ^ l.length := Nat.mul_le_mul_left _ this
    rw [Nat.mul_add, Nat.mul_one] at h1
    have := h'.1
    omega
theorem b0f (n : Nat) : val (List.replicate n 0) = 0 := by
  induction n with
  | zero => rfl
  | succ n ih => simp [List.replicate_succ, val, ih]
/-- A row without a nought at its end is the limbs of its number. -/
theorem a5j : ∀ {l : List Nat}, Lim l → (l.getLast?).getD 1 ≠ 0 → limbs (val l) = l
  | [], _, _ => a0x
  | d :: l, h, hl => by
    obtain ⟨h1, h2⟩ := b5d.1 h
    have hl' : (l.getLast?).getD 1 ≠ 0 := by
      cases l with
      | nil => simp
      | cons e l => simpa [List.getLast?_cons_cons] using hl
    have hne : val (d :: l) ≠ 0 := by
      intro h0
      simp only [val] at h0
      have hd : d = 0 := by omega
      have hv : val l = 0 := by
        have : LB * val l = 0 := by omega
        rcases Nat.mul_eq_zero.1 this with h | h
        · exact absurd h (by decide)
        · exact h
      have := a5j h2 hl'
      rw [hv, a0x] at this
      subst this
      subst hd
      simp at hl
    rw [a2J hne]
    simp only [val]
    rw [Nat.add_mul_mod_self_left, Nat.mod_eq_of_lt h1, Nat.add_mul_div_left _ _ (by decide), Nat.div_eq_of_lt h1, Nat.zero_add, a5j h2 hl']
theorem c5H (n : Nat) : ((limbs n).getLast?).getD 1 ≠ 0 := by
  induction n using Nat.strongRecOn with
  | _ n ih =>
    by_cases h : n = 0
    · subst h; rw [a0x]; simp
    · rw [a2J h]
      have := ih (n / LB) (Nat.div_lt_self (by omega) (by decide))
      cases hq : limbs (n / LB) with
      | nil =>
        have h0 : n / LB = 0 := by
          have := a0v (n / LB)
          rw [hq] at this
          exact this.symm
        have : n % LB = n := Nat.mod_eq_of_lt (by
          rcases Nat.lt_or_ge n LB with h' | h'
          · exact h'
          · have := Nat.div_pos h' (by decide); omega)
        simp [this, h]
      | cons e l =>
        rw [hq] at this
        simpa [List.getLast?_cons_cons] using this
theorem a0R {n k : Nat} (h : n < LB ^ k) : (limbs n).length ≤ k := by
  induction k generalizing n with
  | zero =>
    have : n = 0 := by simpa using h
    subst this; rw [a0x]; simp
  | succ k ih =>
    by_cases h0 : n = 0
    · subst h0; rw [a0x]; simp
    · rw [a2J h0, List.length_cons]
      have : n / LB < LB ^ k := by
        rw [Nat.div_lt_iff_lt_mul (by decide)]
        rwa [Nat.pow_succ] at h
      have := ih this
      omega
theorem c1B {n : Nat} (h : limbs n ≠ []) : LB ^ ((limbs n).length - 1) ≤ n := by
  induction n using Nat.strongRecOn with
  | _ n ih =>
    by_cases h0 : n = 0
    · subst h0; rw [a0x] at h; simp at h
    · rw [a2J h0, List.length_cons, Nat.add_sub_cancel]
      by_cases hq : limbs (n / LB) = []
      · rw [hq]; simp; omega
      · have := ih (n / LB) (Nat.div_lt_self (by omega) (by decide)) hq
        have hl : 0 < (limbs (n / LB)).length := List.length_pos_iff.2 hq
        have h1 : LB ^ (limbs (n / LB)).length = LB ^ ((limbs (n / LB)).length - 1) * LB := by
          rw [← Nat.pow_succ]; congr 1; omega
        rw [h1]
        exact Nat.le_trans (Nat.mul_le_mul_right _ this) (Nat.div_mul_le_self n LB)
theorem c6i (l : List Nat) : val (l ++ [0]) = val l := by rw [a8l]; simp [val]
theorem a5r (l : List Nat) (d : Nat) : val (l ++ [d]) = val l + LB ^ l.length * d := by rw [a8l]; simp [val]
theorem b9v {l : List Nat} {i : Nat} (h : i < l.length) : val (l.take (i + 1)) = val (l.take i) + LB ^ i * l[i] := by
  rw [List.take_succ_eq_append_getElem h, a5r, List.length_take, Nat.min_eq_left (by omega)]
theorem a4Y {l : List Nat} (h : Lim l) (i : Nat) : l.getD i 0 < LB := by
  rw [List.getD_eq_getElem?_getD]
  rcases Nat.lt_or_ge i l.length with hi | hi
  · rw [List.getElem?_eq_getElem hi, Option.getD_some]; exact h _ (List.getElem_mem hi)
  · rw [List.getElem?_eq_none hi]; decide
/-- Up to a place; behind the end nothing comes. -/
theorem a0u (l : List Nat) (i : Nat) : val (l.take (i + 1)) = val (l.take i) + LB ^ i * l.getD i 0 := by
  rcases Nat.lt_or_ge i l.length with h | h
  · rw [b9v h, List.getD_eq_getElem?_getD, List.getElem?_eq_getElem h, Option.getD_some]
  · rw [List.take_of_length_le (by omega), List.take_of_length_le h, List.getD_eq_getElem?_getD, List.getElem?_eq_none h]; simp
/-- Which of two is greater is told from the top. -/
theorem b0g {a b : List Nat} {i : Nat} (ha : Lim a) (hb : Lim b) (h : a.drop (i + 1) = b.drop (i + 1)) (hi : i < a.length) (hi' : i < b.length) (hl : a.length = b.length) (hlt : a.getD i 0 < b.getD i 0) : val a < val b := by
  have e1 : a = a.take (i + 1) ++ a.drop (i + 1) := (List.take_append_drop _ _).symm
  have e2 : b = b.take (i + 1) ++ b.drop (i + 1) := (List.take_append_drop _ _).symm
  rw [e1, e2, a8l, a8l, h, a0u, a0u]
  have l1 : (a.take (i + 1)).length = i + 1 := by rw [List.length_take]; omega
  have l2 : (b.take (i + 1)).length = i + 1 := by rw [List.length_take]; omega
  rw [l1, l2]
  have h1 := a2U (ha.take i)
  rw [List.length_take, Nat.min_eq_left (by omega)] at h1
  have h2 : LB ^ i * (a.getD i 0 + 1) ≤ LB ^ i * b.getD i 0 := Nat.mul_le_mul_left _ hlt
  rw [Nat.mul_add] at h2
  omega
def blen (n : Nat) : Nat := if n = 0 then 0 else Nat.log2 n + 1
theorem c8g (n : Nat) : n < 2 ^ blen n := by
  unfold blen
  split
  · rename_i h; subst h; decide
  · exact Nat.lt_log2_self
theorem c3P {n : Nat} (h : n ≠ 0) : 2 ^ (blen n - 1) ≤ n := by
  unfold blen
  rw [if_neg h, Nat.add_sub_cancel]
  exact Nat.log2_self_le h
theorem d2D {n k : Nat} (h1 : n < 2 ^ k) (h2 : k = 0 ∨ 2 ^ (k - 1) ≤ n) : blen n = k := by
  by_cases h0 : n = 0
  · subst h0
    rcases h2 with h2 | h2
    · rw [h2]; rfl
    · have := Nat.pow_pos (n := k - 1) (show 0 < 2 by decide); omega
  · have a := c8g n
    have b := c3P h0
    have c : 0 < blen n := by unfold blen; rw [if_neg h0]; omega
    have d : blen n - 1 < k := (Nat.pow_lt_pow_iff_right (by decide)).1 (Nat.lt_of_le_of_lt b h1)
    have e : k - 1 < blen n := by
      rcases h2 with h2 | h2
      · omega
      · exact (Nat.pow_lt_pow_iff_right (by decide)).1 (Nat.lt_of_le_of_lt h2 a)
    omega
/-- The lowest k bits do not count where others stand above them. -/
theorem c4r {h k r : Nat} (hh : h ≠ 0) (hr : r < 2 ^ k) : blen (r + 2 ^ k * h) = k + blen h := by
  have a := c8g h
  have b := c3P hh
  have c : 0 < blen h := by unfold blen; rw [if_neg hh]; omega
  refine d2D ?_ (.inr ?_)
  · rw [Nat.pow_add]
    have : 2 ^ k * (h + 1) ≤ 2 ^ k * 2 ^ blen h := Nat.mul_le_mul_left _ a
    rw [Nat.mul_add] at this
    omega
  · rw [show k + blen h - 1 = k + (blen h - 1) by omega, Nat.pow_add]
    have : 2 ^ k * 2 ^ (blen h - 1) ≤ 2 ^ k * h := Nat.mul_le_mul_left _ b
    omega
theorem c4q {n k : Nat} (h : 2 ^ k ≤ n) : blen n = k + blen (n / 2 ^ k) := by
  have hp : 0 < 2 ^ k := Nat.pow_pos (by decide)
  have h0 : n / 2 ^ k ≠ 0 := by
    have := Nat.div_pos h hp; omega
  have := c4r (r := n % 2 ^ k) h0 (Nat.mod_lt _ hp)
  rwa [Nat.mod_add_div] at this
theorem d0H (i : Nat) : LB ^ i = 2 ^ (32 * i) := by rw [Nat.pow_mul]
theorem c5W {l : List Nat} {d : Nat} (hl : Lim l) (hd : d ≠ 0) : blen (val (l ++ [d])) = 32 * l.length + blen d := by
  rw [a5r, d0H]
  exact c4r hd (by rw [← d0H]; exact a2U hl)
theorem a5U {l : List Nat} (h : Lim l) : (limbs (val l)).length ≤ l.length := a0R (a2U h)
/-- A row that may be handed round. -/
structure Nt (l : List Nat) : Prop where
  lim : Lim l
  len : l.length ≤ 17592186044416
theorem Nt.limbs {l : List Nat} (h : Nt l) : Nt (limbs (val l)) := ⟨a0T _, Nat.le_trans (a5U h.lim) h.len⟩
theorem b5F (x : List Nat) (k d : Nat) : (x ++ List.replicate (k + 1) 0).set x.length d = (x ++ [d]) ++ List.replicate k 0 := by
  rw [List.set_append_right _ _ (Nat.le_refl _), Nat.sub_self, List.replicate_succ, List.set_cons_zero]; simp
/-- One place of a sum. -/
theorem c8D {vd pa pb B c x y i : Nat} (h : vd + B * c = pa + pb) : (vd + B * ((c + x + y) % LB)) + (B * LB) * ((c + x + y) / LB) = (pa + B * x) + (pb + B * y) := by
  have e : (c + x + y) % LB + LB * ((c + x + y) / LB) = c + x + y := Nat.mod_add_div _ _
  have e2 : B * ((c + x + y) % LB) + (B * LB) * ((c + x + y) / LB) = B * (c + x + y) := by rw [Nat.mul_assoc, ← Nat.mul_add, e]
  have e3 : B * (c + x + y) = B * c + B * x + B * y := by rw [Nat.mul_add, Nat.mul_add]
  omega
theorem a2H {x : List Nat} {d : Nat} (h : Lim x) (hd : d < LB) : Lim (x ++ [d]) := b2t.2 ⟨h, by intro e he; simp at he; omega⟩
theorem c6j {w : List Nat} {k d : Nat} (h : k < w.length) : val (w.set k d) + LB ^ k * w.getD k 0 = val w + LB ^ k * d := by
  induction w generalizing k with
  | nil => simp at h
  | cons e w ih =>
    cases k with
    | zero => simp only [List.set_cons_zero, val, Nat.pow_zero, Nat.one_mul, List.getD_cons_zero]; omega
    | succ k =>
      simp only [List.set_cons_succ, val, List.getD_cons_succ, Nat.pow_succ']
      have := ih (k := k) (by simpa using h)
      have e1 : LB * (val (w.set k d) + LB ^ k * w.getD k 0) = LB * (val w + LB ^ k * d) := by rw [this]
      rw [Nat.mul_add, Nat.mul_add, ← Nat.mul_assoc, ← Nat.mul_assoc] at e1
      omega
theorem c7o {w : List Nat} {k d : Nat} (h : Lim w) (hd : d < LB) : Lim (w.set k d) := by
  intro e he
  rcases List.mem_or_eq_of_mem_set he with h' | h'
  · exact h e h'
  · rw [h']; exact hd
/-- One place of a difference. -/
theorem c7p {vx va vb B bo bo' d x y : Nat} (h : va + B * bo = vx + vb) (hd : x + LB * bo' = d + bo + y) : (va + B * x) + (B * LB) * bo' = (vx + B * d) + (vb + B * y) := by
  have e : B * (x + LB * bo') = B * (d + bo + y) := by rw [hd]
  rw [Nat.mul_add, Nat.mul_add, Nat.mul_add, ← Nat.mul_assoc] at e
  omega
/-- One place of a product. -/
theorem c4c {vw vx A B C c x y q vb vs t : Nat} (hC : C = A * B) (h : vw + C * c = vx + A * (x * vb)) (hs : vs + C * q = vw + C * (t % LB)) (ht : t = c + x * y + q) :
    vs + (C * LB) * (t / LB) = vx + A * (x * (vb + B * y)) := by
  have e : t % LB + LB * (t / LB) = t := Nat.mod_add_div _ _
  have e1 : C * (t % LB) + (C * LB) * (t / LB) = C * t := by rw [Nat.mul_assoc, ← Nat.mul_add, e]
  have e2 : C * t = C * c + C * (x * y) + C * q := by rw [ht, Nat.mul_add, Nat.mul_add]
  have e3 : A * (x * (vb + B * y)) = A * (x * vb) + C * (x * y) := by
    rw [hC, Nat.mul_add, Nat.mul_add, Nat.mul_assoc A B, Nat.mul_left_comm B x y]
  omega
theorem c4d {c x y q : Nat} (hc : c < LB) (hx : x < LB) (hy : y < LB) (hq : q < LB) : c + x * y + q < LB * LB := by
  have : x * y ≤ (LB - 1) * (LB - 1) := Nat.mul_le_mul (by omega) (by omega)
  have e : (LB - 1) * (LB - 1) + (LB - 1) + (LB - 1) < LB * LB := by decide
  omega
theorem b0h {l : List Nat} {i : Nat} (h : i < l.length) : l.take (i + 1) = l.take i ++ [l.getD i 0] := by
  rw [List.take_succ_eq_append_getElem h, List.getD_eq_getElem?_getD, List.getElem?_eq_getElem h, Option.getD_some]
end Go.Abs
namespace Go.Abs
def u32s (l : List Nat) : List AV := l.map fun n : Nat => .int .u32 (n : Int)
def natV (l : List Nat) : AV := .sl 1 (u32s l)
theorem a0w (l : List Nat) : (u32s l).length = l.length := by simp [u32s]
theorem b5C (a b : List Nat) : u32s (a ++ b) = u32s a ++ u32s b := by simp [u32s]
theorem c6m (d : Nat) (l : List Nat) : u32s (d :: l) = .int .u32 (d : Int) :: u32s l := rfl
theorem b5B (l : List Nat) (n : Nat) : (u32s l).take n = u32s (l.take n) := by simp [u32s, List.map_take]
theorem c8y (l : List Nat) (i d : Nat) : (u32s l).set i (.int .u32 (d : Int)) = u32s (l.set i d) := by simp [u32s, List.map_set]
theorem c0M {l : List Nat} {i : Nat} (h : i < l.length) : (u32s l).getD i .top = .int .u32 (l.getD i 0 : Nat) := by
  simp [u32s, h]
theorem c6l (l : List Nat) : (u32s l).flatMap AV.cells = u32s l := by
  induction l with
  | nil => rfl
  | cons d l ih => rw [c6m, List.flatMap_cons, ih]; rfl
theorem c8z (n : Nat) : List.replicate n (AV.int .u32 0) = u32s (List.replicate n 0) := by simp [u32s]
theorem c6n {l : List Nat} {a : AV} (h : a ∈ u32s l) : Cl a := by
  obtain ⟨n, _, rfl⟩ := List.mem_map.1 h; exact .int _ _
theorem b9w {l : List Nat} {a : AV} (h : a ∈ (u32s l).flatMap AV.cells) : Cl a := by rw [c6l] at h; exact c6n h
theorem a0Y (l : List Nat) : ∀ a ∈ (Blk.mk 1 (u32s l)).flat, Cl a := fun a h => b9w h
theorem a2j (l : List Nat) : Cl (natV l) := .sl 1 _ fun c h => b9w h
theorem c5t (l : List Nat) : (natV l).cells = [natV l] := rfl
theorem c9n (l : List Nat) : (natV l).fit = true := rfl
theorem c1p (id : Nat) (l : List Nat) : nref id (natV l) = true := a1n (a2j l)
theorem b5b (l : List Nat) : clb (natV l) = true := b4C (a2j l)
theorem c9m (id : Nat) (b : Blk) (l : List Nat) : frz id b (natV l) = natV l := b4A (a2j l)
theorem c7c (id : Nat) (b : Blk) (l : List Nat) : (u32s l).map (frz id b) = u32s l := by
  rw [List.map_congr_left (g := fun x => x) fun a h => b4A (c6n h)]; simp
theorem a5K (H : Heap) (l : List Nat) : lenV H (natV l) = some (.int .i64 l.length) := by simp [natV, c3t, a0w]
theorem b0V (H : Heap) (l : List Nat) : a0C H 1 false (natV l) = some (u32s l) := a1L H 1 _
theorem a0L (H : Heap) (l : List Nat) (k : IntKind) (i : Nat) (h : i < l.length) : idxV H 1 (natV l) (.int k i) = some (.ro (.int .u32 (l.getD i 0 : Nat)) 0) := by
  rw [natV, c7B _ _ _ _ _ (by omega) (by rw [a0w]; omega)]
  rw [Int.toNat_natCast, c0M h]
theorem c9l (H : Heap) (l : List Nat) (k : IntKind) (n : Nat) (h : n ≤ l.length) : slcV H 1 (natV l) none (some (.int k n)) none = some (natV (l.take n)) := by
  simp only [natV, slcV, a3X, Option.bind_some, a0w]
  rw [if_pos ⟨trivial, by omega, by omega, by omega⟩]
  simp [b5B]
theorem c7d (H L : Heap) (wd i off len : Nat) (oc : Option Nat) (k : IntKind) (j : Nat) {b : Blk} (h : L[i]? = some (some b)) (hw : b.wd = wd) (hj : j < len) :
    idxV (hap H L) wd (.mu (lid H i) off len oc) (.int k j) = some (.loc (lid H i) (off + j) 0) := by
  rw [b7G _ _ _ _ _ _ _ _ (by omega) (by omega), a1I, h]; simp [hw]
theorem c4f (H L : Heap) (i k : Nat) {b : Blk} (h : L[i]? = some (some b)) (hk : k < b.xs.length) : atV (hap H L) (.loc (lid H i) k 0) = some (b.xs.getD k .top).cells := by
  rw [b7T, a1I, h]; simp [hk]
theorem a3k {n : Int} (h0 : 0 ≤ n) (h1 : n < 4294967296) : IntKind.wrap .u32 n = n := by
  simp [IntKind.wrap, IntKind.bits, IntKind.signed]; omega
theorem a0H {n : Int} (h0 : 0 ≤ n) (h1 : n < 18446744073709551616) : IntKind.wrap .u64 n = n := by
  simp [IntKind.wrap, IntKind.bits, IntKind.signed]; omega
theorem a0e {n : Int} (h0 : -9223372036854775808 ≤ n) (h1 : n < 9223372036854775808) : IntKind.wrap .i64 n = n := by
  simp [IntKind.wrap, IntKind.bits, IntKind.signed]; omega
theorem a4j (n : Nat) : IntKind.wrap .u32 (n : Int) = ((n % LB : Nat) : Int) := by
  simp [IntKind.wrap, IntKind.bits, IntKind.signed]
theorem a0W (n : Int) : IntKind.wrap .u64 n = n % 18446744073709551616 := by
  simp [IntKind.wrap, IntKind.bits, IntKind.signed]
theorem b7V (n0 : Nat) (env : Env) (H L : Heap) (l : List Nat) (h : l.length ≤ 17592186044416) :
    appV n0 1 4 false .nil (natV l) env (hap H L) = some (.mu (lid H L.length) 0 l.length none, env, hap H (L ++ [some ⟨1, u32s l⟩])) := by
  have := c4w n0 env H L 1 4 false (natV l) (u32s l) (b0V _ l) (by decide) (by rw [a0w]; omega) (by rw [a0w]; omega)
  rwa [a0w] at this
theorem b7U (n0 : Nat) (env : Env) (H L : Heap) (i len : Nat) (oc : Option Nat) (y : AV) (xs l : List Nat) (hH : a0S H) (hl : L[i]? = some (some ⟨1, u32s xs⟩)) (hlen : len = xs.length) (hn : n0 ≤ lid H i) (ha : d0y H L i)
    (hy : a0C (hap H L) 1 false y = some (u32s l)) (hb : xs.length + l.length ≤ 35184372088832) (hoc : (oc.any fun c => decide (len + l.length ≤ c)) = false := by rfl) :
    appV n0 1 4 false (.mu (lid H i) 0 len oc) y env (hap H L) = some (.mu (lid H i) 0 (len + l.length) (a0Q oc (len + l.length)), scrub (lid H i) env, hap H (L.set i (some ⟨1, u32s (xs ++ l)⟩))) := by
  have := a8s n0 env H L 1 4 false i len oc y (u32s xs) (u32s l) hH hl (by rw [a0w]; exact hlen) hn hy ha (fun a h => (b9w h).ref) (by rw [a0w]; omega) (by rw [a0w]; omega) (by rw [a0w]; exact hoc)
  rwa [a0w, ← b5C] at this
theorem b2A (H : Heap) (i : Nat) (l : List Nat) (oc : Option Nat) : frz (lid H i) ⟨1, u32s l⟩ (.mu (lid H i) 0 l.length oc) = natV l := by
  rw [b7H _ _ _ _ _ (by rw [a0w])]; rfl
/-- The rules for numbers. -/
def EN := And.intro @a5K (And.intro @b2A (And.intro @c7c (And.intro @c1p (And.intro @b5b (And.intro @c5t (And.intro @c9n (And.intro @c9m (And.intro @b0V @a0w))))))))
theorem a5H (H : Heap) (X : List AV) (wd len : Nat) (oc : Option Nat) (k : IntKind) (j : Nat) (h : j < len) : idxV (hap H [some ⟨wd, X⟩]) wd (.mu (lid H 0) 0 len oc) (.int k j) = some (.loc (lid H 0) j 0) := by
  rw [c7d H [some ⟨wd, X⟩] wd 0 0 len oc k j rfl rfl h, Nat.zero_add]
theorem d0F (H : Heap) (x : List Nat) (j : Nat) (h : j < x.length) : atV (hap H [some ⟨1, u32s x⟩]) (.loc (lid H 0) j 0) = some [.int .u32 (x.getD j 0 : Nat)] := by
  rw [c4f H [some ⟨1, u32s x⟩] 0 j rfl (by simpa [a0w] using h)]
  simp only [c0M h, AV.cells]
theorem b3y (H : Heap) (env : Env) (x : List Nat) (j d : Nat) (h : j < x.length) : a5d 1 (.loc (lid H 0) j 0) (.int .u32 (d : Int)) env (hap H [some ⟨1, u32s x⟩]) = some (.top, env, hap H [some ⟨1, u32s (x.set j d)⟩]) := by
  rw [b1W env H [some ⟨1, u32s x⟩] 1 0 j 0 _ rfl (by simpa [a0w] using h) rfl rfl (Nat.le_refl 1)]
  simp only [a6R, c8y, List.set_cons_zero]
theorem a5M (env : Env) (H L : Heap) (k k' : IntKind) (n : Nat) (h : n ≤ 35184372088832) : c5u 1 4 (.int .u32 0) (.int k n) (.int k' n) env (hap H L) = some (.mu (lid H L.length) 0 n (some n), env, hap H (L ++ [some ⟨1, u32s (List.replicate n 0)⟩])) := by
  rw [b6D env H L 1 4 _ k k' n n (by decide) (Nat.le_refl _) (by omega) (by omega), c8z]
theorem b9s (n : Int) : IntKind.wrap .u32 n = n % 4294967296 := by
  simp [IntKind.wrap, IntKind.bits, IntKind.signed]
theorem d1b (t : Nat) : Int.fdiv (t : Int) (2 ^ min (Int.toNat 32) IntKind.u64.bits) = ((t / LB : Nat) : Int) := by
  rw [show (2 : Int) ^ min (Int.toNat 32) IntKind.u64.bits = (LB : Int) by decide, Int.fdiv_eq_ediv_of_nonneg _ (by decide)]; rfl
theorem d1x (H : Heap) (hH : a0S H) (n0 : Nat) (hn : n0 ≤ lid H 0) (env : Env) (x : List Nat) (d : Nat) (hb : x.length < 35184372088832) :
    appV n0 1 4 false (.mu (lid H 0) 0 x.length none) (.sl 1 [.int .u32 (d : Int)]) env (hap H [some ⟨1, u32s x⟩]) = some (.mu (lid H 0) 0 (x.length + 1) none, scrub (lid H 0) env, hap H [some ⟨1, u32s (x ++ [d])⟩]) := by
  have := b7U n0 env H [some ⟨1, u32s x⟩] 0 x.length none (.sl 1 [.int .u32 (d : Int)]) x [d] hH rfl rfl hn (a8r fun b hb a ha => by
    simp at hb; subst hb; exact a0Y x a ha) (a1L _ 1 _) (by simp; omega)
  simpa [a0Q] using this
theorem d2Z (t : Nat) : binV .rem (.int .u64 (t : Int)) (.int .u64 4294967296) = some (.int .u64 ((t % LB : Nat) : Int)) := by
  rw [c0y _ _ _ (by decide), Int.tmod_eq_emod_of_nonneg (by omega)]; rfl
theorem d3a (t : Nat) (h : t < 18446744073709551616) : binV .quo (.int .u64 (t : Int)) (.int .u64 4294967296) = some (.int .u64 ((t / LB : Nat) : Int)) := by
  have hLB : LB = 4294967296 := rfl
  rw [c0z _ _ _ (by decide), Int.tdiv_eq_ediv_of_nonneg (by omega)]
  have : (t : Int) / 4294967296 = ((t / LB : Nat) : Int) := rfl
  rw [this, a0H (by omega) (by omega)]
def E1 := And.intro EV (And.intro EVC EN)
end Go.Abs
namespace Go.Abs
def sgn (neg : Bool) (n : Nat) : Int := if neg then -(n : Int) else n
/-- A number aXs it is handed round: a sign, limbs. -/
structure ZI where
  neg : Bool
  mag : List Nat
def ZI.av (x : ZI) : AV := .agg [.bool x.neg, natV x.mag]
def ZI.z (x : ZI) : Int := sgn x.neg (val x.mag)
/-- The number in its one form. -/
def canZ (z : Int) : ZI := ⟨decide (z < 0), limbs z.natAbs⟩
def Z (z : Int) : AV := .agg [.bool (decide (z < 0)), natV (limbs z.natAbs)]
theorem b2D (z : Int) : (canZ z).av = Z z := rfl
theorem c2a (z : Int) : (canZ z).z = z := by
  unfold canZ ZI.z sgn
  simp only [a0v, decide_eq_true_eq]
  split <;> omega
theorem d2N (neg : Bool) (n : Nat) : .agg [.bool (neg && decide (0 < n)), natV (limbs n)] = Z (sgn neg n) := by
  unfold Z sgn
  cases neg
  · simp <;> omega
  · rcases Nat.eq_zero_or_pos n with h | h
    · subst h; simp
    · simp [h]
theorem c3X (neg : Bool) : sgn neg 0 = 0 := by cases neg <;> rfl
theorem c2w (neg : Bool) (n : Nat) : (sgn neg n).natAbs = n := by cases neg <;> simp [sgn]
theorem Z_cl (z : Int) : Cl (Z z) := .agg _ (by intro c hc; simp at hc; rcases hc with rfl | rfl; exact .bool _; exact a2j _)
theorem ZI.cl (x : ZI) : Cl x.av := .agg _ (by intro c hc; simp at hc; rcases hc with rfl | rfl; exact .bool _; exact a2j _)
theorem c8t : Z 0 = .agg [.bool false, natV []] := by unfold Z; simp [a0x]
theorem le_zero : Le (.agg [.bool false, .nil]) (Z 0) := by rw [c8t]; exact Le.agg2 (Le.refl _) (Le.nil 1 (by decide))
/-- The number's limbs. -/
structure Zok (k : Nat) (x : ZI) : Prop where
  lim : Lim x.mag
  len : x.mag.length ≤ k
theorem Zok.mono {k m : Nat} {x : ZI} (h : Zok k x) (hk : k ≤ m) : Zok m x := ⟨h.lim, Nat.le_trans h.len hk⟩
theorem Zok.lt {k : Nat} {x : ZI} (h : Zok k x) : val x.mag < LB ^ k := by
  have h1 := a2U h.lim
  have h2 : LB ^ x.mag.length ≤ LB ^ k := Nat.pow_le_pow_right (by decide) h.len
  omega
theorem Zok.abs {k : Nat} {x : ZI} (h : Zok k x) : x.z.natAbs < LB ^ k := by unfold ZI.z; rw [c2w]; exact h.lt
theorem a6C {k : Nat} {z : Int} (h : z.natAbs < LB ^ k) : Zok k (canZ z) := ⟨a0T _, a0R h⟩
section
variable (n0 : Nat) (env : Env) (H L : Heap)
def cpyV (wd : Nat) (x y : AV) (env : Env) (H : Heap) : Option (AV × Env × Heap) := (a0C H wd false y).bind fun ys => match x with
      | .mu id off len _ => (hrow H id).bind fun r =>
          if r.wd = wd ∧ off + len ≤ r.xs.length then
            some (.int .i64 (min ys.length len : Nat), env, H.set id (some ⟨wd, r.xs.take off ++ ys.take (min ys.length len) ++ r.xs.drop (off + min ys.length len)⟩)) else none
      | _ => none
theorem d3F (wd : Nat) (a b : Src) : ev n0 (.cpy wd a b) env H = cpyV wd (a.ev env) (b.ev env) env H := by
  simp only [ev, cpyV]; cases a0C H wd false (b.ev env) <;> simp only [Option.bind_none, Option.bind_some]; split <;> simp_all
theorem c0w (wd i len : Nat) (oc : Option Nat) (y : AV) (xs ys : List AV) (hl : L[i]? = some (some ⟨wd, xs⟩)) (hlen : len = xs.length) (hy : a0C (hap H L) wd false y = some ys) (hle : len ≤ ys.length) :
    cpyV wd (.mu (lid H i) 0 len oc) y env (hap H L) = some (.int .i64 len, env, hap H (L.set i (some ⟨wd, ys.take len⟩))) := by
  subst hlen
  simp only [cpyV, hy, Option.bind_some, a1I, hl, Option.join_some, a6T]
  rw [if_pos ⟨trivial, by omega⟩]
  simp [Nat.min_eq_right hle]
end
def EI := @d3F
def E2 := And.intro @EV2 (And.intro @EI @E1)
end Go.Abs
namespace Go.Abs
theorem ZI.av_fit (x : ZI) : x.av.fit = true := rfl
theorem ZI.av_cells (x : ZI) : x.av.cells = [.bool x.neg, natV x.mag] := rfl
theorem ZI.av_nref (id : Nat) (x : ZI) : nref id x.av = true := a1n x.cl
theorem ZI.av_frz (id : Nat) (b : Blk) (x : ZI) : frz id b x.av = x.av := b4A x.cl
theorem d2O (z : Int) : (Z z).cells = [.bool (decide (z < 0)), natV (limbs z.natAbs)] := rfl
theorem d4a (z : Int) : (Z z).fit = true := rfl
theorem d3Q (id : Nat) (z : Int) : nref id (Z z) = true := a1n (Z_cl z)
theorem d3Z (id : Nat) (b : Blk) (z : Int) : frz id b (Z z) = Z z := b4A (Z_cl z)
def vecV (v : List ZI) : AV := .sl 2 (v.map ZI.av)
def matV (b : List (List ZI)) : AV := .sl 1 (b.map vecV)
theorem a2w {a : AV} (h : Cl a) : ∀ c ∈ a.cells, Cl c := by
  intro c hc
  cases a with
  | agg cs => cases h with | agg _ h => exact h c hc
  | mo l => cases h
  | io i n s => cases h
  | _ => simp [AV.cells] at hc; subst hc; exact h
theorem d0d {α : Type} (wd : Nat) (f : α → AV) (l : List α) (h : ∀ x, Cl (f x)) : Cl (.sl wd (l.map f)) := by
  refine .sl wd _ fun c hc => ?_
  obtain ⟨x, hx, hc⟩ := List.mem_flatMap.1 hc
  obtain ⟨y, _, rfl⟩ := List.mem_map.1 hx
  exact a2w (h y) c hc
theorem a0n (v : List ZI) : Cl (vecV v) := d0d 2 _ v ZI.cl
theorem a1Y (b : List (List ZI)) : Cl (matV b) := d0d 1 _ b a0n
theorem c4G (v : List ZI) : (vecV v).cells = [vecV v] := rfl
theorem c8w (v : List ZI) : (vecV v).fit = true := rfl
theorem c6h (id : Nat) (v : List ZI) : nref id (vecV v) = true := a1n (a0n v)
theorem c8x (v : List ZI) : clb (vecV v) = true := b4C (a0n v)
theorem c8v (id : Nat) (b : Blk) (v : List ZI) : frz id b (vecV v) = vecV v := b4A (a0n v)
theorem c5F (v : List (List ZI)) : (matV v).cells = [matV v] := rfl
theorem c9r (v : List (List ZI)) : (matV v).fit = true := rfl
theorem c7h (id : Nat) (v : List (List ZI)) : nref id (matV v) = true := a1n (a1Y v)
theorem c9s (v : List (List ZI)) : clb (matV v) = true := b4C (a1Y v)
theorem c9q (id : Nat) (b : Blk) (v : List (List ZI)) : frz id b (matV v) = matV v := b4A (a1Y v)
section
variable (H : Heap)
theorem d0D {α : Type} (wd : Nat) (f : α → AV) (l : List α) : lenV H (.sl wd (l.map f)) = some (.int .i64 l.length) := by rw [c3t, List.length_map]
theorem d0E {α : Type} (wd : Nat) (f : α → AV) (l : List α) (k : IntKind) (i : Nat) (h : i < l.length) : idxV H wd (.sl wd (l.map f)) (.int k i) = some (.ro (f l[i]) 0) := by
  rw [c7B _ _ _ _ _ (by omega) (by rw [List.length_map]; omega)]
  simp [h]
theorem d0T (v : List ZI) : lenV H (vecV v) = some (.int .i64 v.length) := d0D H 2 _ v
theorem a0I (v : List ZI) (k : IntKind) (i : Nat) (h : i < v.length) : idxV H 2 (vecV v) (.int k i) = some (.ro v[i].av 0) := d0E H 2 _ v k i h
theorem d1J (v : List (List ZI)) : lenV H (matV v) = some (.int .i64 v.length) := d0D H 1 _ v
theorem a1o (v : List (List ZI)) (k : IntKind) (i : Nat) (h : i < v.length) : idxV H 1 (matV v) (.int k i) = some (.ro (vecV v[i]) 0) := d0E H 1 _ v k i h
/-- The elements of a row of the call's own, each closed. -/
theorem a1d {α : Type} (wd : Nat) (f : α → AV) (l : List α) (h : ∀ x, Cl (f x)) : ∀ a ∈ (Blk.mk wd (l.map f)).flat, Cl a := by
  intro a ha
  obtain ⟨x, hx, hc⟩ := List.mem_flatMap.1 ha
  obtain ⟨y, _, rfl⟩ := List.mem_map.1 hx
  exact a2w (h y) a hc
theorem c7H {α : Type} (id : Nat) (b : Blk) (f : α → AV) (l : List α) (h : ∀ x, Cl (f x)) : (l.map f).map (frz id b) = l.map f := by
  rw [List.map_map]
  exact List.map_congr_left fun x _ => b4A (h x)
theorem a5k {α : Type} (i : Nat) (wd : Nat) (f : α → AV) (l : List α) (oc : Option Nat) : frz (lid H i) ⟨wd, l.map f⟩ (.mu (lid H i) 0 l.length oc) = .sl wd (l.map f) := by
  rw [b7H _ _ _ _ _ (by rw [List.length_map])]
theorem c8o {α : Type} (hH : a0S H) (L : Heap) (i : Nat) (n0 : Nat) (hn : n0 ≤ lid H i) (env : Env) (wd bytes : Nat) (f : α → AV) (hf : ∀ x, Cl (f x)) (l : List α) (x : α) (hl : L[i]? = some (some ⟨wd, l.map f⟩)) (hL : ∀ b, some b ∈ L → ∀ a ∈ b.flat, Cl a)
    (hb : (l.length + 1) * bytes ≤ 140737488355328) (hb' : l.length + 1 ≤ 9223372036854775807) :
    appV n0 wd bytes false (.mu (lid H i) 0 l.length none) (.sl wd [f x]) env (hap H L) = some (.mu (lid H i) 0 (l.length + 1) none, scrub (lid H i) env, hap H (L.set i (some ⟨wd, (l ++ [x]).map f⟩))) := by
  have := a8s n0 env H L wd bytes false i l.length none (.sl wd [f x]) (l.map f) [f x] hH hl (by rw [List.length_map]) hn (a1L _ wd _) (a8r hL) (by
    intro a ha
    simp at ha
    exact (a2w (hf x) a ha).ref) (by simpa using hb) (by simpa using hb') rfl
  simpa [a0Q] using this
/-- One row alone. -/
theorem c0B {α : Type} (hH : a0S H) (n0 : Nat) (hn : n0 ≤ lid H 0) (env : Env) (wd bytes : Nat) (f : α → AV) (hf : ∀ x, Cl (f x)) (l : List α) (x : α) (hb : (l.length + 1) * bytes ≤ 140737488355328) (hb' : l.length + 1 ≤ 9223372036854775807) :
    appV n0 wd bytes false (.mu (lid H 0) 0 l.length none) (.sl wd [f x]) env (hap H [some ⟨wd, l.map f⟩]) = some (.mu (lid H 0) 0 (l.length + 1) none, scrub (lid H 0) env, hap H [some ⟨wd, (l ++ [x]).map f⟩]) := by
  have := c8o H hH [some ⟨wd, l.map f⟩] 0 n0 hn env wd bytes f hf l x rfl (by intro b hb; simp at hb; subst hb; exact a1d wd f l hf) hb hb'
  simpa using this
end
structure Vok (k : Nat) (v : List ZI) : Prop where
  len : v.length ≤ 2097152
  el : ∀ x ∈ v, Zok k x
structure Mok (k : Nat) (b : List (List ZI)) : Prop where
  len : b.length ≤ 2097152
  el : ∀ v ∈ b, Vok k v
theorem Vok.mono {k m : Nat} {v : List ZI} (h : Vok k v) (hk : k ≤ m) : Vok m v := ⟨h.len, fun x hx => (h.el x hx).mono hk⟩
theorem Mok.mono {k m : Nat} {b : List (List ZI)} (h : Mok k b) (hk : k ≤ m) : Mok m b := ⟨h.len, fun x hx => (h.el x hx).mono hk⟩
theorem Vok.get {k : Nat} {v : List ZI} (h : Vok k v) {i : Nat} (hi : i < v.length) : Zok k v[i] := h.el _ (List.getElem_mem hi)
theorem Mok.get {k : Nat} {v : List (List ZI)} (h : Mok k v) {i : Nat} (hi : i < v.length) : Vok k v[i] := h.el _ (List.getElem_mem hi)
theorem c0H : (0 < 2) = True := by decide
/-- The rules for vectors. -/
def EM := And.intro c0H <| And.intro @d0T (And.intro @d1J (And.intro @c4G (And.intro @c8w (And.intro @c6h (And.intro @c8x (And.intro @c8v (And.intro @c5F (And.intro @c9r (And.intro @c7h (And.intro @c9s (And.intro @c9q
  (And.intro @ZI.av_fit (And.intro @ZI.av_cells (And.intro @ZI.av_nref (And.intro @ZI.av_frz (And.intro @d2O (And.intro @d4a (And.intro @d3Q @d3Z))))))))))))))))))
def zs (v : List ZI) : List Int := v.map ZI.z
def E3 := And.intro EM @E2
end Go.Abs
namespace Go.Abs
/-- The i-th entry of a vector, a matrix. -/
def zg (v : List ZI) (i : Nat) : Int := (v.getD i ⟨false, []⟩).z
def mg (b : List (List ZI)) (i : Nat) : List ZI := b.getD i []
theorem a4M {v : List ZI} {i : Nat} (h : i < v.length) : zg v i = v[i].z := by simp [zg, h]
theorem a5N {b : List (List ZI)} {i : Nat} (h : i < b.length) : mg b i = b[i] := by simp [mg, h]
/-- The vector in the one form of these entries. -/
def vec (n : Nat) (f : Nat → Int) : List ZI := (List.range n).map fun i => canZ (f i)
def mat (n : Nat) (f : Nat → List ZI) : List (List ZI) := (List.range n).map f
theorem a0l (n : Nat) (f : Nat → Int) : (vec n f).length = n := by simp [vec]
theorem a0m (n : Nat) (f : Nat → List ZI) : (mat n f).length = n := by simp [mat]
theorem a8k (n : Nat) (f : Nat → Int) : vec (n + 1) f = vec n f ++ [canZ (f n)] := by simp [vec, List.range_succ]
theorem a8q (n : Nat) (f : Nat → List ZI) : mat (n + 1) f = mat n f ++ [f n] := by simp [mat, List.range_succ]
theorem b9u {n : Nat} {f : Nat → Int} {i : Nat} (h : i < (vec n f).length) : (vec n f)[i] = canZ (f i) := by simp [vec]
theorem c2W {n : Nat} {f : Nat → List ZI} {i : Nat} (h : i < (mat n f).length) : (mat n f)[i] = f i := by simp [mat]
theorem c0L {n : Nat} {f g : Nat → Int} (h : ∀ i, i < n → f i = g i) : vec n f = vec n g :=
  List.map_congr_left fun i hi => by rw [h i (List.mem_range.1 hi)]
theorem d3r {n : Nat} {f : Nat → List ZI} {i : Nat} (h : i < n) : mg (mat n f) i = f i := by
  rw [a5N (by rw [a0m]; exact h), c2W]
theorem b9p {k n : Nat} {f : Nat → Int} (hn : n ≤ 2097152) (h : ∀ i, i < n → (f i).natAbs < LB ^ k) : Vok k (vec n f) := by
  refine ⟨by rw [a0l]; exact hn, fun x hx => ?_⟩
  obtain ⟨i, hi, rfl⟩ := List.mem_map.1 hx
  exact a6C (h i (List.mem_range.1 hi))
theorem c2T {k n : Nat} {f : Nat → List ZI} (hn : n ≤ 2097152) (h : ∀ i, i < n → Vok k (f i)) : Mok k (mat n f) := by
  refine ⟨by rw [a0m]; exact hn, fun x hx => ?_⟩
  obtain ⟨i, hi, rfl⟩ := List.mem_map.1 hx
  exact h i (List.mem_range.1 hi)
theorem Vok.abs {k : Nat} {v : List ZI} (h : Vok k v) (i : Nat) : (zg v i).natAbs < LB ^ k := by
  rcases Nat.lt_or_ge i v.length with hi | hi
  · rw [a4M hi]; exact (h.get hi).abs
  · simp [zg, hi, ZI.z, sgn, val]
    exact Nat.pow_pos (by decide)
theorem Mok.row {k : Nat} {b : List (List ZI)} (h : Mok k b) (i : Nat) : Vok k (mg b i) := by
  rcases Nat.lt_or_ge i b.length with hi | hi
  · rw [a5N hi]; exact h.get hi
  · simp [mg, hi]
    exact ⟨by simp, by simp⟩
theorem d0I (a b : Nat) : LB ^ (a + b) = LB ^ a * LB ^ b := Nat.pow_add _ _ _
theorem d3v (a : Nat) : 0 < LB ^ a := Nat.pow_pos (by decide)
theorem c0i {a b : Nat} (h : a ≤ b) : LB ^ a ≤ LB ^ b := Nat.pow_le_pow_right (by decide) h
theorem d1H {x y : Int} {k l : Nat} (hx : x.natAbs < LB ^ k) (hy : y.natAbs < LB ^ l) : (x * y).natAbs < LB ^ (k + l) := by
  rw [Int.natAbs_mul, d0I]
  exact Nat.mul_lt_mul'' hx hy
/-- Sums. -/
def b9x (f : Nat → Int) : Nat → Int
  | 0 => 0
  | n + 1 => b9x f n + f n
theorem c3V {f : Nat → Int} {B : Nat} : ∀ (n : Nat), (∀ i, i < n → (f i).natAbs < B) → (b9x f n).natAbs ≤ n * B
  | 0, _ => by simp [b9x]
  | n + 1, h => by
    have h1 := c3V n fun i hi => h i (by omega)
    have h2 := h n (by omega)
    have h3 := Int.natAbs_add_le (b9x f n) (f n)
    rw [b9x, Nat.add_mul]
    omega
/-- A sum of so many, each of k limbs, has two limbs more. -/
theorem c6t {f : Nat → Int} {k n : Nat} (hn : n ≤ 2097152) (h : ∀ i, i < n → (f i).natAbs < LB ^ k) : (b9x f n).natAbs < LB ^ (k + 2) := by
  have h1 := c3V n h
  rw [d0I]
  have hp := d3v k
  generalize LB ^ k = c at *
  have h2 : n * c ≤ 2097152 * c := Nat.mul_le_mul_right _ hn
  have h3 : c * LB ^ 2 = 18446744073709551616 * c := by rw [Nat.mul_comm]; rfl
  omega
section
variable {H : Heap}
/-- b9o rows. -/
def RC (L : Heap) : Prop := ∀ b, some b ∈ L → ∀ a ∈ b.flat, Cl a
theorem RC.nil : RC [] := fun b h => by cases h
theorem RC.none {L : Heap} (h : RC L) : RC (none :: L) := fun b hb a ha => by
  rcases List.mem_cons.1 hb with e | e
  · cases e
  · exact h b e a ha
theorem RC.cons {b : Blk} {L : Heap} (hb : ∀ a ∈ b.flat, Cl a) (h : RC L) : RC (some b :: L) := fun c hc a ha => by
  rcases List.mem_cons.1 hc with e | e
  · cases e; exact hb a ha
  · exact h c e a ha
theorem RC.row {α : Type} {wd : Nat} {f : α → AV} {l : List α} {L : Heap} (hf : ∀ x, Cl (f x)) (h : RC L) : RC (some ⟨wd, l.map f⟩ :: L) := .cons (a1d wd f l hf) h
theorem RC.one {wd : Nat} {x : AV} {L : Heap} (hx : Cl x) (h : RC L) : RC (some ⟨wd, [x]⟩ :: L) := .cons (fun a ha => by
  simp only [Blk.flat, List.flatMap_cons, List.flatMap_nil, List.append_nil] at ha
  exact a2w hx a ha) h
theorem RC.emp {wd : Nat} {L : Heap} (h : RC L) : RC (some ⟨wd, []⟩ :: L) := .cons (fun a ha => by cases ha) h
theorem RC.mo {l : List (Int × Int)} {L : Heap} (h : RC L) : RC (some ⟨0, [.mo l]⟩ :: L) := .cons (fun a ha => by cases ha) h
theorem RC.io {i n : Nat} {s : List Nat} {L : Heap} (h : RC L) : RC (some ⟨0, [.io i n s]⟩ :: L) := .cons (fun a ha => by cases ha) h
theorem RC.zero {L : Heap} (h : RC L) : RC (some ⟨2, [.agg [.bool false, .nil]]⟩ :: L) := .one (.agg _ (by
  intro c hc
  simp only [List.mem_cons, List.not_mem_nil, or_false] at hc
  rcases hc with rfl | rfl
  · exact .bool _
  · exact .nil)) h
theorem c3R {α : Type} (hH : a0S H) {L : Heap} (i : Nat) {n0 : Nat} (hn : n0 ≤ lid H i) {env : Env} {wd bytes : Nat} {f : α → AV} (hf : ∀ x, Cl (f x)) (l : List α) (x : α) (l' : List α) {y : AV} {len : Nat}
    (hlen : len = l.length) (hl : L[i]? = some (some ⟨wd, l.map f⟩)) (hL : RC L) (hy : y = f x) (hl' : l' = l ++ [x]) (hb : (len + 1) * bytes ≤ 140737488355328) (hbb : len + 1 ≤ 9223372036854775807) :
    appV n0 wd bytes false (.mu (lid H i) 0 len none) (.sl wd [y]) env (hap H L) = some (.mu (lid H i) 0 (len + 1) none, scrub (lid H i) env, hap H (L.set i (some ⟨wd, l'.map f⟩))) := by
  subst hy
  subst hl'
  have := a8s n0 env H L wd bytes false i len none (.sl wd [f x]) (l.map f) [f x] hH hl (by rw [List.length_map]; exact hlen) hn (a1L _ wd _) (a8r hL) (by
    intro a ha
    simp at ha
    exact (a2w (hf x) a ha).ref) (by simpa using hb) (by simpa using hbb) rfl
  simpa [a0Q] using this
theorem b1P {α : Type} {L : Heap} (i : Nat) {n0 : Nat} (hn : n0 ≤ lid H i) {env : Env} {wd bytes : Nat} {f : α → AV} (l : List α) (x : α) (l' : List α) {y : AV} {len c : Nat}
    (hlen : len = l.length) (hl : L[i]? = some (some ⟨wd, l.map f⟩)) (hy : y = f x) (hl' : l' = l ++ [x]) (hc : len + 1 ≤ c) :
    appV n0 wd bytes false (.mu (lid H i) 0 len (some c)) (.sl wd [y]) env (hap H L) = some (.mu (lid H i) 0 (len + 1) (some c), env, hap H (L.set i (some ⟨wd, l'.map f⟩))) := by
  subst hy
  subst hl'
  have := c8p n0 env H L wd bytes false i len c (.sl wd [f x]) (l.map f) [f x] hl (by rw [List.length_map]; exact hlen) hn (a1L _ wd _) (by simp) (by simpa using hc)
  simpa using this
theorem a3p (env : Env) (L : Heap) (wd bytes : Nat) (z : AV) (k k' : IntKind) (c : Nat) (h0 : 0 < wd) (h2 : bytes * c ≤ 281474976710656) (h3 : c ≤ 9223372036854775807) :
    c5u wd bytes z (.int k 0) (.int k' c) env (hap H L) = some (.mu (lid H L.length) 0 0 (some c), env, hap H (L ++ [some ⟨wd, []⟩])) := by
  have := b6D env H L wd bytes z k k' 0 c h0 (Nat.zero_le _) h2 h3
  simpa using this
theorem a9X {α : Type} (i wd : Nat) (f : α → AV) (l : List α) (len : Nat) (oc : Option Nat) (h : len = l.length) : frz (lid H i) ⟨wd, l.map f⟩ (.mu (lid H i) 0 len oc) = .sl wd (l.map f) := by
  subst h; exact a5k H i wd f l oc
section
variable {x : Cx} {todo : List AItem} {env : Env} {R : AV → Heap → Prop} {a b c d e : Option Blk}
theorem Safe.drop1 (hH : a0S H) (hx : x.n0 = H.length) (he : env.all (fun p => nref (lid H 1) p.2) = true) (hL : RC [a]) (h : Safe x todo env (hap H [a]) R) : Safe x todo env (hap H [a, b]) R := Safe.dropC (L := [a]) hH hx he hL h
end
/-- A number not yet written is told aXs 0. -/
theorem Safe.told0 (i : Nat) {x : Cx} {todo : List AItem} {env : Env} {L : Heap} {R : AV → Heap → Prop} (hl : L[i]? = some (some ⟨2, [.agg [.bool false, .nil]]⟩)) (h : Safe x todo env (hap H (L.set i (some ⟨2, [Z 0]⟩))) R) : Safe x todo env (hap H L) R := by
  rw [c8t] at h
  refine Safe.toldRow (b' := ⟨2, [.agg [.bool false, natV []]]⟩) i hl rfl (by intro y hy; simp at hy; subst hy; rfl) rfl (by simp) ?_ h
  intro k a c ha hc
  match k with
  | 0 => cases ha; cases hc; exact Le.refl _
  | 1 => cases ha; cases hc; exact Le.nil 1 (by decide)
  | k + 2 => simp [Blk.flat, AV.cells] at ha
end
end Go.Abs
namespace Go.Abs
section
variable {x : Cx} {todo : List AItem} {env : Env} {R : AV → Heap → Prop} {H : Heap} {b : Option Blk}
theorem Safe.drop0 (hH : a0S H) (hx : x.n0 = H.length) (he : env.all (fun p => nref (lid H 0) p.2) = true) (hL : RC []) (h : Safe x todo env (hap H []) R) : Safe x todo env (hap H [b]) R := Safe.dropC (L := []) hH hx he hL h
theorem b4B {n : Nat} {a : AV} {k : Nat} {c : AV} (h : ((List.replicate n a).flatMap AV.cells)[k]? = some c) : ∃ j, a.cells[j]? = some c ∧ j = k % a.cells.length ∧ k / a.cells.length < n := by
  induction n generalizing k with
  | zero => simp at h
  | succ n ih =>
    rw [List.replicate_succ, List.flatMap_cons] at h
    rcases Nat.lt_or_ge k a.cells.length with hk | hk
    · rw [List.getElem?_append_left hk] at h
      exact ⟨k, h, (Nat.mod_eq_of_lt hk).symm, by rw [Nat.div_eq_of_lt hk]; omega⟩
    · rw [List.getElem?_append_right hk] at h
      obtain ⟨j, h1, h2, h3⟩ := ih h
      have hp : 0 < a.cells.length := by
        rcases Nat.eq_zero_or_pos a.cells.length with h0 | h0
        · have := a0h h1; omega
        · exact h0
      refine ⟨j, h1, ?_, ?_⟩
      · rw [h2, Nat.mod_eq_sub_mod hk]
      · rw [Nat.div_eq_sub_div hp hk]; omega
theorem b3k {n wd : Nat} {a : AV} (h : a.cells.length = wd) : ((List.replicate n a).flatMap AV.cells).length = n * wd := by
  rw [a1h (wd := wd)]
  · simp
  · intro x hx; rw [List.eq_of_mem_replicate hx]; exact h
/-- Numbers not yet written are told aXs 0. -/
theorem Safe.toldRep (i n : Nat) {L : Heap} (hl : L[i]? = some (some ⟨2, List.replicate n (.agg [.bool false, .nil])⟩)) (h : Safe x todo env (hap H (L.set i (some ⟨2, (vec n fun _ => 0).map ZI.av⟩))) R) : Safe x todo env (hap H L) R := by
  have e : (vec n fun _ => 0).map ZI.av = List.replicate n (.agg [.bool false, natV []]) := by
    apply List.ext_getElem
    · simp [a0l]
    · intro j h1 h2
      simp only [List.getElem_map, b9u, b2D, c8t, List.getElem_replicate]
  rw [e] at h
  refine Safe.toldRow (b' := ⟨2, List.replicate n (.agg [.bool false, natV []])⟩) i hl rfl (by intro y hy; rw [List.eq_of_mem_replicate hy]; rfl) ?_ (by simp) ?_ h
  · show ((List.replicate n _).flatMap AV.cells).length = ((List.replicate n _).flatMap AV.cells).length
    rw [b3k (wd := 2) rfl, b3k (wd := 2) rfl]
  · intro k a c ha hc
    obtain ⟨j, h1, h2, _⟩ := b4B ha
    obtain ⟨j', h1', h2', _⟩ := b4B hc
    have : j' = j := by rw [h2, h2']; rfl
    subst this
    match j' with
    | 0 => cases h1; cases h1'; exact Le.refl _
    | 1 => cases h1; cases h1'; exact Le.nil 1 (by decide)
    | j + 2 => simp [AV.cells] at h1
end
/-- One entry written. -/
def updF (f : Nat → Int) (i : Nat) (z : Int) : Nat → Int := fun k => if k = i then z else f k
theorem d0S (n : Nat) (f : Nat → Int) (i : Nat) (z : Int) : ((vec n f).map ZI.av).set i (Z z) = (vec n (updF f i z)).map ZI.av := by
  apply List.ext_getElem
  · simp [a0l]
  · intro j h1 h2
    rw [List.getElem_set]
    simp only [List.getElem_map, b9u, updF]
    by_cases h : i = j
    · subst h; simp [b2D]
    · rw [if_neg h, if_neg (fun e => h e.symm)]
theorem b7K (p : Nat → Prop) [DecidablePred p] : ∀ (n : Nat), (∀ i, i < n → p i) ∨ ∃ i, i < n ∧ ¬ p i ∧ ∀ j, j < i → p j
  | 0 => .inl fun i hi => absurd hi (by omega)
  | n + 1 => by
    rcases b7K p n with h | ⟨i, hi, h1, h2⟩
    · by_cases hp : p n
      · exact .inl fun i hi => by
          rcases Nat.lt_or_ge i n with h' | h'
          · exact h i h'
          · rw [show i = n by omega]; exact hp
      · exact .inr ⟨n, by omega, hp, h⟩
    · exact .inr ⟨i, by omega, h1, h2⟩
def lead? (v : List ZI) : Option Nat := (List.range v.length).find? fun i => decide (zg v i ≠ 0)
def c5J (v : List ZI) : Int := match lead? v with
  | some i => i
  | none => -1
def upS (v : List ZI) : Int := match lead? v with
  | some i => if zg v i < 0 then -1 else 1
  | none => 1
theorem c7q {v : List ZI} {i : Nat} (hi : i < v.length) (h0 : zg v i ≠ 0) (h : ∀ j, j < i → zg v j = 0) : lead? v = some i := by
  unfold lead?
  have e : List.range v.length = List.range i ++ (i :: (List.range' (i + 1) (v.length - (i + 1)))) := by
    rw [List.range_eq_range', List.range_eq_range', ← List.range'_succ, show v.length = i + (v.length - i) by omega, ← List.range'_append_1]
    rw [show i + (v.length - i) - (i + 1) + 1 = v.length - i by omega]
    simp
  rw [e, List.find?_append]
  have : (List.range i).find? (fun i => decide (zg v i ≠ 0)) = none := by
    rw [List.find?_eq_none]
    intro x hx
    simp [h x (List.mem_range.1 hx)]
  rw [this]
  simp [h0]
theorem c1C {v : List ZI} (h : ∀ j, j < v.length → zg v j = 0) : lead? v = none := by
  unfold lead?
  rw [List.find?_eq_none]
  intro x hx
  simp [h x (List.mem_range.1 hx)]
theorem a3x (v : List ZI) : (∃ i, i < v.length ∧ zg v i ≠ 0 ∧ (∀ j, j < i → zg v j = 0) ∧ c5J v = i ∧ upS v = if zg v i < 0 then -1 else 1) ∨ ((∀ j, j < v.length → zg v j = 0) ∧ c5J v = -1 ∧ upS v = 1) := by
  rcases b7K (fun i => zg v i = 0) v.length with h | ⟨i, hi, h1, h2⟩
  · exact .inr ⟨h, by rw [c5J, c1C h], by rw [upS, c1C h]⟩
  · exact .inl ⟨i, hi, h1, h2, by rw [c5J, c7q hi h1 h2], by rw [upS, c7q hi h1 h2]⟩
def Rect (b : List (List ZI)) : Prop := ∀ i, i < b.length → (mg b i).length = (mg b 0).length
def wid (b : List (List ZI)) : Nat := (mg b 0).length
theorem b8D (b : List (List ZI)) : Rect b ∨ ∃ i, i < b.length ∧ (mg b i).length ≠ (mg b 0).length ∧ ∀ j, j < i → (mg b j).length = (mg b 0).length :=
  b7K (fun i => (mg b i).length = (mg b 0).length) b.length
theorem a4t (H : Heap) (v : List (List ZI)) (k : IntKind) (h : 0 < v.length) : idxV H 1 (matV v) (.int k 0) = some (.ro (vecV v[0]) 0) := a1o H v k 0 h
/-- The matrix, each entry in one form. -/
def c5P (b : List (List ZI)) : List (List ZI) := mat b.length fun i => vec (mg b i).length fun k => zg (mg b i) k
theorem c7F (H : Heap) (i : Nat) (v : List ZI) (len : Nat) (oc : Option Nat) (h : len = v.length) : frz (lid H i) ⟨2, v.map ZI.av⟩ (.mu (lid H i) 0 len oc) = vecV v := a9X i 2 ZI.av v len oc h
theorem c7G (H : Heap) (i : Nat) (v : List (List ZI)) (len : Nat) (oc : Option Nat) (h : len = v.length) : frz (lid H i) ⟨1, v.map vecV⟩ (.mu (lid H i) 0 len oc) = matV v := a9X i 1 vecV v len oc h
theorem a9U (id : Nat) (b : Blk) (v : List ZI) : (v.map ZI.av).map (frz id b) = v.map ZI.av := c7H id b ZI.av v ZI.cl
theorem a9V (id : Nat) (b : Blk) (v : List (List ZI)) : (v.map vecV).map (frz id b) = v.map vecV := c7H id b vecV v a0n
end Go.Abs
namespace Go.Abs
section
variable {H L : Heap} {a b : Option Blk} {wd len j n : Nat} {X : List AV} {oc : Option Nat} {k : IntKind} {f : Nat → Int} {z : Int} {env : Env}
theorem c7A (h : j < len) : idxV (hap H (some ⟨wd, X⟩ :: L)) wd (.mu (lid H 0) 0 len oc) (.int k j) = some (.loc (lid H 0) j 0) := by
  rw [c7d H _ wd 0 0 len oc k j rfl rfl h, Nat.zero_add]
end
def c0N (b : List (List ZI)) : List (List ZI) := mat (wid b) fun k => vec b.length fun i => zg (mg b i) k
theorem d0X {b : List (List ZI)} {p : Nat} (hb : Mok p b) : Mok p (c0N b) := c2T (hb.row 0).len fun k _ => b9p hb.len fun i _ => (hb.row i).abs k
theorem mgz {b : List (List ZI)} {i j : Nat} (hi : i < b.length) (hj : j < b[i].length) : b[i][j].z = zg (mg b i) j := by rw [a5N hi, a4M hj]
theorem c1g {b : List (List ZI)} (hr : Rect b) {i : Nat} (hi : i < b.length) : b[i].length = wid b := by
  have := hr i hi
  rwa [a5N hi] at this
end Go.Abs
namespace Go.Abs
/-- A text by its bytes. -/
def strU (l : List UInt8) : AV := .str ⟨l.toArray⟩
def byts (l : List UInt8) : List AV := l.map fun b => .int .u8 (b.toNat : Int)
theorem a2u (l : List UInt8) : Cl (strU l) := .str _
theorem a4I (l : List UInt8) : (byts l).length = l.length := by simp [byts]
theorem c3O (a b : List UInt8) : byts (a ++ b) = byts a ++ byts b := by simp [byts]
theorem c2c (l : List UInt8) : (byts l).flatMap AV.cells = byts l := by
  induction l with
  | nil => rfl
  | cons d l ih =>
    rw [show byts (d :: l) = .int .u8 (d.toNat : Int) :: byts l from rfl, List.flatMap_cons, ih]
    rfl
theorem d2B {l : List UInt8} : ∀ a ∈ (Blk.mk 1 (byts l)).flat, Cl a := by
  intro a ha
  rw [show (Blk.mk 1 (byts l)).flat = byts l from c2c l] at ha
  obtain ⟨b, _, rfl⟩ := List.mem_map.1 ha
  exact .int _ _
theorem c0O (l : List UInt8) : (ByteArray.mk l.toArray).size = l.length := by simp [ByteArray.size]
theorem c2v (a b : List UInt8) : (ByteArray.mk a.toArray) ++ (ByteArray.mk b.toArray) = ⟨(a ++ b).toArray⟩ := by
  apply ByteArray.ext
  simp
theorem c2F (l : List UInt8) : a8T (byts l) = some (l.map fun b => (b.toNat : Int)) := by
  induction l with
  | nil => rfl
  | cons b l ih =>
    rw [show byts (b :: l) = .int .u8 (b.toNat : Int) :: byts l from rfl]
    simp only [a8T, ih, Option.map_some, List.map_cons]
theorem c4N (l : List UInt8) : strOfNums (l.map fun b => (b.toNat : Int)) = ⟨l.toArray⟩ := by
  unfold strOfNums
  congr 2
  rw [List.map_map]
  conv => rhs; rw [← List.map_id l]
  apply List.map_congr_left
  intro b _
  simp
theorem c6v (l : List UInt8) : strB (byts l) = some (strU l) := by
  simp only [strB, c2F, Option.map_some, c4N, strU]
theorem c6I (a b : List UInt8) (h : a.length + b.length ≤ 9223372036854775807) : binV .add (strU a) (strU b) = some (strU (a ++ b)) := by
  unfold strU
  rw [c8k _ _ (by rw [c0O, c0O]; exact h), c2v]
theorem c6F (a b : List UInt8) : binV .eql (strU a) (strU b) = some (.bool (a == b)) := by
  unfold strU
  rw [c2f]
  simp
theorem c4M (l : List UInt8) : (strU l).cells = [strU l] := rfl
theorem c8G (l : List UInt8) : (strU l).fit = true := rfl
theorem c6u (id : Nat) (l : List UInt8) : nref id (strU l) = true := a1n (a2u l)
theorem c8H (l : List UInt8) : clb (strU l) = true := b4C (a2u l)
theorem c8F (id : Nat) (b : Blk) (l : List UInt8) : frz id b (strU l) = strU l := b4A (a2u l)
theorem RC.byts {l : List UInt8} {L : Heap} (h : RC L) : RC (some ⟨1, byts l⟩ :: L) := .cons d2B h
def ES := And.intro @c4M (And.intro @c8G (And.intro @c6u (And.intro @c8H @c8F)))
def cdig (d : Nat) : UInt8 := UInt8.ofNat (48 + d)
theorem d2s {d : Nat} (h : d < 10) : (cdig d).toNat = 48 + d := by
  unfold cdig
  rw [UInt8.toNat_ofNat']
  omega
/-- The digits from the lowest; none for 0. -/
def digs (n : Nat) : List UInt8 := if h : n = 0 then [] else cdig (n % 10) :: digs (n / 10)
theorem b1L : digs 0 = [] := by rw [digs]; simp
theorem b5i {n : Nat} (h : n ≠ 0) : digs n = cdig (n % 10) :: digs (n / 10) := by rw [digs]; simp [h]
/-- A number's text. -/
def dec (n : Nat) : List UInt8 := if n = 0 then [48] else (digs n).reverse
def decI (z : Int) : List UInt8 := if z < 0 then 45 :: dec z.natAbs else dec z.natAbs
theorem c0u : ∀ (k n : Nat), n < 10 ^ k → (digs n).length ≤ k
  | 0, n, h => by
    have : n = 0 := by simpa using h
    rw [this, b1L]; simp
  | k + 1, n, h => by
    by_cases h0 : n = 0
    · rw [h0, b1L]; simp
    · rw [b5i h0, List.length_cons]
      have := c0u k (n / 10) (by rw [Nat.pow_succ] at h; omega)
      omega
theorem d0G (k : Nat) : LB ^ k ≤ 10 ^ (10 * k) := by
  rw [Nat.pow_mul]
  exact Nat.pow_le_pow_left (by decide) k
theorem c7S {k n : Nat} (h : n < LB ^ k) : (dec n).length ≤ 10 * k + 1 := by
  unfold dec
  split
  · simp
  · rw [List.length_reverse]
    have := c0u (10 * k) n (Nat.lt_of_lt_of_le h (d0G k))
    omega
theorem d0a {k : Nat} {z : Int} (h : z.natAbs < LB ^ k) : (decI z).length ≤ 10 * k + 2 := by
  unfold decI
  have := c7S h
  split
  · rw [List.length_cons]; omega
  · omega
def sdiv (d : Nat) : List Nat → List Nat × Nat
  | [] => ([], 0)
  | x :: xs => (((sdiv d xs).2 * LB + x) / d :: (sdiv d xs).1, ((sdiv d xs).2 * LB + x) % d)
theorem a6V (d x : Nat) (xs : List Nat) : sdiv d (x :: xs) = (((sdiv d xs).2 * LB + x) / d :: (sdiv d xs).1, ((sdiv d xs).2 * LB + x) % d) := rfl
theorem b9A (d : Nat) : ∀ xs, (sdiv d xs).1.length = xs.length
  | [] => rfl
  | x :: xs => by rw [a6V]; simp [b9A d xs]
theorem b4W {d : Nat} (hd : 0 < d) : ∀ xs, (sdiv d xs).2 < d
  | [] => hd
  | x :: xs => by rw [a6V]; exact Nat.mod_lt _ hd
theorem b9z {d : Nat} (hd : 0 < d) : ∀ xs, val (sdiv d xs).1 * d + (sdiv d xs).2 = val xs
  | [] => by simp [sdiv, val]
  | x :: xs => by
    have ih := b9z hd xs
    rw [a6V]
    simp only [val]
    have h := Nat.div_add_mod ((sdiv d xs).2 * LB + x) d
    rw [← ih]
    generalize ((sdiv d xs).2 * LB + x) / d = q at *
    generalize ((sdiv d xs).2 * LB + x) % d = r at *
    generalize val (sdiv d xs).1 = v at *
    generalize (sdiv d xs).2 = s at *
    have e1 : (q + LB * v) * d = d * q + LB * (v * d) := by rw [Nat.add_mul, Nat.mul_comm q d, Nat.mul_assoc]
    have e2 : LB * (v * d + s) = LB * (v * d) + s * LB := by rw [Nat.mul_add, Nat.mul_comm LB s]
    omega
theorem c3Z {d : Nat} (hd : 0 < d) : ∀ {xs : List Nat}, Lim xs → Lim (sdiv d xs).1
  | [], _ => c3r
  | x :: xs, h => by
    obtain ⟨h1, h2⟩ := b5d.1 h
    rw [a6V]
    refine b5d.2 ⟨?_, c3Z hd h2⟩
    have := b4W hd xs
    rw [Nat.div_lt_iff_lt_mul hd]
    have e : LB * d = (d - 1) * LB + LB := by
      rw [← Nat.succ_mul, Nat.mul_comm]
      congr 1; omega
    have : (sdiv d xs).2 * LB ≤ (d - 1) * LB := Nat.mul_le_mul_right _ (by omega)
    omega
theorem c8M {d : Nat} (hd : 0 < d) (xs : List Nat) : val (sdiv d xs).1 = val xs / d := by
  have h1 := b9z hd xs
  have h2 := b4W hd xs
  rw [← h1, Nat.add_comm, Nat.add_mul_div_right _ _ hd, Nat.div_eq_of_lt h2, Nat.zero_add]
theorem c8L {d : Nat} (hd : 0 < d) (xs : List Nat) : (sdiv d xs).2 = val xs % d := by
  have h1 := b9z hd xs
  have h2 := b4W hd xs
  rw [← h1, Nat.add_comm, Nat.add_mul_mod_self_right, Nat.mod_eq_of_lt h2]
def tx (n : Nat) (g : Nat → List UInt8) : List (List UInt8) := (List.range n).map g
theorem a5b (n : Nat) (g : Nat → List UInt8) : (tx n g).length = n := by simp [tx]
theorem b5D (n : Nat) (g : Nat → List UInt8) : tx (n + 1) g = tx n g ++ [g n] := by simp [tx, List.range_succ]
def txV (v : List ZI) : List UInt8 := Lib.join (tx v.length fun i => decI (zg v i)) [32]
def txM (b : List (List ZI)) : List UInt8 := Lib.join (tx b.length fun i => txV (mg b i)) [59, 32]
theorem c7u (g : Nat → List UInt8) (sep : List UInt8) : Lib.join (tx 0 g) sep = [] := rfl
theorem join_one (g : Nat → List UInt8) (sep : List UInt8) : Lib.join (tx 1 g) sep = g 0 := Lib.join_one _ _
theorem c7v (g : Nat → List UInt8) (sep : List UInt8) (i : Nat) : Lib.join (tx (i + 2) g) sep = Lib.join (tx (i + 1) g) sep ++ sep ++ g (i + 1) := by
  have e : ∀ n, tx (n + 1) g = g 0 :: tx n fun i => g (i + 1) := fun n => by
    simp only [tx, List.range_succ_eq_map, List.map_cons, List.map_map]; rfl
  rw [e (i + 1), e i, Lib.join_cons, Lib.join_cons, b5D]
  simp [Lib.joinTail, List.append_assoc]
theorem c4i (g : Nat → List UInt8) (sep : List UInt8) : ∀ n, (Lib.join (tx n g) sep).length ≤ ((tx n g).map fun x => x.length + sep.length).sum
  | 0 => by rw [c7u]; exact Nat.zero_le _
  | 1 => by rw [join_one]; simp [tx]
  | n + 2 => by
    have ih := c4i g sep (n + 1)
    rw [c7v, b5D (n + 1)]
    simp only [List.length_append, List.map_append, List.sum_append, List.map_cons, List.map_nil, List.sum_cons, List.sum_nil]
    omega
end Go.Abs
namespace Go.Abs
def fl (n : Nat) (f : Nat → Nat) : List Nat := (List.range n).map f
end Go.Abs
namespace Go.Abs
open Go.Proofs
noncomputable abbrev Pr : Program := Try.prog
abbrev a5q : FuncId := 3
abbrev a6c : FuncId := 4
abbrev a4L : FuncId := 5
abbrev a2P : FuncId := 6
abbrev a5p : FuncId := 7
abbrev a2e : FuncId := 8
abbrev b2P : FuncId := 9
abbrev a2s : FuncId := 10
abbrev b0b : FuncId := 11
abbrev a8g : FuncId := 12
abbrev b2N : FuncId := 13
abbrev a1S : FuncId := 14
abbrev a1m : FuncId := 15
abbrev a2M : FuncId := 16
abbrev a4f : FuncId := 17
abbrev a4e : FuncId := 18
abbrev a4b : FuncId := 19
abbrev a2N : FuncId := 20
abbrev b2L : FuncId := 21
abbrev b2M : FuncId := 22
abbrev b0c : FuncId := 23
abbrev a1l : FuncId := 24
abbrev a2f : FuncId := 25
abbrev a0t : FuncId := 26
abbrev a0N : FuncId := 27
abbrev a2A : FuncId := 28
abbrev a4K : FuncId := 29
abbrev a5a : FuncId := 30
abbrev a2F : FuncId := 31
abbrev b7Y : FuncId := 32
abbrev b2O : FuncId := 33
abbrev a4a : FuncId := 34
abbrev a2d : FuncId := 35
abbrev a3u : FuncId := 36
abbrev a2y : FuncId := 37
abbrev a0q : FuncId := 38
abbrev b0a : FuncId := 39
abbrev a1j : FuncId := 40
abbrev a3v : FuncId := 41
abbrev a3t : FuncId := 42
abbrev a8i : FuncId := 43
abbrev b2Q : FuncId := 44
abbrev a8h : FuncId := 45
abbrev a4J : FuncId := 46
abbrev a1e : FuncId := 47
abbrev a3y : FuncId := 48
abbrev a1k : FuncId := 49
abbrev a1Z : FuncId := 50
abbrev a1W : FuncId := 51
abbrev b2K : FuncId := 52
abbrev a4c : FuncId := 53
abbrev a4d : FuncId := 54
abbrev a5o : FuncId := 55
abbrev b1Q : FuncId := 56
abbrev a2O : FuncId := 57
abbrev a1b : FuncId := 58
abbrev a9Y : FuncId := 59
abbrev a2a : FuncId := 63
abbrev a6b : FuncId := 64
abbrev a0J : FuncId := 65
abbrev a0Z : FuncId := 66
abbrev a5n : FuncId := 67
abbrev a2z : FuncId := 68
abbrev a3z : FuncId := 71
abbrev b2J : FuncId := 74
abbrev a9Z : FuncId := 75
def c8E : ByteArray := ⟨#[0, 1, 2, 2, 3, 3, 3, 3, 4, 4, 4, 4, 4, 4, 4, 4, 5, 5, 5, 5, 5, 5, 5, 5, 5, 5, 5, 5, 5, 5, 5, 5, 6, 6, 6, 6, 6, 6, 6, 6, 6, 6, 6, 6, 6, 6, 6, 6, 6, 6, 6, 6, 6, 6, 6, 6, 6, 6, 6, 6, 6, 6, 6, 6, 7, 7, 7, 7, 7, 7, 7, 7, 7, 7, 7, 7, 7, 7, 7, 7, 7, 7, 7, 7, 7, 7, 7, 7, 7, 7, 7, 7, 7, 7, 7, 7, 7, 7, 7, 7, 7, 7, 7, 7, 7, 7, 7, 7, 7, 7, 7, 7, 7, 7, 7, 7, 7, 7, 7, 7, 7, 7, 7, 7, 7, 7, 7, 7, 8, 8, 8, 8, 8, 8, 8, 8, 8, 8, 8, 8, 8, 8, 8, 8, 8, 8, 8, 8, 8, 8, 8, 8, 8, 8, 8, 8, 8, 8, 8, 8, 8, 8, 8, 8, 8, 8, 8, 8, 8, 8, 8, 8, 8, 8, 8, 8, 8, 8, 8, 8, 8, 8, 8, 8, 8, 8, 8, 8, 8, 8, 8, 8, 8, 8, 8, 8, 8, 8, 8, 8, 8, 8, 8, 8, 8, 8, 8, 8, 8, 8, 8, 8, 8, 8, 8, 8, 8, 8, 8, 8, 8, 8, 8, 8, 8, 8, 8, 8, 8, 8, 8, 8, 8, 8, 8, 8, 8, 8, 8, 8, 8, 8, 8, 8, 8, 8, 8, 8, 8, 8, 8, 8, 8, 8, 8, 8]⟩
end Go.Abs

/- Part 3 of the proof of WholeDual: A14, A15, A16, A17, A19, A21, A22, A23, A24, A25, A26, M1, D1, D2, D3, D4, D5, D6, D8, D9, D10, D11, L1, L2, L3, L4, L5, L6, L7, L8, L9, L10, L11. -/
import Derived.Test.YtidemmcbjiccfaaWholeDualK2
set_option linter.unusedVariables false
set_option linter.unusedSimpArgs false
set_option linter.defProp false
namespace Go.Abs
section
variable (P : Program) (n0 : Nat) (K : Env → Heap → Prop) (env : Env) (H : Heap)
theorem e6O : dops P n0 [] K env H = K env H := rfl
theorem e4b (d : Option Nat) (o : AOp) (l : List AIns) : dops P n0 (⟨d, none, o⟩ :: l) K env H = b2W P n0 o d (dops P n0 l K) env H := rfl
theorem e4a (d : Option Nat) (t : Nat) (want : Bool) (o : AOp) (l : List AIns) :
  dops P n0 (⟨d, some (t, want), o⟩ :: l) K env H = b0b want (look env t) fun c => if c = want then b2W P n0 o d (dops P n0 l K) env H else dops P n0 l K (put d (.tup []) env) H := rfl
theorem e9Z (o : POp) (d : Option Nat) : b2W P n0 (.p o) d K env H = a9a (pv o env H) fun v => K (put d v env) H := rfl
theorem f0a (o : EOp) (d : Option Nat) : b2W P n0 (.e o) d K env H = b5q (ev n0 o env H) fun v env' H' => K (put d v env') H' := rfl
def dcall (P : Program) (f : FuncId) (args : List AV) (H : Heap) (K : AV → Prop) : Prop := ∃ r, (∀ L, a0m P f args (H ++ L) fun r' H' => r' = r ∧ H' = H ++ L) ∧ K r
def dres (K : Env → Heap → Prop) (d : Option Nat) (env : Env) (H : Heap) : AV → Prop := fun r => K (put d r env) H
theorem f0c (d : Option Nat) (r : AV) : dres K d env H r = K (put d r env) H := rfl
theorem e1v (f : FuncId) (args : List Src) (d : Option Nat) : b2W P n0 (.call f args) d K env H = dcall P f (args.map (·.ev env)) H (dres K d env H) := rfl
def d5N (P : Program) (g : AV) (args : List AV) (H : Heap) (K : AV → Prop) : Prop := match g with
 | .fn f caps => dcall P f (args ++ caps) H K
 | _ => False
theorem d8d (g : Src) (args : List Src) (d : Option Nat) : b2W P n0 (.callv g args) d K env H = d5N P (g.ev env) (args.map (·.ev env)) H (dres K d env H) := by
 simp only [b2W, d5N]; split <;> simp_all [dcall, dres]
theorem e4i (f : FuncId) (caps args : List AV) (K : AV → Prop) : d5N P (.fn f caps) args H K = dcall P f (args ++ caps) H K := rfl
end
def dgcall (P : Program) (f : FuncId) (args : List AV) (H : Heap) (K : AV → Heap → Prop) : Prop := ∃ r L, (a0m P f args H fun r' H' => r' = r ∧ H' = H ++ L) ∧ K r (H ++ L)
def e4f (P : Program) (g : AV) (args : List AV) (H : Heap) (K : AV → Heap → Prop) : Prop := match g with
 | .fn f caps => dgcall P f (args ++ caps) H K
 | _ => False
@[congr] theorem e8a {P : Program} {f : FuncId} {aXs as' : List AV} {H H' : Heap} {K : AV → Heap → Prop} (h : aXs = as') (h' : H = H') : dgcall P f aXs H K = dgcall P f as' H' K := by rw [h, h']
@[congr] theorem e6P {P : Program} {g g' : AV} {aXs as' : List AV} {H H' : Heap} {K : AV → Heap → Prop} (h : g = g') (h2 : aXs = as') (h' : H = H') : e4f P g aXs H K = e4f P g' as' H' K := by rw [h, h2, h']
@[congr] theorem f0J {P : Program} {n0 : Nat} {l : List AIns} {K : Env → Heap → Prop} {env env' : Env} {H H' : Heap} (h : env = env') (h' : H = H') : dops P n0 l K env H = dops P n0 l K env' H' := by rw [h, h']
@[congr] theorem f0b {P : Program} {n0 : Nat} {o : AOp} {d : Option Nat} {K : Env → Heap → Prop} {env env' : Env} {H H' : Heap} (h : env = env') (h' : H = H') : b2W P n0 o d K env H = b2W P n0 o d K env' H' := by rw [h, h']
@[congr] theorem f0e {P : Program} {f : FuncId} {aXs as' : List AV} {H H' : Heap} {K : AV → Prop} (h : aXs = as') (h' : H = H') : dcall P f aXs H K = dcall P f as' H' K := by rw [h, h']
@[congr] theorem e8e {P : Program} {g g' : AV} {aXs as' : List AV} {H H' : Heap} {K : AV → Prop} (h : g = g') (h2 : aXs = as') (h' : H = H') : d5N P g aXs H K = d5N P g' as' H' K := by rw [h, h2, h']
theorem a0d.acall {P : Program} {f : FuncId} {args : List AV} {H : Heap} {r : AV} {R : AV → Heap → Prop} (h : a0d P f args r) (k : R r H) : a0m P f args H R :=
 (h H).mono fun r' H' ⟨h1, h2⟩ => by subst h1; subst h2; exact k
theorem a0d.dcall {P : Program} {f : FuncId} {args : List AV} {H : Heap} {r : AV} {K : AV → Prop} (h : a0d P f args r) (k : K r) : dcall P f args H K := ⟨r, fun L => h (H ++ L), k⟩
theorem a0d.dgcall {P : Program} {f : FuncId} {args : List AV} {H : Heap} {r : AV} {K : AV → Heap → Prop} (h : a0d P f args r) (k : K r H) : dgcall P f args H K := ⟨r, [], by simpa using h H, by simpa using k⟩
theorem c3u {a : AV} (h : Cl a) : clb a = true := c7G.2 h
theorem a0y {id : Nat} {a : AV} (h : Cl a) : nref id a = true := a0j.2 h.ref
theorem f0j (k : IntKind) (n : Int) : clb (.int k n) = true := c3u (.int k n)
theorem e6W (b : Bool) : clb (.bool b) = true := c3u (.bool b)
theorem f0h (s : ByteArray) : clb (.str s) = true := c3u (.str s)
theorem f0i : clb .nil = true := c3u .nil
theorem e5O (id : Nat) : nref id .top = true := a0y .top
theorem a3M (id : Nat) (k : IntKind) (n : Int) : nref id (.int k n) = true := a0y (.int k n)
theorem c5h (id : Nat) (b : Bool) : nref id (.bool b) = true := a0y (.bool b)
theorem e5P (id : Nat) (s : ByteArray) : nref id (.str s) = true := a0y (.str s)
theorem a4p (id : Nat) : nref id .nil = true := a0y .nil
theorem e5Q (id : Nat) (v : Value) : nref id (.lit v) = true := a0y (.lit v)
theorem c5f (id wd : Nat) (xs : List AV) : nref id (.sl wd xs) = true := a0j.2 (.sl wd xs)
theorem b4V (id off : Nat) (x : AV) : nref id (.ro x off) = true := a0j.2 (.ro x off)
theorem d1N (id : Nat) (cs : List AV) : nref id (.agg cs) = cs.all (nref id) := by
 rw [Bool.eq_iff_iff, a0j, List.all_eq_true]
 constructor
 ·intro h c hc; cases h with | agg _ h => exact a0j.2 (h c hc)
 ·intro h; exact .agg _ fun c hc => a0j.1 (h c hc)
theorem e5N (id : Nat) (cs : List AV) : nref id (.tup cs) = cs.all (nref id) := by
 rw [Bool.eq_iff_iff, a0j, List.all_eq_true]
 constructor
 ·intro h c hc; cases h with | tup _ h => exact a0j.2 (h c hc)
 ·intro h; exact .tup _ fun c hc => a0j.1 (h c hc)
theorem e9i (id : Nat) (f : FuncId) (cs : List AV) : nref id (.fn f cs) = cs.all (nref id) := by
 rw [Bool.eq_iff_iff, a0j, List.all_eq_true]
 constructor
 ·intro h c hc; cases h with | fn _ _ h => exact a0j.2 (h c hc)
 ·intro h; exact .fn _ _ fun c hc => a0j.1 (h c hc)
theorem c5g (H : Heap) (i j off len : Nat) (oc : Option Nat) : nref (lid H i) (.mu (lid H j) off len oc) = decide (j ≠ i) := by
 rw [Bool.eq_iff_iff, a0j, decide_eq_true_eq]
 constructor
 ·intro h; cases h with | mu _ _ _ _ h => intro e; exact h (by rw [e])
 ·intro h; exact .mu _ _ _ _ (by simp only [lid]; omega)
theorem d1M (H : Heap) (i j k off : Nat) : nref (lid H i) (.loc (lid H j) k off) = decide (j ≠ i) := by
 rw [Bool.eq_iff_iff, a0j, decide_eq_true_eq]
 constructor
 ·intro h; cases h with | loc _ _ _ h => intro e; exact h (by rw [e])
 ·intro h; exact .loc _ _ _ (by simp only [lid]; omega)
theorem e2u (id : Nat) : scrub id [] = [] := rfl
theorem d9W (id t : Nat) (a : AV) (env : Env) : scrub id ((t, a) :: env) = (t, if nref id a then a else .top) :: scrub id env := rfl
theorem e9F (id : Nat) (b : Blk) (k : IntKind) (n : Int) : frz id b (.int k n) = .int k n := by simp only [frz]
theorem e6B (id : Nat) (b : Blk) (c : Bool) : frz id b (.bool c) = .bool c := by simp only [frz]
theorem e9D (id : Nat) (b : Blk) (s : ByteArray) : frz id b (.str s) = .str s := by simp only [frz]
theorem b9Y (id : Nat) (b : Blk) : frz id b .nil = .nil := by simp only [frz]
theorem e9C (id : Nat) (b : Blk) : frz id b .top = .top := by simp only [frz]
theorem e9E (id : Nat) (b : Blk) (v : Value) : frz id b (.lit v) = .lit v := by simp only [frz]
theorem f1D (id : Nat) (b : Blk) (wd : Nat) (xs : List AV) : frz id b (.sl wd xs) = .sl wd xs := by simp only [frz]
theorem e7T (id : Nat) (b : Blk) (x : AV) (off : Nat) : frz id b (.ro x off) = .ro x off := by simp only [frz]
theorem e9G (id : Nat) (b : Blk) (cs : List AV) : frz id b (.agg cs) = .agg (cs.map (frz id b)) := by simp only [frz]
theorem e9B (id : Nat) (b : Blk) (cs : List AV) : frz id b (.tup cs) = .tup (cs.map (frz id b)) := by simp only [frz]
theorem f1E (id : Nat) (b : Blk) (f : FuncId) (cs : List AV) : frz id b (.fn f cs) = .fn f (cs.map (frz id b)) := by simp only [frz]
theorem c6Q (H : Heap) (i : Nat) (b : Blk) (len : Nat) (oc : Option Nat) (h : len = b.xs.length) : frz (lid H i) b (.mu (lid H i) 0 len oc) = .sl b.wd b.xs := by
 simp [frz, h]
theorem a1m (H : Heap) (i j : Nat) (b : Blk) (off len : Nat) (oc : Option Nat) (h : j ≠ i) : frz (lid H i) b (.mu (lid H j) off len oc) = .mu (lid H j) off len oc := by
 have : lid H j ≠ lid H i := by simp only [lid]; omega
 simp [frz, this]
theorem a0G (H : Heap) (i j : Nat) (b : Blk) (k off : Nat) (h : j ≠ i) : frz (lid H i) b (.loc (lid H j) k off) = .loc (lid H j) k off := by
 have : lid H j ≠ lid H i := by simp only [lid]; omega
 simp [frz, this]
theorem a0K (H : Heap) (i : Nat) (b : Blk) (k off : Nat) (h : k < b.xs.length) : frz (lid H i) b (.loc (lid H i) k off) = .ro (b.xs.getD k .top) off := by
 simp [frz, h]
section
variable (n0 : Nat) (env : Env) (H L : Heap)
def a2s (n : Nat) (p v : AV) (env : Env) (H : Heap) : Option (AV × Env × Heap) := match p with
 | .loc id i off => (hrow H id).bind fun b =>
    if i < b.xs.length ∧ v.fit = true ∧ v.cells.length = n ∧ off + n ≤ b.wd then some (.top, env, H.set id (some ⟨b.wd, b.xs.set i (upd (b.xs.getD i .top) b.wd off n v)⟩)) else none
 | _ => none
theorem e6J (n : Nat) (a v : Src) : ev n0 (.store n a v) env H = a2s n (a.ev env) (v.ev env) env H := by simp only [ev, a2s]; split <;> simp_all
theorem a7O (n i k off : Nat) (v : AV) {b : Blk} (hl : L[i]? = some (some b)) (hk : k < b.xs.length) (hf : v.fit = true) (hn : v.cells.length = n) (ho : off + n ≤ b.wd) :
  a2s n (.loc (lid H i) k off) v env (hap H L) = some (.top, env, hap H (L.set i (some ⟨b.wd, b.xs.set k (upd (b.xs.getD k .top) b.wd off n v)⟩))) := by
 simp only [a2s, a0I, hl, Option.join_some, Option.bind_some, a2P]
 rw [if_pos ⟨hk, hf, hn, ho⟩]
theorem f1N (n : Nat) (v : Src) : ev n0 (.box n v) env H = if (v.ev env).fit = true ∧ (v.ev env).cells.length = n ∧ 0 < n then some (.loc H.length 0 0, env, H ++ [some ⟨n, [v.ev env]⟩]) else none := rfl
theorem f1M (wd : Nat) (ps : List Src) : ev n0 (.bsl wd ps) env H = if 0 < wd ∧ ps.all (fun s => (s.ev env).fit && decide ((s.ev env).cells.length = wd) && (s.ev env).cells.all clb) then some (.sl wd (ps.map (·.ev env)), env, H) else none := rfl
theorem e9S (wd : Nat) (ps : List Src) : ev n0 (.bslm wd ps) env H = if 0 < wd ∧ ps.all (fun s => (s.ev env).fit && decide ((s.ev env).cells.length = wd)) then
   some (.mu H.length 0 ps.length (some ps.length), env, H ++ [some ⟨wd, ps.map (·.ev env)⟩]) else none := rfl
def c6b (wd bytes : Nat) (z l c : AV) (env : Env) (H : Heap) : Option (AV × Env × Heap) := match l, c with
  | .int _ l, .int _ c => if 0 < wd ∧ 0 ≤ l ∧ l ≤ c ∧ (bytes : Int) * c ≤ 281474976710656 ∧ c ≤ 9223372036854775807 then
    some (.mu H.length 0 l.toNat (some c.toNat), env, H ++ [some ⟨wd, List.replicate l.toNat z⟩]) else none
  | _, _ => none
theorem e9R (wd bytes : Nat) (z : AV) (l c : Src) : ev n0 (.mksl wd bytes z l c) env H = c6b wd bytes z (l.ev env) (c.ev env) env H := by simp only [ev, c6b]; split <;> simp_all
theorem b7J (wd bytes : Nat) (z : AV) (k k' : IntKind) (l c : Nat) (h0 : 0 < wd) (h1 : l ≤ c) (h2 : bytes * c ≤ 281474976710656) (h3 : c ≤ 9223372036854775807) :
  c6b wd bytes z (.int k l) (.int k' c) env (hap H L) = some (.mu (lid H L.length) 0 l (some c), env, hap H (L ++ [some ⟨wd, List.replicate l z⟩])) := by
 simp only [c6b, b9N, c0g, Int.toNat_natCast]
 rw [if_pos ⟨h0, by omega, by omega, by rw [← Int.natCast_mul]; omega, by omega⟩]
noncomputable def appV (n0 wd bytes : Nat) (str : Bool) (x y : AV) (env : Env) (H : Heap) : Option (AV × Env × Heap) := (a0Q H wd str y).bind fun ys =>
   match x with
   | .nil => if 0 < wd ∧ ys.length * bytes ≤ 140737488355328 ∧ ys.length ≤ 9223372036854775807 then some (.mu H.length 0 ys.length none, env, H ++ [some ⟨wd, ys⟩]) else none
   | .mu id off len oc => (hrow H id).bind fun r =>
     if r.wd = wd ∧ off = 0 ∧ len ≤ r.xs.length ∧ n0 ≤ id ∧ 0 < ys.length ∧ (oc.any fun c => decide (len + ys.length ≤ c)) = true then
      some (.mu id 0 (len + ys.length) oc, env, H.set id (some ⟨wd, r.xs.take len ++ ys⟩)) else
     if r.wd = wd ∧ off = 0 ∧ len ≤ r.xs.length ∧ n0 ≤ id ∧ free H id = true ∧ (ys.flatMap AV.cells).all (nref id) = true ∧ (r.xs.flatMap AV.cells).all (nref id) = true ∧
       (len + ys.length) * bytes ≤ 140737488355328 ∧ len + ys.length ≤ 9223372036854775807 then
      some (.mu id 0 (len + ys.length) (a1c oc (len + ys.length)), scrub id env, H.set id (some ⟨wd, r.xs.take len ++ ys⟩)) else
     if r.wd = wd ∧ off + len ≤ r.xs.length ∧ 0 < ys.length ∧ (oc.any fun c => decide (c < len + ys.length)) = true ∧ (len + ys.length) * bytes ≤ 140737488355328 ∧ len + ys.length ≤ 9223372036854775807 then
      some (.mu H.length 0 (len + ys.length) none, env, H ++ [some ⟨wd, (r.xs.drop off).take len ++ ys⟩]) else
     if r.wd = wd ∧ off = 0 ∧ len ≤ r.xs.length ∧ n0 ≤ id ∧ (ys.flatMap AV.cells).all (nref id) = true ∧ r.xs.all (nref id) = true ∧ (len + ys.length) * bytes ≤ 140737488355328 ∧ len + ys.length ≤ 9223372036854775807 then
      some (.mu id 0 (len + ys.length) (a1c oc (len + ys.length)), scrub id env, (a1C id H).set id (some ⟨wd, r.xs.take len ++ ys⟩)) else none
   | _ => none
theorem e7X (wd bytes : Nat) (str : Bool) (a b : Src) : ev n0 (.app wd bytes str a b) env H = appV n0 wd bytes str (a.ev env) (b.ev env) env H := by
 simp only [ev, appV]; cases a0Q H wd str (b.ev env) <;> simp only [Option.bind_none, Option.bind_some]; split <;> simp_all
theorem a9I (wd bytes : Nat) (str : Bool) (y : AV) (ys : List AV) (hy : a0Q (hap H L) wd str y = some ys) (h0 : 0 < wd) (h1 : ys.length * bytes ≤ 140737488355328) (h2 : ys.length ≤ 9223372036854775807) :
  appV n0 wd bytes str .nil y env (hap H L) = some (.mu (lid H L.length) 0 ys.length none, env, hap H (L ++ [some ⟨wd, ys⟩])) := by
 simp only [appV, hy, Option.bind_some, b9N, c0g]
 rw [if_pos ⟨h0, h1, h2⟩]
def e5b (H : Heap) (L : Heap) (i : Nat) : Prop := ∀ (j : Nat) b, L[j]? = some (some b) → ∀ a ∈ b.flat, Ref (· ≠ lid H i) a
theorem c4d {H L : Heap} {i : Nat} (h : ∀ b, some b ∈ L → ∀ a ∈ b.flat, Cl a) : e5b H L i := fun j b hb a ha => (h b (List.mem_of_getElem? hb) a ha).ref
theorem d2i {H L : Heap} {i : Nat} (hH : a0C H) (h : e5b H L i) : free (hap H L) (lid H i) = true := by
 rw [c3V]
 intro j bj hj hb a ha
 rcases Nat.lt_or_ge j H.length with hlt | hge
 ·simp only [hap] at hb
  rw [List.getElem?_append_left hlt] at hb
  exact (hH j bj hb a ha).mono fun k hk => by show k ≠ lid H i; simp only [lid]; omega
 ·simp only [hap] at hb
  rw [List.getElem?_append_right hge] at hb
  exact h _ bj hb a ha
theorem c4f (wd bytes : Nat) (str : Bool) (i len : Nat) (oc : Option Nat) (y : AV) (xs ys : List AV) (hH : a0C H) (hl : L[i]? = some (some ⟨wd, xs⟩)) (hlen : len = xs.length) (hn : n0 ≤ lid H i) (hy : a0Q (hap H L) wd str y = some ys) (ha : e5b H L i)
  (hys : ∀ a ∈ ys.flatMap AV.cells, Ref (· ≠ lid H i) a) (h1 : (len + ys.length) * bytes ≤ 140737488355328) (h2 : len + ys.length ≤ 9223372036854775807) (hoc : (oc.any fun c => decide (len + ys.length ≤ c)) = false) :
  appV n0 wd bytes str (.mu (lid H i) 0 len oc) y env (hap H L) = some (.mu (lid H i) 0 (len + ys.length) (a1c oc (len + ys.length)), scrub (lid H i) env, hap H (L.set i (some ⟨wd, xs ++ ys⟩))) := by
 subst hlen
 simp only [appV, hy, Option.bind_some, a0I, hl, Option.join_some, a2P]
 rw [if_neg (fun h => by rw [hoc] at h; exact absurd h.2.2.2.2.2 (by decide)), if_pos]
 ·simp
 ·refine ⟨trivial, trivial, Nat.le_refl _, hn, d2i hH ha, ?_, ?_, h1, h2⟩
  ·rw [List.all_eq_true]; intro a h; exact a0j.2 (hys a h)
  ·rw [List.all_eq_true]; intro a h; exact a0j.2 (ha i _ hl a h)
theorem e4K (wd bytes : Nat) (str : Bool) (i len c : Nat) (y : AV) (xs ys : List AV) (hl : L[i]? = some (some ⟨wd, xs⟩)) (hlen : len = xs.length) (hn : n0 ≤ lid H i) (hy : a0Q (hap H L) wd str y = some ys) (h0 : 0 < ys.length) (hc : len + ys.length ≤ c) :
  appV n0 wd bytes str (.mu (lid H i) 0 len (some c)) y env (hap H L) = some (.mu (lid H i) 0 (len + ys.length) (some c), env, hap H (L.set i (some ⟨wd, xs ++ ys⟩))) := by
 subst hlen
 simp only [appV, hy, Option.bind_some, a0I, hl, Option.join_some, a2P]
 rw [if_pos]
 ·simp
 ·exact ⟨trivial, trivial, Nat.le_refl _, hn, h0, by simpa using hc⟩
theorem a1f (wd : Nat) (xs : List AV) : a0Q H wd false (.sl wd xs) = some xs := by simp [a0Q]
theorem e2e (wd i off len : Nat) (oc : Option Nat) (xs : List AV) (hl : L[i]? = some (some ⟨wd, xs⟩)) (h : off + len ≤ xs.length) : a0Q (hap H L) wd false (.mu (lid H i) off len oc) = some ((xs.drop off).take len) := by
 simp [a0Q, a0I, hl, h]
end
theorem e9N (k : IntKind) (n : Int) : (AV.int k n).fit = true := rfl
theorem e6H (b : Bool) : (AV.bool b).fit = true := rfl
theorem e9K (s : ByteArray) : (AV.str s).fit = true := rfl
theorem e9O (cs : List AV) : (AV.agg cs).fit = true := rfl
theorem f1F (wd : Nat) (xs : List AV) : (AV.sl wd xs).fit = true := rfl
theorem e9L : AV.nil.fit = true := rfl
theorem f1H (id off len : Nat) (oc : Option Nat) : (AV.mu id off len oc).fit = true := rfl
theorem e9M (id i off : Nat) : (AV.loc id i off).fit = true := rfl
theorem f1I (f : FuncId) (cs : List AV) : (AV.fn f cs).fit = true := rfl
theorem f1G (x : AV) (off : Nat) : (AV.ro x off).fit = true := rfl
theorem a3B (x : AV) (wd : Nat) (v : AV) : upd x wd 0 wd v = v := by simp [upd]
theorem e5w (env : Env) (H : Heap) : resL env H [] = some [] := rfl
theorem e5v (env : Env) (H : Heap) (t : Nat) (r : List ResV) : resL env H (.tmp t :: r) = (resL env H r).map (look env t :: ·) := rfl
theorem e2A (env : Env) (H : Heap) (t : Nat) (n : Option Nat) (r : List ResV) : resL env H (.cell t n :: r) = (a7p H n (look env t)).bind fun a => (resL env H r).map (a :: ·) := rfl
theorem e2M (a : AV) : b9m [a] = a := rfl
theorem e2L (a b : AV) (r : List AV) : b9m (a :: b :: r) = .tup (a :: b :: r) := rfl
theorem e2N : b9m [] = .tup [] := rfl
def gret (o : Option (List AV)) (k : AV → Prop) : Prop := match o with
 | some aXs => k (b9m aXs)
 | none => False
theorem e3L (aXs : List AV) (k : AV → Prop) : gret (some aXs) k = k (b9m aXs) := rfl
@[congr] theorem f0I {x y : Option (List AV)} {k : AV → Prop} (h : x = y) : gret x k = gret y k := by rw [h]
theorem Safe.retn {x : Cx} {todo : List AItem} {env : Env} {H : Heap} {R : AV → Heap → Prop} (h : gret (resL env H x.rs) fun r => R r H) : Safe x (.code .ret :: todo) env H R := by
 unfold gret at h
 split at h
 ·rename_i aXs ha; exact Safe.ret ha h
 ·exact h.elim
theorem d2Y : (0 < 1) = True := by decide
def EV := And.intro (And.intro (And.intro (@d7P) (@d5p)) (And.intro (@f0x) (@f0c))) <| And.intro (And.intro (And.intro (And.intro (And.intro (And.intro (And.intro (@e7u) (@e4M)) (And.intro (@e4L) (And.intro (@f0u) (@f0v)))) (And.intro (And.intro (@e1F) (@d8l)) (And.intro (@e4z) (And.intro (@e6O) (@e4b))))) (And.intro (And.intro (And.intro (@e4a) (@e9Z)) (And.intro (@f0a) (And.intro (@e1v) (@d8d)))) (And.intro (And.intro (@e4i) (@e0n)) (And.intro (@e0o) (And.intro (@e1t) (@e1u)))))) (And.intro (And.intro (And.intro (And.intro (@e1m) (@f2h)) (And.intro (@f2i) (And.intro (@e3m) (@e6e)))) (And.intro (And.intro (@e5D) (@e5E)) (And.intro (@e3W) (And.intro (@e1q) (@f2l))))) (And.intro (And.intro (And.intro (@e8S) (@e0l)) (And.intro (@d4E) (And.intro (@e5I) (@f1g)))) (And.intro (And.intro (@e8V) (@e6h)) (And.intro (@f1j) (And.intro (@f1k) (@f1U))))))) (And.intro (And.intro (And.intro (And.intro (And.intro (@f1T) (@f2k)) (And.intro (@e8s) (And.intro (@e8r) (@e8Z)))) (And.intro (And.intro (@e4m) (@f1h)) (And.intro (@e6I) (And.intro (@e8Y) (@e9H))))) (And.intro (And.intro (And.intro (@e6E) (@e8X)) (And.intro (@e8W) (And.intro (@e6r) (@e8U)))) (And.intro (And.intro (@f1e) (@e8R)) (And.intro (@f1i) (And.intro (@e8T) (@f1f)))))) (And.intro (And.intro (And.intro (And.intro (@d8P) (@f1l)) (And.intro (@e7q) (And.intro (@d7F) (@e6g)))) (And.intro (And.intro (@c6C) (@e7h)) (And.intro (@e7g) (And.intro (@d9o) (@e7f))))) (And.intro (And.intro (And.intro (@e7j) (@f0r)) (And.intro (@e7p) (And.intro (@e7e) (@e7o)))) (And.intro (And.intro (@e7i) (And.intro (@e7k) (@e7l))) (And.intro (@e7m) (And.intro (@e7n) (@e4F)))))))) (And.intro (And.intro (And.intro (And.intro (And.intro (And.intro (@e4E) (@e3o)) (And.intro (@f1X) (And.intro (@b2u) (@e4y)))) (And.intro (And.intro (@e4x) (@e1C)) (And.intro (@e4u) (And.intro (@e4v) (@e4w))))) (And.intro (And.intro (And.intro (@e6X) (@d9j)) (And.intro (@d5Q) (And.intro (@e6Y) (@a0I)))) (And.intro (And.intro (@b9N) (@a2P)) (And.intro (@c0g) (And.intro (@e3s) (@e1E)))))) (And.intro (And.intro (And.intro (And.intro (@join_some) (@e6j)) (And.intro (@e3y) (And.intro (@e6J) (@f1N)))) (And.intro (And.intro (@f1M) (@e9S)) (And.intro (@e9R) (And.intro (@e7X) (@e9N))))) (And.intro (And.intro (And.intro (@e6H) (@e9K)) (And.intro (@e9O) (And.intro (@f1F) (@e9L)))) (And.intro (And.intro (@f1H) (@e9M)) (And.intro (@f1I) (And.intro (@f1G) (@f0j))))))) (And.intro (And.intro (And.intro (And.intro (And.intro (@e6W) (@f0h)) (And.intro (@f0i) (And.intro (@e5O) (@a3M)))) (And.intro (And.intro (@c5h) (@e5P)) (And.intro (@a4p) (And.intro (@e5Q) (@c5f))))) (And.intro (And.intro (And.intro (@b4V) (@d1N)) (And.intro (@e5N) (And.intro (@e9i) (@c5g)))) (And.intro (And.intro (@d1M) (@e2u)) (And.intro (@d9W) (And.intro (@e9F) (@e6B)))))) (And.intro (And.intro (And.intro (And.intro (@e9D) (@b9Y)) (And.intro (@e9C) (And.intro (@e9E) (@f1D)))) (And.intro (And.intro (@e7T) (@e9G)) (And.intro (@e9B) (And.intro (@f1E) (@e6D))))) (And.intro (And.intro (And.intro (@e3P) (@d9b)) (And.intro (@d5z) (And.intro (@e3O) (@a3B)))) (And.intro (And.intro (@e5w) (And.intro (@e5v) (@e2A))) (And.intro (@e2M) (And.intro (@e2L) (And.intro @e2N (And.intro @e3L @d2Y)))))))))
def EVC := And.intro (And.intro (And.intro (And.intro (And.intro (@List.map_cons.{0,0}) (@List.map_nil.{0,0})) (And.intro (@List.length_cons.{0}) (And.intro (@List.length_nil.{0}) (@List.cons_append.{0})))) (And.intro (And.intro (@List.nil_append.{0}) (@List.all_cons.{0})) (And.intro (@List.all_nil.{0}) (And.intro (@Option.map_some.{0,0}) (@Option.map_none.{0,0}))))) (And.intro (And.intro (And.intro (@Option.bind_some.{0,0}) (@Option.bind_none.{0,0})) (And.intro (@Option.isSome_some.{0}) (And.intro (@List.getElem?_cons_zero.{0}) (@List.getElem?_cons_succ.{0})))) (And.intro (And.intro (@List.set_cons_zero.{0}) (@List.set_cons_succ.{0})) (And.intro (@Option.join_some.{0}) (And.intro (@List.getD_cons_zero.{0}) (@List.drop_zero.{0})))))) (And.intro (And.intro (And.intro (And.intro (And.intro (@if_true.{0}) (@if_true.{1})) (And.intro (@if_false.{0}) (@if_false.{1}))) (And.intro (@Bool.false_eq_true) (And.intro (@Bool.true_and) (@Bool.and_true)))) (And.intro (And.intro (@Bool.not_true) (@Bool.not_false)) (And.intro (@decide_true) (And.intro (@decide_false) (@Bool.and_self))))) (And.intro (And.intro (And.intro (@ne_eq.{1}) (@not_true_eq_false)) (And.intro (@not_false_eq_true) (And.intro (@and_self) (@and_true)))) (And.intro (And.intro (@true_and) (@Nat.zero_add)) (And.intro (@Nat.add_zero) (And.intro (@Option.some.injEq.{0}) (@Nat.lt_add_one))))))
end Go.Abs
namespace Go.Abs
def Le (a b : AV) : Prop := ∀ E v, Rep E v a → Rep E v b
theorem Le.refl (a : AV) : Le a a := fun _ _ h => h
theorem Le.trans {a b c : AV} (h : Le a b) (k : Le b c) : Le a c := fun E v r => k E v (h E v r)
theorem Le.nil (wd : Nat) (h : 0 < wd) : Le .nil (.sl wd []) := fun E v r => b9h wd h r
theorem Le.top (a : AV) : Le a .top := fun E v r => .top v
theorem Le.agg {aXs bs : List AV} (hl : aXs.length = bs.length) (h : ∀ (k : Nat) a b, aXs[k]? = some a → bs[k]? = some b → Le a b) : Le (.agg aXs) (.agg bs) := by
 intro E v r
 cases r with
 | agg vs _ hlen h1 hrep =>
  refine .agg vs bs (by omega) h1 fun k v b hv hb => ?_
  have hk := a0h hb
  exact h k _ b (List.getElem?_eq_getElem (by omega)) hb E v (hrep k v _ hv (List.getElem?_eq_getElem (by omega)))
 | dead v a id hr hd h1 => simp [AV.ref] at hr
theorem Le.tup {aXs bs : List AV} (hl : aXs.length = bs.length) (h : ∀ (k : Nat) a b, aXs[k]? = some a → bs[k]? = some b → Le a b) : Le (.tup aXs) (.tup bs) := by
 intro E v r
 cases r with
 | tup vs _ hlen hrep =>
  refine .tup vs bs (by omega) fun k v b hv hb => ?_
  have hk := a0h hb
  exact h k _ b (List.getElem?_eq_getElem (by omega)) hb E v (hrep k v _ hv (List.getElem?_eq_getElem (by omega)))
 | dead v a id hr hd h1 => simp [AV.ref] at hr
theorem Le.agg2 {a b c d : AV} (h : Le a c) (k : Le b d) : Le (.agg [a, b]) (.agg [c, d]) := Le.agg rfl fun i x y hx hy => by
 match i with
 | 0 => cases hx; cases hy; exact h
 | 1 => cases hx; cases hy; exact k
theorem Le.tup2 {a b c d : AV} (h : Le a c) (k : Le b d) : Le (.tup [a, b]) (.tup [c, d]) := Le.tup rfl fun i x y hx hy => by
 match i with
 | 0 => cases hx; cases hy; exact h
 | 1 => cases hx; cases hy; exact k
theorem Le.tup3 {a b e c d f : AV} (h : Le a c) (k : Le b d) (l : Le e f) : Le (.tup [a, b, e]) (.tup [c, d, f]) := Le.tup rfl fun i x y hx hy => by
 match i with
 | 0 => cases hx; cases hy; exact h
 | 1 => cases hx; cases hy; exact k
 | 2 => cases hx; cases hy; exact l
theorem a0m.cutL {P : Program} {f : FuncId} {args : List AV} {H : Heap} {r : AV} (hr : Ref (· < H.length) r) (h : a0m P f args H fun r' H' => Le r' r ∧ ∃ L, H' = hap H L) : a0m P f args H fun r' H' => r' = r ∧ H' = H := by
 refine ⟨h.1, fun φ w vs hok hl hrep => (h.2 φ w vs hok hl hrep).mono ?_⟩
 rintro e w' ⟨v, r', φ', H', rfl, ⟨hle, L, rfl⟩, q1, q2, q3, q4⟩
 have hfree : ∀ (j : Nat) bj, j < H.length → (hap H L)[j]? = some (some bj) → ∀ a ∈ bj.flat, Ref (· < H.length) a := by
  intro j bj hj hb
  simp only [hap] at hb
  rw [List.getElem?_append_left hj] at hb
  exact hok.refs hb
 have hcut := HOk.cut q1 H.length hfree
 have ht : (hap H L).take H.length = H := by simp [hap]
 simp only [ht] at hcut
 exact ⟨v, r, φ', H, rfl, ⟨rfl, rfl⟩, hcut.1, (hle _ _ q2).mono hcut.2 hr, Nat.le_refl _, q4.trans hcut.2⟩
theorem a0d.introL {P : Program} {mu : Nat → Nat → Bool} {f : FuncId} {fn : Func} (hf : P.funcs[f]? = some fn) {ac : ACode} {rs : List ResV} {nt : Nat} (hc : fchk P mu fn = some (ac, rs, nt))
  {args : List AV} {r : AV} (ha : args.length ≤ nt) (hr : Cl r) (h : ∀ H, a0C H → Safe ⟨P, mu, f, nt, rs, H.length⟩ [.code ac] (b8k 0 args) (hap H []) fun r' H' => Le r' r ∧ ∃ L, H' = hap H L) : a0d P f args r := by
 intro H
 refine a0m.cutL hr.ref (a0m.intro hf hc ha fun hH => ?_)
 have := h H hH
 rw [a1T] at this
 exact this
theorem Safe.toldRow (i : Nat) {x : Cx} {todo : List AItem} {env : Env} {H L : Heap} {R : AV → Heap → Prop} {b b' : Blk} (hl : L[i]? = some (some b)) (hw : b'.wd = b.wd) (hx : ∀ y ∈ b'.xs, y.cells.length = b.wd) (hlen : b'.flat.length = b.flat.length) (hemp : b.xs = [] → b'.xs = [])
  (hle : ∀ (k : Nat) a c, b.flat[k]? = some a → b'.flat[k]? = some c → Le a c) (h : Safe x todo env (hap H (L.set i (some b'))) R) (hpos : 0 < b.wd := by exact Nat.zero_lt_succ _) : Safe x todo env (hap H L) R := by
 intro φ w tmps bf k cs hg hn hb hk htd hsz hok he
 have hl' : (hap H L)[lid H i]? = some (some b) := by
  unfold hap lid
  rw [List.getElem?_append_right (by omega), Nat.add_sub_cancel_left]; exact hl
 have hget : ∀ (j : Nat), (hap H (L.set i (some b')))[j]? = if lid H i = j then some (some b') else (hap H L)[j]? := by
  intro j
  rw [← a2P]
  exact a6S _ _ _ (a0o hl') j
 have hx2 : ∀ w : World, Ext All ⟨φ, hap H L, w⟩ ⟨φ, hap H (L.set i (some b')), w⟩ := by
  intro w
  refine ⟨rfl, rfl, rfl, Nat.le_refl _, by simp [hap], fun _ _ _ => rfl, ?_, fun _ _ _ _ _ _ _ => rfl, ?_, fun _ _ _ => rfl⟩
  ·intro j blk' _ _ hb'
   rw [hget] at hb'
   split at hb'
   ·rename_i hj; subst hj; simp at hb'; subst hb'; exact ⟨b, hl', hw.symm⟩
   ·exact ⟨blk', hb', rfl⟩
  ·rintro b0 _ ⟨j, blk', hb', hp⟩
   simp only [hget] at hb'
   split at hb'
   ·rename_i hj; subst hj; exact ⟨_, b, hl', hp⟩
   ·exact ⟨j, blk', hb', hp⟩
 have live : ∀ (j : Nat) blk', (hap H (L.set i (some b')))[j]? = some (some blk') → (j = lid H i ∧ blk' = b') ∨ (j ≠ lid H i ∧ (hap H L)[j]? = some (some blk')) := by
  intro j blk' hb'
  rw [hget] at hb'
  split at hb'
  ·rename_i hj; simp at hb'; exact .inl ⟨hj.symm, hb'.symm⟩
  ·rename_i hj; exact .inr ⟨fun e => hj e.symm, hb'⟩
 have hok' : HOk ⟨φ, hap H (L.set i (some b')), w⟩ := by
  refine ⟨fun j x bl h h0 hp => ?_, fun j x h => ?_, fun j x bl h hp => ?_, fun j x h hp => ?_, fun j1 j2 x y bl h1 h2 p1 p2 => ?_⟩
  ·rcases live j x h with ⟨rfl, rfl⟩ | ⟨_, h'⟩
   ·omega
   ·rcases hok.obj j x bl h' h0 hp with ⟨L, q1, q2⟩ | ⟨mid, n, seen, m, q1, q2, q3, q4⟩
    ·exact .inl ⟨L, q1, q2⟩
    ·refine .inr ⟨mid, n, seen, m, q1, q2, q3, fun blk hb => ?_⟩
     rcases live mid blk hb with ⟨rfl, rfl⟩ | ⟨_, hb'⟩
     ·exact absurd (q4 b hl').1 (by omega)
     ·exact q4 blk hb'
  ·rcases live j x h with ⟨rfl, rfl⟩ | ⟨_, h'⟩
   ·rw [hw]; exact hx
   ·exact hok.wids j x h'
  ·have mv : ∀ {v a}, Rep ⟨φ, hap H L, w⟩ v a → Rep ⟨φ, hap H (L.set i (some b')), w⟩ v a := fun r => r.mono (hx2 w) (r.ref.mono fun _ _ => trivial)
   rcases live j x h with ⟨rfl, rfl⟩ | ⟨_, h'⟩
   ·obtain ⟨c, e, r⟩ := hok.row _ b bl hl' hp
    refine ⟨c, e, fun h0 => r.heap hpos, by rw [hlen]; exact r.fits, fun k v hk hv => r.one k v (by rw [← hlen]; exact hk) hv, fun k v a hv ha => ?_⟩
    have hk := a0h ha
    have ha' : b.flat[k]? = some (b.flat[k]'(by omega)) := List.getElem?_eq_getElem (by omega)
    exact mv (hle k _ a ha' ha _ _ (r.rep k v _ hv ha'))
   ·obtain ⟨c, e, r⟩ := hok.row j x bl h' hp
    exact ⟨c, e, r.heap, r.fits, r.one, fun k v a hv ha => mv (r.rep k v a hv ha)⟩
  ·rcases live j x h with ⟨rfl, rfl⟩ | ⟨_, h'⟩
   ·exact hemp (hok.emp _ b hl' hp)
   ·exact hok.emp j x h' hp
  ·have g1 : ∃ z, (hap H L)[j1]? = some (some z) := by rcases live j1 x h1 with ⟨rfl, _⟩ | ⟨_, h'⟩; exact ⟨b, hl'⟩; exact ⟨x, h'⟩
   have g2 : ∃ z, (hap H L)[j2]? = some (some z) := by rcases live j2 y h2 with ⟨rfl, _⟩ | ⟨_, h'⟩; exact ⟨b, hl'⟩; exact ⟨y, h'⟩
   obtain ⟨_, g1⟩ := g1
   obtain ⟨_, g2⟩ := g2
   exact hok.inj j1 j2 _ _ bl g1 g2 p1 p2
 obtain ⟨v, w', fr, r, φ', H', q1, q2, q3, q4, q5, q6⟩ := h φ w tmps bf k cs hg (by simpa [hap] using hn) hb hk htd hsz hok' (fun t => (he t).mono (hx2 w) ((he t).ref.mono fun _ _ => trivial))
 exact ⟨v, w', fr, r, φ', H', q1, q2, q3, q4, ((hx2 w).sub fun _ _ => trivial).trans q5, q6⟩
theorem e8B (n i off : Nat) (v : AV) (env : Env) (H L : Heap) : a2s n (.loc (lid H i) 0 off) v env (hap H L) = (L[i]?).join.bind fun b =>
  if 0 < b.xs.length ∧ v.fit = true ∧ v.cells.length = n ∧ off + n ≤ b.wd then some (.top, env, hap H (L.set i (some ⟨b.wd, b.xs.set 0 (upd (b.xs.getD 0 .top) b.wd off n v)⟩))) else none := by
 simp only [a2s, a0I, a2P]
theorem e7d (env : Env) (cs : List AV) : bldV env cs [] = some cs := rfl
theorem e4C (env : Env) (cs : List AV) (off n : Nat) (s : Src) (r : List (Nat × Nat × Src)) :
  bldV env cs ((off, n, s) :: r) = if (s.ev env).cells.length = n ∧ off + n ≤ cs.length ∧ (s.ev env).fit = true then bldV env (a2i cs off (s.ev env).cells) r else none := rfl
theorem e2f (cs : List AV) (off : Nat) (aXs : List AV) : a2i cs off aXs = cs.take off ++ aXs ++ cs.drop (off + aXs.length) := rfl
def EV2 := And.intro (And.intro @e8B (And.intro @e7d (And.intro @e4C @e2f))) (And.intro (And.intro (And.intro (@List.drop_succ_cons.{0}) (@List.take_succ_cons.{0})) (And.intro (@List.take_zero.{0}) (@List.take_nil.{0}))) (And.intro (And.intro (@List.drop_nil.{0}) (@List.append_nil.{0})) (And.intro (@Nat.le_refl) (@Nat.lt_irrefl))))
end Go.Abs
namespace Go.Abs
section
variable {x : Cx} {l : ACode} {todo : List AItem} {R : AV → Heap → Prop}
def stl : Nat → List AItem → List AItem
 | 0, k => k
 | n + 1, .code (.seq a b) :: k => stl n (.code a :: .code b :: k)
 | n + 1, .code .skip :: k => stl n k
 | n + 1, .code (.block id a) :: k => stl n (.code a :: .inBlock id :: k)
 | n + 1, .inBlock _ :: k => stl n k
 | n + 1, .code (.scope a) :: k => stl n (.code a :: .inScope a :: k)
 | n + 1, .inScope _ :: k => stl n k
 | n + 1, .code (.exit id) :: k => match c8H id k with
  | some k' => stl n k'
  | none => .code (.exit id) :: k
 | n + 1, .code (.label _) :: k => stl n k
 | n + 1, .code (.goto l) :: k => match c8F l k with
  | some k' => stl n k'
  | none => .code (.goto l) :: k
 | _, k => k
theorem Safe.stl {env : Env} {H : Heap} : ∀ (n : Nat) (k : List AItem), Safe x (stl n k) env H R → Safe x k env H R := by
 intro n
 induction n with
 | zero => intro k h; cases k <;> exact h
 | succ n ih =>
  intro k h
  unfold Abs.stl at h
  split at h
  ·rename_i h0; cases h0
  ·rename_i h0; cases h0; exact Safe.seq (ih _ h)
  ·rename_i h0; cases h0; exact Safe.skip (ih _ h)
  ·rename_i h0; cases h0; exact Safe.block (ih _ h)
  ·rename_i h0; cases h0; exact Safe.inBlock (ih _ h)
  ·rename_i h0; cases h0; exact Safe.scope (ih _ h)
  ·rename_i h0; cases h0; exact Safe.inScope (ih _ h)
  ·rename_i h0; cases h0
   split at h
   ·rename_i he; exact Safe.exit he (ih _ h)
   ·exact h
  ·rename_i h0; cases h0; exact Safe.label (ih _ h)
  ·rename_i h0; cases h0
   split at h
   ·rename_i he; exact Safe.goto he (ih _ h)
   ·exact h
  ·exact h
theorem Safe.rg {env : Env} {H : Heap} {k k' : List AItem} {b : Bool} {l : List AIns} (e : Abs.stl 40 k = .code (.region l b) :: k')
  (h : if b = true then dops x.P x.n0 l (fun env' H' => Safe x k' env' H' R) env H else aops x.P x.n0 l (fun env' H' => Safe x k' env' H' R) env H) : Safe x k env H R := by
 refine Safe.stl 40 k ?_
 rw [e]
 cases b
 ·exact Safe.region h
 ·exact Safe.regionD h
theorem Safe.rx {env : Env} {H : Heap} {k k' : List AItem} {p s1 s2 : List AIns} {sd : List (Nat × Nat)} (e : Abs.stl 40 k = .code (.regionX p s1 s2 sd) :: k') (hs : sdOk sd env)
  (h : dops x.P x.n0 p (fun env' H' => dops x.P x.n0 s1 (fun env' H' => Safe x k' env' H' R) env' H' ∧ dops x.P x.n0 s2 (fun env' H' => Safe x k' env' H' R) env' H') env H) : Safe x k env H R := by
 refine Safe.stl 40 k ?_
 rw [e]
 exact Safe.regionX hs h
theorem Safe.cd {env : Env} {H : Heap} {k k' : List AItem} {s : Src} {a b : ACode} (e : Abs.stl 40 k = .code (.cond s a b) :: k')
  (h : e1n (s.ev env) fun c => if c then Safe x (.code a :: k') env H R else Safe x (.code b :: k') env H R) : Safe x k env H R := by
 refine Safe.stl 40 k ?_
 rw [e]
 exact Safe.cond h
theorem Safe.lp {env : Env} {H : Heap} {k k' : List AItem} {a : ACode} (e : Abs.stl 40 k = .code (.loop a) :: k') (h : Safe x (.inLoop a :: k') env H R) : Safe x k env H R := by
 refine Safe.stl 40 k ?_
 rw [e]
 exact Safe.loop h
theorem Safe.rt {env : Env} {H : Heap} {k k' : List AItem} (e : Abs.stl 40 k = .code .ret :: k') (h : gret (resL env H x.rs) fun r => R r H) : Safe x k env H R := by
 refine Safe.stl 40 k ?_
 rw [e]
 exact Safe.retn h
theorem Safe.loopP (n : Nat) (E : Nat → Env) (G : Nat → Heap) (P : Nat → Prop) {env : Env} {H : Heap} (he : env = E 0) (hG : H = G 0) (h0 : P 0)
  (step : ∀ i, i < n → P i → (P (i + 1) → Safe x (.inLoop l :: todo) (E (i + 1)) (G (i + 1)) R) → Safe x (.inLoop l :: todo) (E i) (G i) R)
  (last : P n → Safe x (.inLoop l :: todo) (E n) (G n) R) : Safe x (.inLoop l :: todo) env H R := by
 subst he; subst hG
 have key : ∀ k i, i + k = n → P i → Safe x (.inLoop l :: todo) (E i) (G i) R := by
  intro k
  induction k with
  | zero => intro i hi hp; rw [show i = n by omega] at hp ⊢; exact last hp
  | succ k ih => intro i hi hp; exact step i (by omega) hp fun hp' => ih (i + 1) (by omega) hp'
 exact key n 0 (by omega) h0
theorem Safe.loopN (n : Nat) (E : Nat → Env) (G : Nat → Heap) {env : Env} {H : Heap} (he : env = E 0) (hG : H = G 0)
  (step : ∀ i, i < n → Safe x (.inLoop l :: todo) (E (i + 1)) (G (i + 1)) R → Safe x (.inLoop l :: todo) (E i) (G i) R)
  (last : Safe x (.inLoop l :: todo) (E n) (G n) R) : Safe x (.inLoop l :: todo) env H R :=
 Safe.loopP n E G (fun _ => True) he hG trivial (fun i hi _ ih => step i hi (ih trivial)) fun _ => last
theorem Safe.loopD (n : Nat) (E : Nat → Env) (G : Nat → Heap) {env : Env} {H : Heap} (he : env = E n) (hG : H = G n)
  (step : ∀ i, i < n → Safe x (.inLoop l :: todo) (E i) (G i) R → Safe x (.inLoop l :: todo) (E (i + 1)) (G (i + 1)) R)
  (last : Safe x (.inLoop l :: todo) (E 0) (G 0) R) : Safe x (.inLoop l :: todo) env H R := by
 subst he; subst hG
 have key : ∀ i, i ≤ n → Safe x (.inLoop l :: todo) (E i) (G i) R := by
  intro i
  induction i with
  | zero => intro _; exact last
  | succ i ih => intro hi; exact step i (by omega) (ih (by omega))
 exact key n (Nat.le_refl _)
theorem Safe.loopW {α : Type} (μ : α → Nat) (E : α → Env) (G : α → Heap) (P : α → Prop) (a0 : α) {env : Env} {H : Heap} (he : env = E a0) (hG : H = G a0) (h0 : P a0)
  (step : ∀ a, P a → (∀ b, P b → μ b < μ a → Safe x (.inLoop l :: todo) (E b) (G b) R) → Safe x (.inLoop l :: todo) (E a) (G a) R) : Safe x (.inLoop l :: todo) env H R := by
 subst he; subst hG
 have key : ∀ k a, μ a ≤ k → P a → Safe x (.inLoop l :: todo) (E a) (G a) R := by
  intro k
  induction k with
  | zero => intro a ha hp; exact step a hp fun b hb hlt => absurd hlt (by omega)
  | succ k ih => intro a ha hp; exact step a hp fun b hb hlt => ih b (by omega) hb
 exact key (μ a0) a0 (Nat.le_refl _) h0
theorem a2e {α β : Type} (f : α → β) (l : List α) {i : Nat} (h : i < l.length) : (l.take (i + 1)).map f = (l.take i).map f ++ [f l[i]] := by
 rw [List.take_succ_eq_append_getElem h, List.map_append]; rfl
theorem a5C {α : Type} (l : List α) {i : Nat} (h : i < l.length) : l.take (i + 1) = l.take i ++ [l[i]] := List.take_succ_eq_append_getElem h
end
end Go.Abs
namespace Go.Abs
theorem Ref.both {S T : Nat → Prop} {a : AV} (h : Ref S a) (k : Ref T a) : Ref (fun i => S i ∧ T i) a := by
 induction h with
 | top => exact .top
 | int => exact .int _ _
 | bool => exact .bool _
 | str => exact .str _
 | nil => exact .nil
 | lit => exact .lit _
 | sl => exact .sl _ _
 | ro => exact .ro _ _
 | mu i off len oc h => cases k with | mu _ _ _ _ h' => exact .mu i off len oc ⟨h, h'⟩
 | mp b i h => cases k with | mp _ _ h' => exact .mp b i ⟨h, h'⟩
 | mo l => exact .mo l
 | io i n seen => exact .io i n seen
 | loc i k off h => cases k with | loc _ _ _ h' => exact .loc i _ off ⟨h, h'⟩
 | agg cs h ih => cases k with | agg _ h' => exact .agg cs fun c hc => ih c hc (h' c hc)
 | tup cs h ih => cases k with | tup _ h' => exact .tup cs fun c hc => ih c hc (h' c hc)
 | fn f cs h ih => cases k with | fn _ _ h' => exact .fn f cs fun c hc => ih c hc (h' c hc)
 | bfn f cs h ih => cases k with | bfn _ _ h' => exact .bfn f cs fun c hc => ih c hc (h' c hc)
theorem c6A {env : Env} {id : Nat} (h : env.all (fun p => nref id p.2) = true) (t : Nat) : Ref (· ≠ id) (look env t) := by
 induction env with
 | nil => exact .top
 | cons p env ih =>
  simp only [List.all_cons, Bool.and_eq_true] at h
  simp only [look]
  split
  ·exact a0j.1 h.1
  ·exact ih h.2
theorem Safe.drop {x : Cx} {todo : List AItem} {env : Env} {H L : Heap} {R : AV → Heap → Prop} {o : Option Blk} (hH : a0C H) (hx : x.n0 = H.length) (he : env.all (fun p => nref (lid H L.length) p.2) = true)
  (hL : ∀ b, some b ∈ L → ∀ a ∈ b.flat, nref (lid H L.length) a = true) (h : Safe x todo env (hap H L) R) : Safe x todo env (hap H (L ++ [o])) R := by
 intro φ w tmps b k cs hg hn hb hk htd hsz hok hrep
 have hlen : (hap H (L ++ [o])).length = lid H L.length + 1 := by simp [hap, lid, Nat.add_assoc]
 have lt : ∀ {a}, Ref (· < (hap H (L ++ [o])).length) a → Ref (· ≠ lid H L.length) a → Ref (· < lid H L.length) a := fun h1 h2 => (h1.both h2).mono fun i ⟨q1, q2⟩ => by rw [hlen] at q1; show i < _; omega
 have htake : (hap H (L ++ [o])).take (lid H L.length) = hap H L := by
  simp only [hap, lid, ← List.append_assoc]
  rw [show H.length + L.length = (H ++ L).length by simp, List.take_left']
  rfl
 have hcut := HOk.cut (E := ⟨φ, hap H (L ++ [o]), w⟩) hok (lid H L.length) (by
  intro j bj hj hbj a ha
  refine lt (hok.refs hbj a ha) ?_
  simp only [hap] at hbj
  rcases Nat.lt_or_ge j H.length with hlt | hge
  ·rw [List.getElem?_append_left hlt] at hbj
   exact (hH j bj hbj a ha).mono fun i hi => by show i ≠ H.length + L.length; have : i < H.length := hi; omega
  ·rw [List.getElem?_append_right hge] at hbj
   have hj2 : j - H.length < L.length := by simp only [lid] at hj; omega
   rw [List.getElem?_append_left hj2] at hbj
   exact a0j.1 (hL bj (List.mem_of_getElem? hbj) a ha))
 simp only [htake] at hcut
 obtain ⟨v, w', fr, r, φ', H', q1, q2, q3, q4, q5, q6⟩ := h φ w tmps b k cs hg (by rw [hx]; simp [hap]) hb hk htd hsz hcut.1 (fun t => (hrep t).mono hcut.2 (lt (hrep t).ref (c6A he t)))
 exact ⟨v, w', fr, r, φ', H', q1, q2, q3, q4, (hcut.2.sub fun i hi => by rw [hx] at hi; show i < H.length + L.length; have : i < H.length := hi; omega).trans q5, q6⟩
theorem Safe.dropC {x : Cx} {todo : List AItem} {env : Env} {H L : Heap} {R : AV → Heap → Prop} {o : Option Blk} (hH : a0C H) (hx : x.n0 = H.length) (he : env.all (fun p => nref (lid H L.length) p.2) = true)
  (hL : ∀ b, some b ∈ L → ∀ a ∈ b.flat, Cl a) (h : Safe x todo env (hap H L) R) : Safe x todo env (hap H (L ++ [o])) R :=
 Safe.drop hH hx he (fun b hb a ha => a0y (hL b hb a ha)) h
end Go.Abs
namespace Go.Abs
theorem a0C.set {H : Heap} (h : a0C H) (id : Nat) {b : Blk} (hb : ∀ a ∈ b.flat, Ref (· < H.length) a) : a0C (H.set id (some b)) := by
 intro j bj hj a ha
 rw [List.length_set]
 rw [List.getElem?_set] at hj
 split at hj
 ·split at hj
  ·cases hj; exact hb a ha
  ·cases hj
 ·exact h j bj hj a ha
theorem a0m.eff {P : Program} {mu : Nat → Nat → Bool} {f : FuncId} {fn : Func} (hf : P.funcs[f]? = some fn) {ac : ACode} {rs : List ResV} {nt : Nat} (hc : fchk P mu fn = some (ac, rs, nt))
  {args : List AV} {H : Heap} {R : AV → Heap → Prop} (ha : args.length ≤ nt)
  (h : a0C H → Safe ⟨P, mu, f, nt, rs, H.length⟩ [.code ac] (b8k 0 args) (hap H []) fun r' H' => ∃ H1 L, H' = hap H1 L ∧ H1.length = H.length ∧ a0C H1 ∧ Ref (· < H.length) r' ∧ R r' H1) : a0m P f args H R := by
 have h0 : a0m P f args H fun r' H' => ∃ H1 L, H' = hap H1 L ∧ H1.length = H.length ∧ a0C H1 ∧ Ref (· < H.length) r' ∧ R r' H1 := a0m.intro hf hc ha fun hH => by
  have := h hH
  rw [a1T] at this
  exact this
 refine ⟨h0.1, fun φ w vs hok hl hrep => (h0.2 φ w vs hok hl hrep).mono ?_⟩
 rintro e w' ⟨v, r', φ', H', rfl, ⟨H1, L, rfl, hlen, hrefs, hcl, hR⟩, q1, q2, q3, q4⟩
 have hfree : ∀ (j : Nat) bj, j < H.length → (hap H1 L)[j]? = some (some bj) → ∀ a ∈ bj.flat, Ref (· < H.length) a := by
  intro j bj hj hb
  simp only [hap] at hb
  rw [List.getElem?_append_left (by omega)] at hb
  have := hrefs j bj hb
  rwa [hlen] at this
 have hcut := HOk.cut q1 H.length hfree
 have ht : (hap H1 L).take H.length = H1 := by simp [hap, ← hlen]
 simp only [ht] at hcut
 exact ⟨v, r', φ', H1, rfl, hR, hcut.1, q2.mono hcut.2 hcl, by omega, q4.trans hcut.2⟩
section
variable {H L : Heap} {id : Nat} (hid : id < H.length)
include hid
theorem d7j (b : Blk) : hrow (hap (H.set id (some b)) L) id = some b := by
 rw [a9m _ _ _ (by simpa using hid)]
 simp [hrow, hid]
theorem e9e (b : Option Blk) (b' : Option Blk) : (hap (H.set id b) L).set id b' = hap (H.set id b') L := by
 unfold hap
 rw [List.set_append_left _ _ (by simpa using hid), List.set_set]
theorem b9n (wd : Nat) (X : List AV) (off len j : Nat) (oc : Option Nat) (k : IntKind) (h : j < len) : idxV (hap (H.set id (some ⟨wd, X⟩)) L) wd (.mu id off len oc) (.int k j) = some (.loc id (off + j) 0) := by
 rw [c6H _ _ _ _ _ _ _ _ (by omega) (by omega), d7j hid]
 simp
theorem f1p (b : Blk) (j : Nat) (h : j < b.xs.length) : atV (hap (H.set id (some b)) L) (.loc id j 0) = some (b.xs.getD j .top).cells := by
 rw [b2u, d7j hid]; simp [h]
theorem f1o (env : Env) (b : Blk) (n j : Nat) (v : AV) (h : j < b.xs.length) (hf : v.fit = true) (hn : v.cells.length = n) (ho : n ≤ b.wd) :
  a2s n (.loc id j 0) v env (hap (H.set id (some b)) L) = some (.top, env, hap (H.set id (some ⟨b.wd, b.xs.set j (upd (b.xs.getD j .top) b.wd 0 n v)⟩)) L) := by
 simp only [a2s, d7j hid, Option.bind_some, e9e hid]
 rw [if_pos ⟨h, hf, hn, by omega⟩]
end
theorem e5s {H : Heap} {id : Nat} {b : Option Blk} (h : H[id]? = some b) : H.set id b = H := by
 apply List.ext_getElem?
 intro j
 rw [List.getElem?_set]
 split
 ·rename_i e; subst e
  have := (List.getElem?_eq_some_iff.1 h).1
  rw [if_pos this, h]
 ·rfl
end Go.Abs
namespace Go.Abs
theorem a0d.consume {P : Program} {f : FuncId} {args : List AV} {r : AV} {H : Heap} {id : Nat} {b : Blk} (hl : H[id]? = some (some b)) (hcl : ∀ c ∈ b.flat, Cl c)
  (h : a0d P f (args.map (frz id b)) r) (hpos : 0 < b.wd := by exact Nat.zero_lt_succ _) : a0m P f args H fun r' H' => r' = r ∧ H' = frzH id b H := by
 have h0 := h (frzH id b H)
 refine ⟨h0.1, fun φ w vs hok hlen hrep => ?_⟩
 have hok' := d5w hok hpos hl hcl
 refine (h0.2 φ w vs hok' (by simpa using hlen) fun k v a hv ha => ?_).mono ?_
 ·rw [List.getElem?_map, Option.map_eq_some_iff] at ha
  obtain ⟨a0, ha, rfl⟩ := ha
  exact b9X hok hpos hl hcl (hrep k v a0 hv ha)
 ·rintro e w' ⟨v, r', φ', H', rfl, hr, q1, q2, q3, q4⟩
  have hlen2 : (frzH id b H).length = H.length := by simp [frzH]
  rw [hlen2] at q3 q4
  exact ⟨v, r', φ', H', rfl, hr, q1, q2, q3, (b9Z.sub fun _ _ => trivial).trans q4⟩
theorem a0d.consumeL {P : Program} {f : FuncId} {args : List AV} {r : AV} {H L : Heap} {R : AV → Heap → Prop} (hH : a0C H) (i : Nat) {b : Blk} (hl : L[i]? = some (some b)) (hcl : ∀ c ∈ b.flat, Cl c)
  (h : a0d P f (args.map (frz (lid H i) b)) r) (k : R r (hap H ((frzL (lid H i) b L).set i none))) (hpos : 0 < b.wd := by exact Nat.zero_lt_succ _) : a0m P f args (hap H L) R := by
 have hl' : (hap H L)[lid H i]? = some (some b) := by
  unfold hap lid
  rw [List.getElem?_append_right (by omega), Nat.add_sub_cancel_left]; exact hl
 refine (a0d.consume hl' hcl h hpos).mono ?_
 rintro r' H' ⟨rfl, rfl⟩
 rw [b8h hH]; exact k
end Go.Abs
namespace Go.Abs
def fr (n : Nat) (f : Nat → AV) : List AV := (List.range n).map f
theorem d5A (n : Nat) (f : Nat → AV) : (fr n f).length = n := by simp [fr]
theorem e7V {n : Nat} {f : Nat → AV} {i : Nat} (h : i < n) : (fr n f).getD i .top = f i := by simp [fr, List.getD_eq_getElem?_getD, h]
theorem b2L {n : Nat} {f g : Nat → AV} (h : ∀ i, i < n → f i = g i) : fr n f = fr n g := List.map_congr_left fun i hi => h i (List.mem_range.1 hi)
theorem e3Q (n : Nat) (f : Nat → AV) (i : Nat) (v : AV) : (fr n f).set i v = fr n fun j => if j = i then v else f j := by
 apply List.ext_getElem?
 intro j
 rw [List.getElem?_set]
 simp only [fr, List.getElem?_map, List.length_map, List.length_range]
 rcases Nat.lt_or_ge j n with h | h
 ·rw [List.getElem?_range h]
  by_cases e : i = j
  ·subst e; simp [h]
  ·simp [e, Ne.symm e]
 ·by_cases e : i = j
  ·subst e; simp [h]
  ·simp [e, h]
theorem e7U {n : Nat} {f : Nat → AV} {a : AV} (h : a ∈ fr n f) : ∃ i, i < n ∧ a = f i := by
 obtain ⟨i, hi, rfl⟩ := List.mem_map.1 h
 exact ⟨i, List.mem_range.1 hi, rfl⟩
theorem e6V {a : AV} (h : Cl a) : ∀ c ∈ a.cells, Cl c := by
 cases h with
 | agg cs h => exact h
 | top => intro c hc; simp [AV.cells] at hc; subst hc; exact .top
 | int k n => intro c hc; simp [AV.cells] at hc; subst hc; exact .int k n
 | bool b => intro c hc; simp [AV.cells] at hc; subst hc; exact .bool b
 | str b => intro c hc; simp [AV.cells] at hc; subst hc; exact .str b
 | nil => intro c hc; simp [AV.cells] at hc; subst hc; exact .nil
 | lit v => intro c hc; simp [AV.cells] at hc; subst hc; exact .lit v
 | sl wd xs h => intro c hc; simp [AV.cells] at hc; subst hc; exact .sl wd xs h
 | ro x off h => intro c hc; simp [AV.cells] at hc; subst hc; exact .ro x off h
 | tup cs h => intro c hc; simp [AV.cells] at hc; subst hc; exact .tup cs h
 | fn f cs h => intro c hc; simp [AV.cells] at hc; subst hc; exact .fn f cs h
 | bfn f cs h => intro c hc; simp [AV.cells] at hc; subst hc; exact .bfn f cs h
def hm (G : Heap) (β n : Nat) (O : List AV) (R : Nat → Option Blk) : Heap := G.mapIdx fun j o => if j = β then some ⟨1, O⟩ else if β < j ∧ j ≤ β + n then R (j - (β + 1)) else o
theorem a2j (G : Heap) (β n : Nat) (O : List AV) (R : Nat → Option Blk) : (hm G β n O R).length = G.length := by simp [hm]
theorem a4D (G : Heap) (β n : Nat) (O : List AV) (R : Nat → Option Blk) (j : Nat) (hj : j < G.length) : (hm G β n O R)[j]? = if j = β then some (some ⟨1, O⟩) else if β < j ∧ j ≤ β + n then some (R (j - (β + 1))) else G[j]? := by
 simp only [hm, List.getElem?_mapIdx, List.getElem?_eq_getElem hj, Option.map_some]
 split
 ·rfl
 ·split <;> rfl
theorem e9s {G : Heap} {β n : Nat} {O : List AV} {R : Nat → Option Blk} (ho : G[β]? = some (some ⟨1, O⟩)) (hr : ∀ j, j < n → G[β + 1 + j]? = some (R j)) : hm G β n O R = G := by
 apply List.ext_getElem?
 intro j
 rcases Nat.lt_or_ge j G.length with hj | hj
 ·rw [a4D _ _ _ _ _ _ hj]
  split
  ·rename_i e; subst e; exact ho.symm
  ·split
   ·rename_i e1 e2
    have := hr (j - (β + 1)) (by omega)
    rw [show β + 1 + (j - (β + 1)) = j by omega] at this
    exact this.symm
   ·rfl
 ·rw [List.getElem?_eq_none (by rw [a2j]; exact hj), List.getElem?_eq_none hj]
theorem d2d {G : Heap} {β n : Nat} {O O' : List AV} {R R' : Nat → Option Blk} (ho : O = O') (hr : ∀ j, j < n → R j = R' j) : hm G β n O R = hm G β n O' R' := by
 subst ho
 apply List.ext_getElem?
 intro j
 rcases Nat.lt_or_ge j G.length with hj | hj
 ·rw [a4D _ _ _ _ _ _ hj, a4D _ _ _ _ _ _ hj]
  split
  ·rfl
  ·split
   ·rw [hr _ (by omega)]
   ·rfl
 ·rw [List.getElem?_eq_none (by rw [a2j]; exact hj), List.getElem?_eq_none (by rw [a2j]; exact hj)]
theorem c4L (A B : Heap) (id : Nat) (b : Option Blk) (h : id < A.length) : (hap A B).set id b = hap (A.set id b) B := by
 unfold hap; exact List.set_append_left _ _ h
theorem e3q (G : Heap) (β n : Nat) (O : List AV) (R : Nat → Option Blk) (i : Nat) : lid (hm G β n O R) i = lid G i := by unfold lid; rw [a2j]
section
variable {G L : Heap} {β n : Nat} {O : List AV} {R : Nat → Option Blk}
theorem e6t (i : Nat) : hrow (hap (hm G β n O R) L) (lid G i) = (L[i]?).join := by
 rw [← e3q G β n O R, a0I]
theorem e8K (i : Nat) (x : Option Blk) : (hap (hm G β n O R) L).set (lid G i) x = hap (hm G β n O R) (L.set i x) := by
 rw [← e3q G β n O R, a2P]
variable (hG : β + n < G.length)
include hG
theorem e6s : hrow (hap (hm G β n O R) L) β = some ⟨1, O⟩ := by
 rw [a9m _ _ _ (by rw [a2j]; omega)]
 simp only [hrow]
 rw [a4D _ _ _ _ _ _ (by omega), if_pos rfl]; rfl
theorem e9q {j : Nat} (hj : j < n) : hrow (hap (hm G β n O R) L) (β + 1 + j) = R j := by
 rw [a9m _ _ _ (by rw [a2j]; omega)]
 simp only [hrow]
 rw [a4D _ _ _ _ _ _ (by omega), if_neg (by omega), if_pos (by omega), show β + 1 + j - (β + 1) = j by omega]; rfl
theorem e8J (O' : List AV) : (hap (hm G β n O R) L).set β (some ⟨1, O'⟩) = hap (hm G β n O' R) L := by
 rw [c4L _ _ _ _ (by rw [a2j]; omega)]
 congr 1
 apply List.ext_getElem?
 intro j
 rw [List.getElem?_set]
 rcases Nat.lt_or_ge j G.length with hj | hj
 ·rw [a4D _ _ _ _ _ _ hj, a4D _ _ _ _ _ _ hj, a2j]
  by_cases h : β = j
  ·subst h; simp [hj]
  ·rw [if_neg h, if_neg (Ne.symm h), if_neg (Ne.symm h)]
 ·rw [List.getElem?_eq_none (by rw [a2j]; exact hj), List.getElem?_eq_none (by rw [a2j]; exact hj), if_neg (by omega)]
theorem f0Z {j : Nat} (hj : j < n) (b : Option Blk) : (hap (hm G β n O R) L).set (β + 1 + j) b = hap (hm G β n O fun t => if t = j then b else R t) L := by
 rw [c4L _ _ _ _ (by rw [a2j]; omega)]
 congr 1
 apply List.ext_getElem?
 intro i
 rw [List.getElem?_set]
 rcases Nat.lt_or_ge i G.length with hi | hi
 ·rw [a4D _ _ _ _ _ _ hi, a4D _ _ _ _ _ _ hi, a2j]
  by_cases h : β + 1 + j = i
  ·subst h
   rw [if_pos rfl, if_pos (by omega), if_neg (by omega), if_pos (by omega), if_pos (by omega)]
  ·rw [if_neg h]
   by_cases h1 : i = β
   ·rw [if_pos h1, if_pos h1]
   ·rw [if_neg h1, if_neg h1]
    by_cases h2 : β < i ∧ i ≤ β + n
    ·rw [if_pos h2, if_pos h2, if_neg (by omega)]
    ·rw [if_neg h2, if_neg h2]
 ·rw [List.getElem?_eq_none (by rw [a2j]; exact hi), List.getElem?_eq_none (by rw [a2j]; exact hi), if_neg (by omega)]
end
def orow (β n c : Nat) (oc : Option Nat) (π : Nat → Nat) : List AV := fr n fun i => .mu (β + 1 + π i) 0 c oc
def hM (G : Heap) (β n w c : Nat) (oc : Option Nat) (π : Nat → Nat) (S : Nat → Nat → AV) : Heap := hm G β n (orow β n c oc π) fun j => some ⟨w, fr c (S j)⟩
def upd2 (S : Nat → Nat → AV) (j k : Nat) (v : AV) : Nat → Nat → AV := fun a b => if a = j then (if b = k then v else S a b) else S a b
def swp (π : Nat → Nat) (p r : Nat) : Nat → Nat := fun i => if i = p then π r else if i = r then π p else π i
theorem d5a (G : Heap) (β n w c : Nat) (oc : Option Nat) (π : Nat → Nat) (S : Nat → Nat → AV) : (hM G β n w c oc π S).length = G.length := a2j _ _ _ _ _
theorem a4Y (G : Heap) (β n w c : Nat) (oc : Option Nat) (π : Nat → Nat) (S : Nat → Nat → AV) (i : Nat) : lid (hM G β n w c oc π S) i = lid G i := e3q _ _ _ _ _ _
theorem e6u {G : Heap} {β n w c : Nat} {oc : Option Nat} {π : Nat → Nat} {S S' : Nat → Nat → AV} (h : ∀ j k, j < n → k < c → S j k = S' j k) : hM G β n w c oc π S = hM G β n w c oc π S' :=
 d2d rfl fun j hj => by rw [b2L fun k hk => h j k hj hk]
section
variable {G L : Heap} {β n w c : Nat} {oc : Option Nat} {π : Nat → Nat} {S : Nat → Nat → AV}
theorem a1S (i : Nat) : hrow (hap (hM G β n w c oc π S) L) (lid G i) = (L[i]?).join := e6t i
theorem a2J (i : Nat) (x : Option Blk) : (hap (hM G β n w c oc π S) L).set (lid G i) x = hap (hM G β n w c oc π S) (L.set i x) := e8K i x
variable (hG : β + n < G.length)
include hG
theorem b7T : hrow (hap (hM G β n w c oc π S) L) β = some ⟨1, orow β n c oc π⟩ := e6s hG
theorem c3Q {j : Nat} (hj : j < n) : hrow (hap (hM G β n w c oc π S) L) (β + 1 + j) = some ⟨w, fr c (S j)⟩ := e9q hG hj
theorem c0h {i : Nat} (hi : i < n) (oc' : Option Nat) (k : IntKind) : idxV (hap (hM G β n w c oc π S) L) 1 (.mu β 0 n oc') (.int k i) = some (.loc β i 0) := by
 rw [c6H _ _ _ _ _ _ _ _ (by omega) (by omega), b7T hG]; simp
theorem M_at {i : Nat} (hi : i < n) : atV (hap (hM G β n w c oc π S) L) (.loc β i 0) = some [.mu (β + 1 + π i) 0 c oc] := by
 rw [b2u, b7T hG]
 simp only [Option.bind_some, orow, d5A]
 rw [if_pos hi, e7V hi]; rfl
theorem d6c (len : Nat) (oc' : Option Nat) : lenV (hap (hM G β n w c oc π S) L) (.mu β 0 len oc') = some (.int .i64 len) := by
 rw [c6C, b7T hG]; rfl
theorem f1Z {j : Nat} (hj : j < n) (len : Nat) (oc' : Option Nat) : lenV (hap (hM G β n w c oc π S) L) (.mu (β + 1 + j) 0 len oc') = some (.int .i64 len) := by
 rw [c6C, c3Q hG hj]; rfl
theorem c3G {j k : Nat} (hj : j < n) (hk : k < c) (oc' : Option Nat) (ki : IntKind) : idxV (hap (hM G β n w c oc π S) L) w (.mu (β + 1 + j) 0 c oc') (.int ki k) = some (.loc (β + 1 + j) k 0) := by
 rw [c6H _ _ _ _ _ _ _ _ (by omega) (by omega), c3Q hG hj]; simp
theorem E_at {j k : Nat} (hj : j < n) (hk : k < c) : atV (hap (hM G β n w c oc π S) L) (.loc (β + 1 + j) k 0) = some (S j k).cells := by
 rw [b2u, c3Q hG hj]
 simp only [Option.bind_some, d5A]
 rw [if_pos hk, e7V hk]; rfl
theorem E_st {j k : Nat} (hj : j < n) (hk : k < c) {v : AV} (hf : v.fit = true) (hw : v.cells.length = w) (env : Env) : a2s w (.loc (β + 1 + j) k 0) v env (hap (hM G β n w c oc π S) L) = some (.top, env, hap (hM G β n w c oc π (upd2 S j k v)) L) := by
 simp only [a2s, c3Q hG hj, Option.bind_some, d5A]
 rw [if_pos ⟨hk, hf, hw, by omega⟩]
 rw [a3B, e3Q]
 unfold hM
 rw [f0Z hG hj]
 refine congrArg (fun x => some (AV.top, env, hap x L)) (d2d rfl fun t ht => ?_)
 split
 ·rename_i e; subst e
  congr 2; exact b2L fun a _ => by simp [upd2]
 ·rename_i e
  congr 2; exact b2L fun a _ => by simp [upd2, e]
theorem M_st {i j : Nat} (hi : i < n) (env : Env) : a2s 1 (.loc β i 0) (.mu (β + 1 + j) 0 c oc) env (hap (hM G β n w c oc π S) L) = some (.top, env, hap (hM G β n w c oc (fun t => if t = i then j else π t) S) L) := by
 simp only [a2s, b7T hG, Option.bind_some, orow, d5A]
 rw [if_pos ⟨hi, rfl, rfl, by omega⟩, a3B, e3Q]
 unfold hM
 rw [e8J hG]
 refine congrArg (fun x => some (AV.top, env, hap x L)) (d2d (b2L fun t _ => ?_) fun _ _ => rfl)
 by_cases e : t = i <;> simp [e]
end
theorem Safe.dropG {x : Cx} {todo : List AItem} {env : Env} {H L : Heap} {R : AV → Heap → Prop} {o : Option Blk} (hH : a0C H) (hx : x.n0 ≤ H.length) (he : env.all (fun p => nref (lid H L.length) p.2) = true)
  (hL : ∀ b, some b ∈ L → ∀ a ∈ b.flat, nref (lid H L.length) a = true) (h : Safe x todo env (hap H L) R) : Safe x todo env (hap H (L ++ [o])) R := by
 intro φ w tmps b k cs hg hn hb hk htd hsz hok hrep
 have hlen : (hap H (L ++ [o])).length = lid H L.length + 1 := by simp [hap, lid, Nat.add_assoc]
 have lt : ∀ {a}, Ref (· < (hap H (L ++ [o])).length) a → Ref (· ≠ lid H L.length) a → Ref (· < lid H L.length) a := fun h1 h2 => (h1.both h2).mono fun i ⟨q1, q2⟩ => by rw [hlen] at q1; show i < _; omega
 have htake : (hap H (L ++ [o])).take (lid H L.length) = hap H L := by
  simp only [hap, lid, ← List.append_assoc]
  rw [show H.length + L.length = (H ++ L).length by simp, List.take_left']
  rfl
 have hcut := HOk.cut (E := ⟨φ, hap H (L ++ [o]), w⟩) hok (lid H L.length) (by
  intro j bj hj hbj a ha
  refine lt (hok.refs hbj a ha) ?_
  simp only [hap] at hbj
  rcases Nat.lt_or_ge j H.length with hlt | hge
  ·rw [List.getElem?_append_left hlt] at hbj
   exact (hH j bj hbj a ha).mono fun i hi => by show i ≠ H.length + L.length; have : i < H.length := hi; omega
  ·rw [List.getElem?_append_right hge] at hbj
   have hj2 : j - H.length < L.length := by simp only [lid] at hj; omega
   rw [List.getElem?_append_left hj2] at hbj
   exact a0j.1 (hL bj (List.mem_of_getElem? hbj) a ha))
 simp only [htake] at hcut
 obtain ⟨v, w', fr, r, φ', H', q1, q2, q3, q4, q5, q6⟩ := h φ w tmps b k cs hg (by simp [hap]; omega) hb hk htd hsz hcut.1 (fun t => (hrep t).mono hcut.2 (lt (hrep t).ref (c6A he t)))
 exact ⟨v, w', fr, r, φ', H', q1, q2, q3, q4, (hcut.2.sub fun i hi => by show i < H.length + L.length; have : i < x.n0 := hi; omega).trans q5, q6⟩
theorem Safe.freezeB {x : Cx} {todo : List AItem} {env : Env} {H : Heap} {R : AV → Heap → Prop} (i : Nat) {L : Heap} {b : Blk} (hH : a0C H) (hx : x.n0 ≤ H.length) (hl : L[i]? = some (some b)) (hcl : ∀ c ∈ b.flat, Cl c)
  (h : Safe x todo (frzE (lid H i) b env) (hap H ((frzL (lid H i) b L).set i none)) R) (hpos : 0 < b.wd := by exact Nat.zero_lt_succ _) : Safe x todo env (hap H L) R := by
 refine Safe.freezeG (id := lid H i) (b := b) (Nat.le_trans hx (a1M H i)) ?_ hcl ?_ hpos
 ·unfold hap lid
  rw [List.getElem?_append_right (by omega), Nat.add_sub_cancel_left]; exact hl
 ·rw [b8h hH]; exact h
def a7m (β n w c : Nat) (oc : Option Nat) (S : Nat → Nat → AV) : Heap := some ⟨1, orow β n c oc fun i => i⟩ :: (List.range n).map fun j => some ⟨w, fr c (S j)⟩
theorem c5Z (β n w c : Nat) (oc : Option Nat) (S : Nat → Nat → AV) : (a7m β n w c oc S).length = n + 1 := by simp [a7m]
theorem d4N {β n w c : Nat} {oc : Option Nat} {S : Nat → Nat → AV} {j : Nat} (h : j < n) : (a7m β n w c oc S)[j + 1]? = some (some ⟨w, fr c (S j)⟩) := by simp [a7m, h]
theorem e9t (H X : Heap) (n w c : Nat) (oc : Option Nat) (S : Nat → Nat → AV) : hM (hap H (X ++ a7m (lid H X.length) n w c oc S)) (lid H X.length) n w c oc (fun i => i) S = hap H (X ++ a7m (lid H X.length) n w c oc S) := by
 refine e9s ?_ fun j hj => ?_
 ·simp only [hap, lid, ← List.append_assoc]
  rw [List.getElem?_append_right (by simp)]
  simp [a7m, lid]
 ·simp only [hap, lid, ← List.append_assoc]
  rw [List.getElem?_append_right (by simp; omega)]
  have : H.length + X.length + 1 + j - (H ++ X).length = j + 1 := by simp; omega
  rw [this]; exact d4N hj
theorem e5Y (H X : Heap) (n w c : Nat) (oc : Option Nat) (S : Nat → Nat → AV) : lid H X.length + n < (hap H (X ++ a7m (lid H X.length) n w c oc S)).length := by
 simp [hap, lid, c5Z]; omega
theorem d4F {β n c : Nat} {oc : Option Nat} {π : Nat → Nat} {P : Nat → Prop} (h : ∀ i, i < n → P (β + 1 + π i)) : ∀ a ∈ (Blk.mk 1 (orow β n c oc π)).flat, Ref P a := by
 intro a ha
 obtain ⟨y, hy, hya⟩ := List.mem_flatMap.1 ha
 obtain ⟨i, hi, rfl⟩ := e7U hy
 simp [AV.cells] at hya
 subst hya
 exact .mu _ _ _ _ (h i hi)
theorem d0A {w c : Nat} {f : Nat → AV} (h : ∀ k, k < c → Cl (f k)) : ∀ a ∈ (Blk.mk w (fr c f)).flat, Cl a := by
 intro a ha
 obtain ⟨y, hy, hya⟩ := List.mem_flatMap.1 ha
 obtain ⟨k, hk, rfl⟩ := e7U hy
 exact e6V (h k hk) a hya
theorem e0S {H X : Heap} (hH : a0C H) (hX : ∀ b, some b ∈ X → ∀ a ∈ b.flat, Cl a) {n w c : Nat} {oc : Option Nat} {S : Nat → Nat → AV} (hS : ∀ j k, j < n → k < c → Cl (S j k)) : a0C (hap H (X ++ a7m (lid H X.length) n w c oc S)) := by
 have hlen : (hap H (X ++ a7m (lid H X.length) n w c oc S)).length = lid H X.length + 1 + n := by simp [hap, lid, c5Z]; omega
 intro id b hb a ha
 rw [hlen]
 simp only [hap] at hb
 rcases Nat.lt_or_ge id H.length with h1 | h1
 ·rw [List.getElem?_append_left h1] at hb
  exact (hH id b hb a ha).mono fun i hi => by have : i < H.length := hi; show i < _; unfold lid; omega
 ·rw [List.getElem?_append_right h1] at hb
  rcases Nat.lt_or_ge (id - H.length) X.length with h2 | h2
  ·rw [List.getElem?_append_left h2] at hb
   exact (hX b (List.mem_of_getElem? hb) a ha).ref
  ·rw [List.getElem?_append_right h2] at hb
   generalize id - H.length - X.length = j at hb
   cases j with
   | zero =>
    simp [a7m] at hb; subst hb
    exact d4F (fun i hi => by show _ < _; omega) a ha
   | succ j =>
    have hj := a0h hb
    rw [c5Z] at hj
    rw [d4N (by omega)] at hb
    cases hb
    exact (d0A (fun k hk => hS j k (by omega) hk) a ha).ref
theorem e3I {G : Heap} {β n w c : Nat} {oc : Option Nat} {π π' : Nat → Nat} {S S' : Nat → Nat → AV} (hG : β + n < G.length) (h : a0C (hM G β n w c oc π S)) (hπ : ∀ i, i < n → π' i < n) (hS : ∀ j k, j < n → k < c → Cl (S' j k)) : a0C (hM G β n w c oc π' S') := by
 intro id b hb a ha
 rw [d5a]
 have hid := a0o hb
 rw [d5a] at hid
 unfold hM at hb
 rw [a4D _ _ _ _ _ _ hid] at hb
 split at hb
 ·cases hb
  exact d4F (fun i hi => by show _ < _; have := hπ i hi; omega) a ha
 ·split at hb
  ·cases hb
   exact (d0A (fun k hk => hS _ k (by omega) hk) a ha).ref
  ·rename_i h1 h2
   have := h id b (by unfold hM; rw [a4D _ _ _ _ _ _ hid, if_neg h1, if_neg h2]; exact hb) a ha
   rwa [d5a] at this
theorem f1z (G L : Heap) (β n : Nat) (O : List AV) (R : Nat → Option Blk) (hG : β + n < G.length) : hap (hm G β n O R) L = hm (hap G L) β n O R := by
 apply List.ext_getElem?
 intro j
 have hl : (hap G L).length = G.length + L.length := by simp [hap]
 rcases Nat.lt_or_ge j (G.length + L.length) with hj | hj
 ·rw [a4D _ _ _ _ _ _ (by omega)]
  unfold hap
  rcases Nat.lt_or_ge j G.length with h1 | h1
  ·rw [List.getElem?_append_left (by rw [a2j]; exact h1), a4D _ _ _ _ _ _ h1, List.getElem?_append_left h1]
  ·rw [List.getElem?_append_right (by rw [a2j]; exact h1), List.getElem?_append_right h1, if_neg (by omega), if_neg (by omega), a2j]
 ·rw [List.getElem?_eq_none (by simp [hap, a2j]; omega), List.getElem?_eq_none (by rw [a2j]; omega)]
theorem f1A (G L : Heap) (β n w c : Nat) (oc : Option Nat) (π : Nat → Nat) (S : Nat → Nat → AV) (hG : β + n < G.length) : hap (hM G β n w c oc π S) L = hM (hap G L) β n w c oc π S := f1z G L β n _ _ hG
theorem a2X {G L : Heap} {β n w c : Nat} {oc : Option Nat} {π : Nat → Nat} {S : Nat → Nat → AV} (m i off : Nat) (v : AV) (env : Env) : a2s m (.loc (lid G i) 0 off) v env (hap (hM G β n w c oc π S) L) = (L[i]?).join.bind fun b =>
  if 0 < b.xs.length ∧ v.fit = true ∧ v.cells.length = m ∧ off + m ≤ b.wd then some (.top, env, hap (hM G β n w c oc π S) (L.set i (some ⟨b.wd, b.xs.set 0 (upd (b.xs.getD 0 .top) b.wd off m v)⟩))) else none := by
 simp only [a2s, a1S, a2J]
theorem Safe.dropM {G : Heap} {β n w c : Nat} {oc : Option Nat} {π : Nat → Nat} {S : Nat → Nat → AV} {x : Cx} {todo : List AItem} {env : Env} {R : AV → Heap → Prop} (L : Heap) {o : Option Blk} (hH : a0C (hM G β n w c oc π S)) (hx : x.n0 ≤ G.length)
  (he : env.all (fun p => nref (lid G L.length) p.2) = true) (hL : ∀ b, some b ∈ L → ∀ a ∈ b.flat, Cl a) (h : Safe x todo env (hap (hM G β n w c oc π S) L) R) : Safe x todo env (hap (hM G β n w c oc π S) (L ++ [o])) R :=
 Safe.dropG hH (by rw [d5a]; exact hx) (by rw [a4Y]; exact he) (fun b hb a ha => a0y (hL b hb a ha)) h
theorem Safe.freezeM {G : Heap} {β n w c : Nat} {oc : Option Nat} {π : Nat → Nat} {S : Nat → Nat → AV} {x : Cx} {todo : List AItem} {env : Env} {R : AV → Heap → Prop} (i : Nat) {L : Heap} {b : Blk} (hH : a0C (hM G β n w c oc π S)) (hx : x.n0 ≤ G.length) (hl : L[i]? = some (some b)) (hcl : ∀ c ∈ b.flat, Cl c)
  (h : Safe x todo (frzE (lid G i) b env) (hap (hM G β n w c oc π S) ((frzL (lid G i) b L).set i none)) R) (hpos : 0 < b.wd := by exact Nat.zero_lt_succ _) : Safe x todo env (hap (hM G β n w c oc π S) L) R :=
 Safe.freezeB i hH (by rw [d5a]; exact hx) hl hcl (by rw [a4Y]; exact h) hpos
theorem a0v (H L M : Heap) : hap (hap H L) M = hap H (L ++ M) := by simp [hap]
theorem d8X {G L : Heap} {β n id : Nat} {O : List AV} {R : Nat → Option Blk} (hG : β + n < G.length) (hid : id < β) : hrow (hap (hm G β n O R) L) id = hrow G id := by
 rw [a9m _ _ _ (by rw [a2j]; omega)]
 simp only [hrow]
 rw [a4D _ _ _ _ _ _ (by omega), if_neg (by omega), if_neg (by omega)]
theorem e2s {G L : Heap} {β n id : Nat} {O : List AV} {R : Nat → Option Blk} (hG : β + n < G.length) (hid : id < β) (b : Option Blk) : (hap (hm G β n O R) L).set id b = hap (hm (G.set id b) β n O R) L := by
 rw [c4L _ _ _ _ (by rw [a2j]; omega)]
 congr 1
 apply List.ext_getElem?
 intro j
 rcases Nat.lt_or_ge j G.length with hj | hj
 ·rw [List.getElem?_set, a4D _ _ _ _ _ _ hj, a4D _ _ _ _ _ _ (by rw [List.length_set]; exact hj), a2j, List.getElem?_set]
  by_cases h : id = j
  ·subst h
   rw [if_pos rfl, if_pos (by omega), if_neg (by omega), if_neg (by omega), if_pos rfl]
  ·rw [if_neg h, if_neg h]
 ·rw [List.getElem?_eq_none (by rw [List.length_set, a2j]; exact hj), List.getElem?_eq_none (by rw [a2j, List.length_set]; exact hj)]
theorem f0V {G L : Heap} {β n w c id m : Nat} {oc : Option Nat} {π : Nat → Nat} {S : Nat → Nat → AV} (hG : β + n < G.length) (hid : id < β) {x v : AV} (h : G[id]? = some (some ⟨m, [x]⟩)) (hf : v.fit = true) (hv : v.cells.length = m) (env : Env) :
  a2s m (.loc id 0 0) v env (hap (hM G β n w c oc π S) L) = some (.top, env, hap (hM (G.set id (some ⟨m, [v]⟩)) β n w c oc π S) L) := by
 have hr : hrow (hap (hM G β n w c oc π S) L) id = some ⟨m, [x]⟩ := by unfold hM; rw [d8X hG hid]; simp [hrow, h]
 simp only [a2s, hr, Option.bind_some]
 rw [if_pos ⟨by simp, hf, hv, by omega⟩, a3B, List.set_cons_zero]
 unfold hM
 rw [e2s hG hid]
theorem f1V {G L : Heap} {β n w c id m : Nat} {oc : Option Nat} {π : Nat → Nat} {S : Nat → Nat → AV} (hG : β + n < G.length) (hid : id < β) {x : AV} (h : G[id]? = some (some ⟨m, [x]⟩)) : atV (hap (hM G β n w c oc π S) L) (.loc id 0 0) = some x.cells := by
 have hr : hrow (hap (hM G β n w c oc π S) L) id = some ⟨m, [x]⟩ := by unfold hM; rw [d8X hG hid]; simp [hrow, h]
 rw [b2u, hr]; rfl
theorem f1B {H L : Heap} {β n w c : Nat} {oc : Option Nat} {π : Nat → Nat} {S : Nat → Nat → AV} (hβ : H.length ≤ β) (hG : β + n < (hap H L).length) : ∃ L', hM (hap H L) β n w c oc π S = hap H L' := by
 refine ⟨(hM (hap H L) β n w c oc π S).drop H.length, ?_⟩
 have ht : (hM (hap H L) β n w c oc π S).take H.length = H := by
  apply List.ext_getElem?
  intro j
  rw [List.getElem?_take]
  split
  ·rename_i hj
   unfold hM
   have hl : (hap H L).length = H.length + L.length := by simp [hap]
   rw [a4D _ _ _ _ _ _ (by omega), if_neg (by omega), if_neg (by omega)]
   simp only [hap]
   rw [List.getElem?_append_left hj]
  ·rename_i hj
   rw [List.getElem?_eq_none (by omega)]
 exact (List.take_append_drop H.length _).symm.trans (by rw [ht]; rfl)
end Go.Abs
namespace Go.Abs
theorem HOk.hrefs {φ : Nat → Option Nat} {H : Heap} {w : World} (h : HOk ⟨φ, H, w⟩) : a0C H := fun id b hb a ha => h.refs (E := ⟨φ, H, w⟩) hb a ha
theorem a0m.frz {P : Program} {f : FuncId} {args : List AV} {H : Heap} {R R2 : AV → Heap → Prop} (h : a0m P f args H R)
  (hR : a0C H → ∀ r H', R r H' → ∃ id b, H'[id]? = some (some b) ∧ (0 < b.wd ∧ ∀ c ∈ b.flat, Cl c) ∧ R2 (Abs.frz id b r) (frzH id b H')) : a0m P f args H R2 := by
 refine ⟨h.1, fun φ w vs hok hl hrep => (h.2 φ w vs hok hl hrep).mono ?_⟩
 rintro e w' ⟨v, r, φ', H', rfl, hr, q1, q2, q3, q4⟩
 obtain ⟨id, b, h1, ⟨h0, h2⟩, h3⟩ := hR hok.hrefs r H' hr
 exact ⟨v, _, φ', _, rfl, h3, d5w q1 h0 h1 h2, b9X q1 h0 h1 h2 q2, by simpa [frzH] using q3, q4.trans ((b9Z (E := ⟨φ', H', w'⟩)).sub fun _ _ => trivial)⟩
end Go.Abs
namespace Go.Abs
theorem a0m.consume {P : Program} {f : FuncId} {args : List AV} {H : Heap} {R : AV → Heap → Prop} {id : Nat} {b : Blk} (hpos : 0 < b.wd) (hl : H[id]? = some (some b)) (hcl : ∀ c ∈ b.flat, Cl c)
  (h0 : a0m P f (args.map (Abs.frz id b)) (frzH id b H) R) : a0m P f args H R := by
 refine ⟨h0.1, fun φ w vs hok hlen hrep => ?_⟩
 have hok' := d5w hok hpos hl hcl
 refine (h0.2 φ w vs hok' (by simpa using hlen) fun k v a hv ha => ?_).mono ?_
 ·rw [List.getElem?_map, Option.map_eq_some_iff] at ha
  obtain ⟨a0, ha, rfl⟩ := ha
  exact b9X hok hpos hl hcl (hrep k v a0 hv ha)
 ·rintro e w' ⟨v, r', φ', H', rfl, hr, q1, q2, q3, q4⟩
  have hlen2 : (frzH id b H).length = H.length := by simp [frzH]
  rw [hlen2] at q3 q4
  exact ⟨v, r', φ', H', rfl, hr, q1, q2, q3, (b9Z.sub fun _ _ => trivial).trans q4⟩
theorem a0m.consumeL {P : Program} {f : FuncId} {args : List AV} {H L : Heap} {R : AV → Heap → Prop} (hH : a0C H) (i : Nat) {b : Blk} (hpos : 0 < b.wd) (hl : L[i]? = some (some b)) (hcl : ∀ c ∈ b.flat, Cl c)
  (h : a0m P f (args.map (Abs.frz (lid H i) b)) (hap H ((frzL (lid H i) b L).set i none)) R) : a0m P f args (hap H L) R := by
 have hl' : (hap H L)[lid H i]? = some (some b) := by
  unfold hap lid
  rw [List.getElem?_append_right (by omega), Nat.add_sub_cancel_left]; exact hl
 refine a0m.consume hpos hl' hcl ?_
 rw [b8h hH]; exact h
end Go.Abs
namespace Go.Abs
structure K0 (r : Blk) : Prop where
 wd : r.wd = 1
 pos : 0 < r.xs.length
 len : r.xs.length ≤ 17592186044416
 el : ∀ x ∈ r.xs, ∃ z : Int, x = .int .u32 z
def NatT (n0 : Nat) (A : Heap) (a : AV) : Prop := a = .nil ∨ ∃ id r, a = .mu id 0 r.xs.length (some r.xs.length) ∧ n0 ≤ id ∧ A[id]? = some (some r) ∧ K0 r
def IntT (n0 : Nat) (A : Heap) (a : AV) : Prop := ∃ b m, a = .agg [.bool b, m] ∧ NatT n0 A m
structure K1 (n0 : Nat) (A : Heap) (r : Blk) : Prop where
 wd : r.wd = 2
 el : ∀ x ∈ r.xs, IntT n0 A x
def VecT (n0 : Nat) (A : Heap) (a : AV) : Prop := a = .nil ∨ ∃ id off l oc r, a = .mu id off l oc ∧ n0 ≤ id ∧ A[id]? = some (some r) ∧ K1 n0 A r ∧ off + l ≤ r.xs.length ∧ l ≤ 2097152
structure K2 (n0 : Nat) (A : Heap) (r : Blk) : Prop where
 wd : r.wd = 1
 el : ∀ x ∈ r.xs, VecT n0 A x
def MatT (n0 : Nat) (A : Heap) (a : AV) : Prop := a = .nil ∨ ∃ id off l oc r, a = .mu id off l oc ∧ n0 ≤ id ∧ A[id]? = some (some r) ∧ K2 n0 A r ∧ off + l ≤ r.xs.length ∧ l ≤ 2097152
def M0 (n0 : Nat) (A B : Heap) : Prop := ∀ id r, n0 ≤ id → A[id]? = some (some r) → K0 r → ∃ r', B[id]? = some (some r') ∧ K0 r' ∧ r'.xs.length = r.xs.length
def M1 (n0 : Nat) (A B : Heap) : Prop := ∀ id r, n0 ≤ id → A[id]? = some (some r) → K1 n0 A r → ∃ r', B[id]? = some (some r') ∧ K1 n0 B r' ∧ r'.xs.length = r.xs.length
def M2 (n0 : Nat) (A B : Heap) : Prop := ∀ id r, n0 ≤ id → A[id]? = some (some r) → K2 n0 A r → ∃ r', B[id]? = some (some r') ∧ K2 n0 B r' ∧ r'.xs.length = r.xs.length
section
variable {n0 : Nat} {A B C : Heap}
theorem M0.refl : M0 n0 A A := fun id r _ h k => ⟨r, h, k, rfl⟩
theorem M0.trans (h : M0 n0 A B) (k : M0 n0 B C) : M0 n0 A C := fun id r h0 h1 h2 => by
 obtain ⟨r', q1, q2, q3⟩ := h id r h0 h1 h2
 obtain ⟨r2, s1, s2, s3⟩ := k id r' h0 q1 q2
 exact ⟨r2, s1, s2, by omega⟩
theorem M1.refl : M1 n0 A A := fun id r _ h k => ⟨r, h, k, rfl⟩
theorem M1.trans (h : M1 n0 A B) (k : M1 n0 B C) : M1 n0 A C := fun id r h0 h1 h2 => by
 obtain ⟨r', q1, q2, q3⟩ := h id r h0 h1 h2
 obtain ⟨r2, s1, s2, s3⟩ := k id r' h0 q1 q2
 exact ⟨r2, s1, s2, by omega⟩
theorem M2.refl : M2 n0 A A := fun id r _ h k => ⟨r, h, k, rfl⟩
theorem M2.trans (h : M2 n0 A B) (k : M2 n0 B C) : M2 n0 A C := fun id r h0 h1 h2 => by
 obtain ⟨r', q1, q2, q3⟩ := h id r h0 h1 h2
 obtain ⟨r2, s1, s2, s3⟩ := k id r' h0 q1 q2
 exact ⟨r2, s1, s2, by omega⟩
theorem NatT.mono (h : M0 n0 A B) {a : AV} (t : NatT n0 A a) : NatT n0 B a := by
 rcases t with rfl | ⟨id, r, rfl, h0, h1, h2⟩
 ·exact .inl rfl
 ·obtain ⟨r', q1, q2, q3⟩ := h id r h0 h1 h2
  exact .inr ⟨id, r', by rw [q3], h0, q1, q2⟩
theorem IntT.mono (h : M0 n0 A B) {a : AV} (t : IntT n0 A a) : IntT n0 B a := by
 obtain ⟨b, m, rfl, hm⟩ := t
 exact ⟨b, m, rfl, hm.mono h⟩
theorem K1.mono (h : M0 n0 A B) {r : Blk} (k : K1 n0 A r) : K1 n0 B r := ⟨k.wd, fun x hx => (k.el x hx).mono h⟩
theorem VecT.mono (h : M1 n0 A B) {a : AV} (t : VecT n0 A a) : VecT n0 B a := by
 rcases t with rfl | ⟨id, off, l, oc, r, rfl, h0, h1, h2, h3, h4⟩
 ·exact .inl rfl
 ·obtain ⟨r', q1, q2, q3⟩ := h id r h0 h1 h2
  exact .inr ⟨id, off, l, oc, r', rfl, h0, q1, q2, by omega, h4⟩
theorem K2.mono (h : M1 n0 A B) {r : Blk} (k : K2 n0 A r) : K2 n0 B r := ⟨k.wd, fun x hx => (k.el x hx).mono h⟩
theorem MatT.mono (h : M2 n0 A B) {a : AV} (t : MatT n0 A a) : MatT n0 B a := by
 rcases t with rfl | ⟨id, off, l, oc, r, rfl, h0, h1, h2, h3, h4⟩
 ·exact .inl rfl
 ·obtain ⟨r', q1, q2, q3⟩ := h id r h0 h1 h2
  exact .inr ⟨id, off, l, oc, r', rfl, h0, q1, q2, by omega, h4⟩
theorem d7Q {H L : Heap} {id : Nat} {x : Option Blk} (h : H[id]? = some x) : (hap H L)[id]? = some x := by
 unfold hap; rw [List.getElem?_append_left (a0o h)]; exact h
theorem M0.app (L : Heap) : M0 n0 A (hap A L) := fun id r _ h k => ⟨r, d7Q h, k, rfl⟩
theorem M1.app (L : Heap) : M1 n0 A (hap A L) := fun id r _ h k => ⟨r, d7Q h, k.mono (.app L), rfl⟩
theorem M2.app (L : Heap) : M2 n0 A (hap A L) := fun id r _ h k => ⟨r, d7Q h, k.mono (.app L), rfl⟩
theorem M0.set {β : Nat} {x : Option Blk} (h : ∀ r, A[β]? = some (some r) → ¬ K0 r) : M0 n0 A (A.set β x) := fun id r _ h1 k => by
 refine ⟨r, ?_, k, rfl⟩
 rw [List.getElem?_set, if_neg (fun e => by subst e; exact h r h1 k)]; exact h1
end
structure Sp (n0 : Nat) (A B : Heap) : Prop where
 m0 : M0 n0 A B
 m1 : M1 n0 A B
 m2 : M2 n0 A B
 len : B.length = A.length
 refs : a0C B
 low : ∀ id, id < n0 → B[id]? = A[id]?
theorem Sp.refl {n0 : Nat} {A : Heap} (h : a0C A) : Sp n0 A A := ⟨.refl, .refl, .refl, rfl, h, fun _ _ => rfl⟩
theorem Sp.trans {n0 : Nat} {A B C : Heap} (h : Sp n0 A B) (k : Sp n0 B C) : Sp n0 A C := ⟨h.m0.trans k.m0, h.m1.trans k.m1, h.m2.trans k.m2, by rw [k.len, h.len], k.refs, fun id hi => by rw [k.low id hi, h.low id hi]⟩
def Own (n0 : Nat) (L : Heap) : Prop := ∀ b, some b ∈ L → ∀ a ∈ b.flat, Ref (fun j => n0 ≤ j ∧ j < n0 + L.length) a
theorem Own.app {n0 : Nat} {L M : Heap} (h : Own n0 L) (k : ∀ b, some b ∈ M → ∀ a ∈ b.flat, Ref (fun j => n0 ≤ j ∧ j < n0 + (L ++ M).length) a) : Own n0 (L ++ M) := fun b hb a ha => by
 rcases List.mem_append.1 hb with hb | hb
 ·exact (h b hb a ha).mono fun j hj => by simp only [List.length_append]; omega
 ·exact k b hb a ha
theorem Own.refs {H L : Heap} (hH : a0C H) (h : Own H.length L) : a0C (hap H L) := by
 intro id b hb a ha
 have hl : (hap H L).length = H.length + L.length := by simp [hap]
 rcases Nat.lt_or_ge id H.length with hi | hi
 ·unfold hap at hb
  rw [List.getElem?_append_left hi] at hb
  exact (hH id b hb a ha).mono fun j hj => by rw [hl]; have : j < H.length := hj; show j < _; omega
 ·unfold hap at hb
  rw [List.getElem?_append_right hi] at hb
  exact (h b (List.mem_of_getElem? hb) a ha).mono fun j hj => by rw [hl]; show j < _; omega
theorem Own.set {H L : Heap} (h : Own H.length L) {i : Nat} {b' : Blk} (hb' : ∀ a ∈ b'.flat, Ref (fun j => H.length ≤ j ∧ j < H.length + L.length) a) : Own H.length (L.set i (some b')) := fun b hb a ha => by
 rw [List.length_set]
 rcases List.mem_or_eq_of_mem_set hb with hb | hb
 ·exact h b hb a ha
 ·cases hb; exact hb' a ha
section
variable {n0 : Nat} {A : Heap}
theorem NatT.ref {a : AV} (h : NatT n0 A a) : Ref (fun j => n0 ≤ j ∧ j < A.length) a := by
 rcases h with rfl | ⟨id, r, rfl, h0, h1, _⟩
 ·exact .nil
 ·exact .mu _ _ _ _ ⟨h0, a0o h1⟩
theorem IntT.ref {a : AV} (h : IntT n0 A a) : Ref (fun j => n0 ≤ j ∧ j < A.length) a := by
 obtain ⟨b, m, rfl, hm⟩ := h
 refine .agg _ fun c hc => ?_
 simp only [List.mem_cons, List.not_mem_nil, or_false] at hc
 rcases hc with rfl | rfl
 ·exact .bool b
 ·exact hm.ref
theorem IntT.cells {a : AV} (h : IntT n0 A a) : ∀ c ∈ a.cells, Ref (fun j => n0 ≤ j ∧ j < A.length) c := by
 obtain ⟨b, m, rfl, hm⟩ := h
 intro c hc
 simp only [AV.cells, List.mem_cons, List.not_mem_nil, or_false] at hc
 rcases hc with rfl | rfl
 ·exact .bool b
 ·exact hm.ref
theorem IntT.fit {a : AV} (h : IntT n0 A a) : a.fit = true ∧ a.cells.length = 2 := by
 obtain ⟨b, m, rfl, hm⟩ := h; exact ⟨rfl, rfl⟩
theorem VecT.ref {a : AV} (h : VecT n0 A a) : Ref (fun j => n0 ≤ j ∧ j < A.length) a := by
 rcases h with rfl | ⟨id, off, l, oc, r, rfl, h0, h1, _⟩
 ·exact .nil
 ·exact .mu _ _ _ _ ⟨h0, a0o h1⟩
theorem VecT.cells {a : AV} (h : VecT n0 A a) : ∀ c ∈ a.cells, Ref (fun j => n0 ≤ j ∧ j < A.length) c := by
 intro c hc
 have : a.cells = [a] := by rcases h with rfl | ⟨id, off, l, oc, r, rfl, _⟩ <;> rfl
 rw [this] at hc
 simp only [List.mem_cons, List.not_mem_nil, or_false] at hc
 subst hc
 exact h.ref
theorem VecT.fit {a : AV} (h : VecT n0 A a) : a.fit = true ∧ a.cells.length = 1 := by
 rcases h with rfl | ⟨id, off, l, oc, r, rfl, _⟩ <;> exact ⟨rfl, rfl⟩
end
theorem a0m.open {P : Program} {mu : Nat → Nat → Bool} {f : FuncId} {fn : Func} (hf : P.funcs[f]? = some fn) {ac : ACode} {rs : List ResV} {nt : Nat} (hc : fchk P mu fn = some (ac, rs, nt))
  {args : List AV} {H : Heap} {R : AV → Heap → Prop} (ha : args.length ≤ nt) (h : a0C H → Safe ⟨P, mu, f, nt, rs, H.length⟩ [.code ac] (b8k 0 args) (hap H []) R) : a0m P f args H R :=
 a0m.intro hf hc ha fun hH => by
  have := h hH
  rw [a1T] at this
  exact this
def OpC (P : Program) (f : FuncId) (args : List AV) (T : Nat → Heap → AV → Prop) : Prop := ∀ H, a0C H → ∃ r L, (a0m P f args H fun r' H' => r' = r ∧ H' = hap H L) ∧ T H.length (hap H L) r ∧ Own H.length L
def GrC (P : Program) (f : FuncId) (args : List AV) (T : Nat → Heap → AV → Prop) : Prop := ∀ H, a0C H → a0m P f args H fun r' H' => ∃ L, H' = hap H L ∧ T H.length H' r' ∧ Own H.length L
theorem OpC.dgcall {P : Program} {f : FuncId} {args : List AV} {T : Nat → Heap → AV → Prop} (h : OpC P f args T) {H : Heap} (hH : a0C H) {K : AV → Heap → Prop} (k : ∀ r L, T H.length (hap H L) r → Own H.length L → K r (hap H L)) : dgcall P f args H K := by
 obtain ⟨r, L, h1, h2, h3⟩ := h H hH
 exact ⟨r, L, h1, k r L h2 h3⟩
theorem GrC.acall {P : Program} {f : FuncId} {args : List AV} {T : Nat → Heap → AV → Prop} (h : GrC P f args T) {H : Heap} (hH : a0C H) {R : AV → Heap → Prop} (k : ∀ r L, T H.length (hap H L) r → Own H.length L → R r (hap H L)) : a0m P f args H R :=
 (h H hH).mono fun r' H' ⟨L, e, h1, h2⟩ => by subst e; exact k r' L h1 h2
structure Gw (H G : Heap) : Prop where
 len : H.length ≤ G.length
 low : ∀ id, id < H.length → G[id]? = H[id]?
 own : ∀ (id : Nat) b, H.length ≤ id → G[id]? = some (some b) → ∀ a ∈ b.flat, Ref (fun j => H.length ≤ j ∧ j < G.length) a
theorem Gw.refl (H : Heap) : Gw H H := ⟨Nat.le_refl _, fun _ _ => rfl, fun id b h hb => absurd (a0o hb) (by omega)⟩
theorem Gw.refs {H G : Heap} (hH : a0C H) (h : Gw H G) : a0C G := fun id b hb a ha => by
 rcases Nat.lt_or_ge id H.length with hi | hi
 ·rw [h.low id hi] at hb
  exact (hH id b hb a ha).mono fun j hj => by have := h.len; show j < _; have : j < H.length := hj; omega
 ·exact (h.own id b hi hb a ha).mono fun j hj => hj.2
theorem Gw.out {H G : Heap} (h : Gw H G) : ∃ L, G = hap H L ∧ Own H.length L := by
 have he : G = hap H (G.drop H.length) := by
  apply List.ext_getElem?
  intro j
  unfold hap
  rcases Nat.lt_or_ge j H.length with hj | hj
  ·rw [List.getElem?_append_left hj, h.low j hj]
  ·rw [List.getElem?_append_right hj, List.getElem?_drop]; congr 1; omega
 refine ⟨_, he, fun b hb a ha => ?_⟩
 obtain ⟨j, hj⟩ := List.mem_iff_getElem?.1 hb
 rw [List.getElem?_drop] at hj
 exact (h.own _ b (by omega) hj a ha).mono fun k hk => by simp only [List.length_drop]; have := h.len; omega
theorem Gw.app {H G L : Heap} (h : Gw H G) (k : ∀ b, some b ∈ L → ∀ a ∈ b.flat, Ref (fun j => H.length ≤ j ∧ j < G.length + L.length) a) : Gw H (hap G L) := by
 have hl : (hap G L).length = G.length + L.length := by simp [hap]
 refine ⟨by rw [hl]; have := h.len; omega, fun id hi => ?_, fun id b hi hb a ha => ?_⟩
 ·unfold hap; rw [List.getElem?_append_left (by have := h.len; omega), h.low id hi]
 ·rw [hl]
  unfold hap at hb
  rcases Nat.lt_or_ge id G.length with hj | hj
  ·rw [List.getElem?_append_left hj] at hb
   exact (h.own id b hi hb a ha).mono fun j hj => by omega
  ·rw [List.getElem?_append_right hj] at hb
   exact k b (List.mem_of_getElem? hb) a ha
theorem Gw.cl {H G L : Heap} (h : Gw H G) (k : ∀ b, some b ∈ L → ∀ a ∈ b.flat, Cl a) : Gw H (hap G L) := h.app fun b hb a ha => (k b hb a ha).ref
theorem Gw.set {H G : Heap} (h : Gw H G) {β : Nat} (hβ : H.length ≤ β) {b' : Blk} (hb' : ∀ a ∈ b'.flat, Ref (fun j => H.length ≤ j ∧ j < G.length) a) : Gw H (G.set β (some b')) := by
 refine ⟨by rw [List.length_set]; exact h.len, fun id hi => ?_, fun id b hi hb a ha => ?_⟩
 ·rw [List.getElem?_set, if_neg (by omega)]; exact h.low id hi
 ·rw [List.length_set]
  rw [List.getElem?_set] at hb
  split at hb
  ·split at hb
   ·cases hb; exact hb' a ha
   ·cases hb
  ·exact h.own id b hi hb a ha
theorem NatT.low {n0 n1 : Nat} {A : Heap} {a : AV} (h : n0 ≤ n1) (t : NatT n1 A a) : NatT n0 A a := by
 rcases t with rfl | ⟨id, r, rfl, h0, h1, h2⟩
 ·exact .inl rfl
 ·exact .inr ⟨id, r, rfl, by omega, h1, h2⟩
theorem IntT.low {n0 n1 : Nat} {A : Heap} {a : AV} (h : n0 ≤ n1) (t : IntT n1 A a) : IntT n0 A a := by
 obtain ⟨b, m, rfl, hm⟩ := t
 exact ⟨b, m, rfl, hm.low h⟩
theorem K1.low {n0 n1 : Nat} {A : Heap} {r : Blk} (h : n0 ≤ n1) (t : K1 n1 A r) : K1 n0 A r := ⟨t.wd, fun x hx => (t.el x hx).low h⟩
theorem VecT.low {n0 n1 : Nat} {A : Heap} {a : AV} (h : n0 ≤ n1) (t : VecT n1 A a) : VecT n0 A a := by
 rcases t with rfl | ⟨id, off, l, oc, r, rfl, h0, h1, h2, h3⟩
 ·exact .inl rfl
 ·exact .inr ⟨id, off, l, oc, r, rfl, by omega, h1, h2.low h, h3⟩
structure ElT (T : Nat → Heap → AV → Prop) (wd : Nat) : Prop where
 app : ∀ {n0 A a} L, T n0 A a → T n0 (hap A L) a
 low : ∀ {n0 n1 A a}, n0 ≤ n1 → T n1 A a → T n0 A a
 set : ∀ {n0 A a β xs x}, A[β]? = some (some ⟨wd, xs⟩) → (∀ y ∈ xs, T n0 A y) → T n0 A a → T n0 (A.set β (some ⟨wd, xs ++ [x]⟩)) a
 cells : ∀ {n0 A a}, T n0 A a → ∀ c ∈ a.cells, Ref (fun j => n0 ≤ j ∧ j < A.length) c
 fit : ∀ {n0 A a}, T n0 A a → a.fit = true ∧ a.cells.length = wd
theorem Free.app {G L : Heap} {β : Nat} (h : Free G β) (hL : ∀ b, some b ∈ L → ∀ a ∈ b.flat, Ref (· ≠ β) a) : Free (hap G L) β := fun j b hj hb a ha => by
 unfold hap at hb
 rcases Nat.lt_or_ge j G.length with hi | hi
 ·rw [List.getElem?_append_left hi] at hb
  exact h j b hj hb a ha
 ·rw [List.getElem?_append_right hi] at hb
  exact hL b (List.mem_of_getElem? hb) a ha
theorem Free.own {G L : Heap} {β : Nat} (h : Free G β) (hβ : β < G.length) (hL : Own G.length L) : Free (hap G L) β := h.app fun b hb a ha => (hL b hb a ha).mono fun j hj => by show j ≠ β; omega
theorem Free.set {G : Heap} {β γ : Nat} (h : Free G β) {b' : Blk} (hb' : ∀ a ∈ b'.flat, Ref (· ≠ β) a) : Free (G.set γ (some b')) β := fun j b hj hb a ha => by
 rw [List.getElem?_set] at hb
 split at hb
 ·split at hb
  ·cases hb; exact hb' a ha
  ·cases hb
 ·exact h j b hj hb a ha
theorem Free.last {G : Heap} (h : a0C G) (x : Option Blk) : Free (hap G [x]) G.length := fun j b hj hb a ha => by
 unfold hap at hb
 rcases Nat.lt_or_ge j G.length with hi | hi
 ·rw [List.getElem?_append_left hi] at hb
  exact (h j b hb a ha).mono fun k hk => by show k ≠ G.length; have : k < G.length := hk; omega
 ·rw [List.getElem?_eq_none (by simp; omega)] at hb
  cases hb
end Go.Abs
namespace Go.Abs
theorem d1L {id : Nat} {x : AV} (h : ∀ c ∈ x.cells, Ref (· ≠ id) c) : nref id x = true := by
 cases x with
 | agg cs => exact a0j.2 (.agg _ h)
 | mo l => exact a0j.2 (.mo l)
 | io a b l => exact a0j.2 (.io a b l)
 | _ => exact a0j.2 (h _ (by simp [AV.cells]))
theorem d3k {id : Nat} {b : Blk} (h : ∀ a ∈ b.flat, Ref (· ≠ id) a) : a9Y id b = b := by
 unfold a9Y
 have : b.xs.map (a3K id) = b.xs := by
  rw [List.map_congr_left (g := fun c => c) fun c hc => by unfold a3K; rw [if_pos (d1L fun a ha => h a (List.mem_flatMap.2 ⟨c, hc, ha⟩))]]
  simp
 rw [this]
theorem d9Y {H : Heap} (hH : a0C H) {id : Nat} (hid : H.length ≤ id) : a1C id H = H := by
 unfold a1C
 apply List.ext_getElem?
 intro j
 rw [List.getElem?_map]
 cases hj : H[j]? with
 | none => rfl
 | some o =>
  cases o with
  | none => rfl
  | some b =>
   simp only [Option.map_some]
   rw [d3k fun a ha => (hH j b hj a ha).mono fun k hk => by show k ≠ id; have : k < H.length := hk; omega]
theorem d9Z {H L : Heap} (hH : a0C H) {id : Nat} (hid : H.length ≤ id) : a1C id (hap H L) = hap H (a1C id L) := by
 unfold hap
 have : a1C id (H ++ L) = a1C id H ++ a1C id L := by unfold a1C; rw [List.map_append]
 rw [this, d9Y hH hid]
theorem a7P (id : Nat) : a1C id [] = [] := rfl
theorem d6E (id : Nat) (L : Heap) : a1C id (none :: L) = none :: a1C id L := rfl
theorem a5E (id : Nat) (b : Blk) (L : Heap) : a1C id (some b :: L) = some (a9Y id b) :: a1C id L := rfl
theorem b0K (id wd : Nat) (xs : List AV) : a9Y id ⟨wd, xs⟩ = ⟨wd, xs.map (a3K id)⟩ := rfl
theorem a2K {id : Nat} {x : AV} (h : nref id x = true) : a3K id x = x := by unfold a3K; rw [if_pos h]
theorem e2v (id off len : Nat) (oc : Option Nat) : a3K id (.mu id off len oc) = .top := by
 unfold a3K
 rw [if_neg]
 intro h
 cases a0j.1 h with | mu _ _ _ _ h => exact h rfl
theorem c7J {H L : Heap} (hH : a0C H) {i n0 wd bytes len : Nat} {env : Env} {y : AV} {xs ys : List AV} (hl : L[i]? = some (some ⟨wd, xs⟩)) (hlen : len = xs.length) (hn : n0 ≤ lid H i) (hy : a0Q (hap H L) wd false y = some ys)
  (hys : ∀ a ∈ ys.flatMap AV.cells, nref (lid H i) a = true) (hxs : ∀ x ∈ xs, nref (lid H i) x = true) (h1 : (len + ys.length) * bytes ≤ 140737488355328) (h2 : len + ys.length ≤ 9223372036854775807) :
  appV n0 wd bytes false (.mu (lid H i) 0 len none) y env (hap H L) = some (.mu (lid H i) 0 (len + ys.length) none, scrub (lid H i) env, hap H ((a1C (lid H i) L).set i (some ⟨wd, xs ++ ys⟩))) := by
 subst hlen
 have hys' : (ys.flatMap AV.cells).all (nref (lid H i)) = true := List.all_eq_true.2 hys
 have hxc : (xs.flatMap AV.cells).all (nref (lid H i)) = true := List.all_eq_true.2 fun a ha => by
  obtain ⟨x, hx, ha⟩ := List.mem_flatMap.1 ha
  exact b9p (hxs x hx) a ha
 have hxs' : xs.all (nref (lid H i)) = true := List.all_eq_true.2 hxs
 simp only [appV, hy, Option.bind_some, a0I, hl, Option.join_some, a2P]
 rw [if_neg (by simp)]
 by_cases hf : free (hap H L) (lid H i) = true
 ·rw [if_pos ⟨trivial, trivial, Nat.le_refl _, hn, hf, hys', hxc, h1, h2⟩]
  have hs : L.set i (some ⟨wd, xs ++ ys⟩) = (a1C (lid H i) L).set i (some ⟨wd, xs ++ ys⟩) := by
   apply List.ext_getElem?
   intro j
   rw [List.getElem?_set, List.getElem?_set]
   by_cases e : i = j
   ·subst e; simp [a1C]
   ·rw [if_neg e, if_neg e]
    unfold a1C
    rw [List.getElem?_map]
    cases hj : L[j]? with
    | none => rfl
    | some o =>
     cases o with
     | none => rfl
     | some b =>
      simp only [Option.map_some]
      rw [d3k fun a ha => c3V.1 hf (lid H j) b (by simp only [lid]; omega) (by unfold hap lid; rw [List.getElem?_append_right (by omega), Nat.add_sub_cancel_left]; exact hj) a ha]
  simp [a1c, hs]
 ·rw [if_neg (fun h => hf h.2.2.2.2.1), if_neg (by simp), if_pos ⟨trivial, trivial, Nat.le_refl _, hn, hys', hxs', h1, h2⟩]
  rw [d9Z hH (a1M H i), a2P]
  simp [a1c]
end Go.Abs
namespace Go.Abs
abbrev LB : Nat := 4294967296
def val : List Nat → Nat
 | [] => 0
 | d :: l => d + LB * val l
def Lim (l : List Nat) : Prop := ∀ d ∈ l, d < LB
def limbs (n : Nat) : List Nat := if h : n = 0 then [] else n % LB :: limbs (n / LB)
termination_by n
decreasing_by exact Nat.div_lt_self (by omega) (by decide)
theorem a0J : limbs 0 = [] := by rw [limbs]; simp
theorem a6a {n : Nat} (h : n ≠ 0) : limbs n = n % LB :: limbs (n / LB) := by rw [limbs]; simp [h]
theorem a0a (n : Nat) : val (limbs n) = n := by
 induction n using Nat.strongRecOn with
 | _ n ih =>
  by_cases h : n = 0
  ·subst h; rw [a0J]; rfl
  ·rw [a6a h, val, ih (n / LB) (Nat.div_lt_self (by omega) (by decide))]
   exact Nat.mod_add_div n LB
theorem a0b (n : Nat) : Lim (limbs n) := by
 induction n using Nat.strongRecOn with
 | _ n ih =>
  by_cases h : n = 0
  ·subst h; rw [a0J]; intro d hd; simp at hd
  ·rw [a6a h]
   intro d hd
   rcases List.mem_cons.1 hd with rfl | hd
   ·exact Nat.mod_lt _ (by decide)
   ·exact ih (n / LB) (Nat.div_lt_self (by omega) (by decide)) d hd
theorem b9K : Lim [] := fun d hd => by simp at hd
theorem d1X {d : Nat} {l : List Nat} : Lim (d :: l) ↔ d < LB ∧ Lim l := by
 constructor
 ·intro h; exact ⟨h d (by simp), fun e he => h e (by simp [he])⟩
 ·rintro ⟨h1, h2⟩ e he
  rcases List.mem_cons.1 he with rfl | he
  ·exact h1
  ·exact h2 e he
theorem b9M {a b : List Nat} : Lim (a ++ b) ↔ Lim a ∧ Lim b := by
 constructor
 ·intro h; exact ⟨fun d hd => h d (by simp [hd]), fun d hd => h d (by simp [hd])⟩
 ·rintro ⟨h1, h2⟩ d hd
  rcases List.mem_append.1 hd with hd | hd
  ·exact h1 d hd
  ·exact h2 d hd
theorem Lim.take {l : List Nat} (h : Lim l) (n : Nat) : Lim (l.take n) := fun d hd => h d (List.mem_of_mem_take hd)
theorem Lim.drop {l : List Nat} (h : Lim l) (n : Nat) : Lim (l.drop n) := fun d hd => h d (List.mem_of_mem_drop hd)
theorem a7K (a b : List Nat) : val (a ++ b) = val a + LB ^ a.length * val b := by
 induction a with
 | nil => simp [val]
 | cons d a ih =>
  simp only [List.cons_append, val, ih, List.length_cons]
  rw [Nat.mul_add, ← Nat.mul_assoc, ← Nat.pow_succ', Nat.add_assoc]
theorem a1d {l : List Nat} (h : Lim l) : val l < LB ^ l.length := by
 induction l with
 | nil => simp [val]
 | cons d l ih =>
  have h' := d1X.1 h
  have := ih h'.2
  simp only [val, List.length_cons, Nat.pow_succ']
  have h1 : LB * (val l + 1) ≤ LB * LB ^ l.length := Nat.mul_le_mul_left _ this
  rw [Nat.mul_add, Nat.mul_one] at h1
  have := h'.1
  omega
theorem b5V (n : Nat) : val (List.replicate n 0) = 0 := by
 induction n with
 | zero => rfl
 | succ n ih => simp [List.replicate_succ, val, ih]
theorem a7X : ∀ {l : List Nat}, Lim l → (l.getLast?).getD 1 ≠ 0 → limbs (val l) = l
 | [], _, _ => a0J
 | d :: l, h, hl => by
  obtain ⟨h1, h2⟩ := d1X.1 h
  have hl' : (l.getLast?).getD 1 ≠ 0 := by
   cases l with
   | nil => simp
   | cons e l => simpa [List.getLast?_cons_cons] using hl
  have hne : val (d :: l) ≠ 0 := by
   intro h0
   simp only [val] at h0
   have hd : d = 0 := by omega
   have hv : val l = 0 := by
    have : LB * val l = 0 := by omega
    rcases Nat.mul_eq_zero.1 this with h | h
    ·exact absurd h (by decide)
    ·exact h
   have := a7X h2 hl'
   rw [hv, a0J] at this
   subst this
   subst hd
   simp at hl
  rw [a6a hne]
  simp only [val]
  rw [Nat.add_mul_mod_self_left, Nat.mod_eq_of_lt h1, Nat.add_mul_div_left _ _ (by decide), Nat.div_eq_of_lt h1, Nat.zero_add, a7X h2 hl']
theorem a5z (n : Nat) : ((limbs n).getLast?).getD 1 ≠ 0 := by
 induction n using Nat.strongRecOn with
 | _ n ih =>
  by_cases h : n = 0
  ·subst h; rw [a0J]; simp
  ·rw [a6a h]
   have := ih (n / LB) (Nat.div_lt_self (by omega) (by decide))
   cases hq : limbs (n / LB) with
   | nil =>
    have h0 : n / LB = 0 := by
     have := a0a (n / LB)
     rw [hq] at this
     exact this.symm
    have : n % LB = n := Nat.mod_eq_of_lt (by
     rcases Nat.lt_or_ge n LB with h' | h'
     ·exact h'
     ·have := Nat.div_pos h' (by decide); omega)
    simp [this, h]
   | cons e l =>
    rw [hq] at this
    simpa [List.getLast?_cons_cons] using this
theorem a0l {n k : Nat} (h : n < LB ^ k) : (limbs n).length ≤ k := by
 induction k generalizing n with
 | zero =>
  have : n = 0 := by simpa using h
  subst this; rw [a0J]; simp
 | succ k ih =>
  by_cases h0 : n = 0
  ·subst h0; rw [a0J]; simp
  ·rw [a6a h0, List.length_cons]
   have : n / LB < LB ^ k := by
    rw [Nat.div_lt_iff_lt_mul (by decide)]
    rwa [Nat.pow_succ] at h
   have := ih this
   omega
theorem d4W {n : Nat} (h : limbs n ≠ []) : LB ^ ((limbs n).length - 1) ≤ n := by
 induction n using Nat.strongRecOn with
 | _ n ih =>
  by_cases h0 : n = 0
  ·subst h0; rw [a0J] at h; simp at h
  ·rw [a6a h0, List.length_cons, Nat.add_sub_cancel]
   by_cases hq : limbs (n / LB) = []
   ·rw [hq]; simp; omega
   ·have := ih (n / LB) (Nat.div_lt_self (by omega) (by decide)) hq
    have hl : 0 < (limbs (n / LB)).length := List.length_pos_iff.2 hq
    have h1 : LB ^ (limbs (n / LB)).length = LB ^ ((limbs (n / LB)).length - 1) * LB := by
     rw [← Nat.pow_succ]; congr 1; omega
    rw [h1]
    exact Nat.le_trans (Nat.mul_le_mul_right _ this) (Nat.div_mul_le_self n LB)
theorem e1S (l : List Nat) : val (l ++ [0]) = val l := by rw [a7K]; simp [val]
theorem a2H (l : List Nat) (d : Nat) : val (l ++ [d]) = val l + LB ^ l.length * d := by rw [a7K]; simp [val]
theorem d0U {l : List Nat} {i : Nat} (h : i < l.length) : val (l.take (i + 1)) = val (l.take i) + LB ^ i * l[i] := by
 rw [List.take_succ_eq_append_getElem h, a2H, List.length_take, Nat.min_eq_left (by omega)]
theorem a0L {l : List Nat} (h : Lim l) (i : Nat) : l.getD i 0 < LB := by
 rw [List.getD_eq_getElem?_getD]
 rcases Nat.lt_or_ge i l.length with hi | hi
 ·rw [List.getElem?_eq_getElem hi, Option.getD_some]; exact h _ (List.getElem_mem hi)
 ·rw [List.getElem?_eq_none hi]; decide
theorem a0k (l : List Nat) (i : Nat) : val (l.take (i + 1)) = val (l.take i) + LB ^ i * l.getD i 0 := by
 rcases Nat.lt_or_ge i l.length with h | h
 ·rw [d0U h, List.getD_eq_getElem?_getD, List.getElem?_eq_getElem h, Option.getD_some]
 ·rw [List.take_of_length_le (by omega), List.take_of_length_le h, List.getD_eq_getElem?_getD, List.getElem?_eq_none h]; simp
theorem a5g (i : Nat) : 0 < LB ^ i := Nat.pow_pos (by decide)
theorem b5W {a b : List Nat} {i : Nat} (ha : Lim a) (hb : Lim b) (h : a.drop (i + 1) = b.drop (i + 1)) (hi : i < a.length) (hi' : i < b.length) (hl : a.length = b.length) (hlt : a.getD i 0 < b.getD i 0) : val a < val b := by
 have e1 : a = a.take (i + 1) ++ a.drop (i + 1) := (List.take_append_drop _ _).symm
 have e2 : b = b.take (i + 1) ++ b.drop (i + 1) := (List.take_append_drop _ _).symm
 rw [e1, e2, a7K, a7K, h, a0k, a0k]
 have l1 : (a.take (i + 1)).length = i + 1 := by rw [List.length_take]; omega
 have l2 : (b.take (i + 1)).length = i + 1 := by rw [List.length_take]; omega
 rw [l1, l2]
 have h1 := a1d (ha.take i)
 rw [List.length_take, Nat.min_eq_left (by omega)] at h1
 have h2 : LB ^ i * (a.getD i 0 + 1) ≤ LB ^ i * b.getD i 0 := Nat.mul_le_mul_left _ hlt
 rw [Nat.mul_add] at h2
 omega
def blen (n : Nat) : Nat := if n = 0 then 0 else Nat.log2 n + 1
theorem d5S : blen 0 = 0 := rfl
theorem d2B (n : Nat) : n < 2 ^ blen n := by
 unfold blen
 split
 ·rename_i h; subst h; decide
 ·exact Nat.lt_log2_self
theorem c0f {n : Nat} (h : n ≠ 0) : 2 ^ (blen n - 1) ≤ n := by
 unfold blen
 rw [if_neg h, Nat.add_sub_cancel]
 exact Nat.log2_self_le h
theorem f0q {n k : Nat} (h1 : n < 2 ^ k) (h2 : k = 0 ∨ 2 ^ (k - 1) ≤ n) : blen n = k := by
 by_cases h0 : n = 0
 ·subst h0
  rcases h2 with h2 | h2
  ·rw [h2]; rfl
  ·have := Nat.pow_pos (n := k - 1) (show 0 < 2 by decide); omega
 ·have a := d2B n
  have b := c0f h0
  have c : 0 < blen n := by unfold blen; rw [if_neg h0]; omega
  have d : blen n - 1 < k := (Nat.pow_lt_pow_iff_right (by decide)).1 (Nat.lt_of_le_of_lt b h1)
  have e : k - 1 < blen n := by
   rcases h2 with h2 | h2
   ·omega
   ·exact (Nat.pow_lt_pow_iff_right (by decide)).1 (Nat.lt_of_le_of_lt h2 a)
  omega
theorem d9m {h k r : Nat} (hh : h ≠ 0) (hr : r < 2 ^ k) : blen (r + 2 ^ k * h) = k + blen h := by
 have a := d2B h
 have b := c0f hh
 have c : 0 < blen h := by unfold blen; rw [if_neg hh]; omega
 refine f0q ?_ (.inr ?_)
 ·rw [Nat.pow_add]
  have : 2 ^ k * (h + 1) ≤ 2 ^ k * 2 ^ blen h := Nat.mul_le_mul_left _ a
  rw [Nat.mul_add] at this
  omega
 ·rw [show k + blen h - 1 = k + (blen h - 1) by omega, Nat.pow_add]
  have : 2 ^ k * 2 ^ (blen h - 1) ≤ 2 ^ k * h := Nat.mul_le_mul_left _ b
  omega
theorem d2C {n k : Nat} (h : 2 ^ k ≤ n) : blen n = k + blen (n / 2 ^ k) := by
 have hp : 0 < 2 ^ k := Nat.pow_pos (by decide)
 have h0 : n / 2 ^ k ≠ 0 := by
  have := Nat.div_pos h hp; omega
 have := d9m (r := n % 2 ^ k) h0 (Nat.mod_lt _ hp)
 rwa [Nat.mod_add_div] at this
theorem e3t (i : Nat) : LB ^ i = 2 ^ (32 * i) := by rw [Nat.pow_mul]
theorem c0e {l : List Nat} {d : Nat} (hl : Lim l) (hd : d ≠ 0) : blen (val (l ++ [d])) = 32 * l.length + blen d := by
 rw [a2H, e3t]
 exact d9m hd (by rw [← e3t]; exact a1d hl)
theorem a0X {l : List Nat} (h : Lim l) : (limbs (val l)).length ≤ l.length := a0l (a1d h)
structure Nt (l : List Nat) : Prop where
 lim : Lim l
 len : l.length ≤ 17592186044416
theorem Nt.limbs {l : List Nat} (h : Nt l) : Nt (limbs (val l)) := ⟨a0b _, Nat.le_trans (a0X h.lim) h.len⟩
theorem c4K (x : List Nat) (k d : Nat) : (x ++ List.replicate (k + 1) 0).set x.length d = (x ++ [d]) ++ List.replicate k 0 := by
 rw [List.set_append_right _ _ (Nat.le_refl _), Nat.sub_self, List.replicate_succ, List.set_cons_zero]; simp
theorem d1a {vd pa pb B c x y i : Nat} (h : vd + B * c = pa + pb) : (vd + B * ((c + x + y) % LB)) + (B * LB) * ((c + x + y) / LB) = (pa + B * x) + (pb + B * y) := by
 have e : (c + x + y) % LB + LB * ((c + x + y) / LB) = c + x + y := Nat.mod_add_div _ _
 have e2 : B * ((c + x + y) % LB) + (B * LB) * ((c + x + y) / LB) = B * (c + x + y) := by rw [Nat.mul_assoc, ← Nat.mul_add, e]
 have e3 : B * (c + x + y) = B * c + B * x + B * y := by rw [Nat.mul_add, Nat.mul_add]
 omega
theorem a1u {x : List Nat} {d : Nat} (h : Lim x) (hd : d < LB) : Lim (x ++ [d]) := b9M.2 ⟨h, by intro e he; simp at he; omega⟩
theorem e1T {w : List Nat} {k d : Nat} (h : k < w.length) : val (w.set k d) + LB ^ k * w.getD k 0 = val w + LB ^ k * d := by
 induction w generalizing k with
 | nil => simp at h
 | cons e w ih =>
  cases k with
  | zero => simp only [List.set_cons_zero, val, Nat.pow_zero, Nat.one_mul, List.getD_cons_zero]; omega
  | succ k =>
   simp only [List.set_cons_succ, val, List.getD_cons_succ, Nat.pow_succ']
   have := ih (k := k) (by simpa using h)
   have e1 : LB * (val (w.set k d) + LB ^ k * w.getD k 0) = LB * (val w + LB ^ k * d) := by rw [this]
   rw [Nat.mul_add, Nat.mul_add, ← Nat.mul_assoc, ← Nat.mul_assoc] at e1
   omega
theorem e3p {w : List Nat} {k d : Nat} (h : Lim w) (hd : d < LB) : Lim (w.set k d) := by
 intro e he
 rcases List.mem_or_eq_of_mem_set he with h' | h'
 ·exact h e h'
 ·rw [h']; exact hd
theorem d4X {vx va vb B bo bo' d x y : Nat} (h : va + B * bo = vx + vb) (hd : x + LB * bo' = d + bo + y) : (va + B * x) + (B * LB) * bo' = (vx + B * d) + (vb + B * y) := by
 have e : B * (x + LB * bo') = B * (d + bo + y) := by rw [hd]
 rw [Nat.mul_add, Nat.mul_add, Nat.mul_add, ← Nat.mul_assoc] at e
 omega
theorem d8M {vw vx A B C c x y q vb vs t : Nat} (hC : C = A * B) (h : vw + C * c = vx + A * (x * vb)) (hs : vs + C * q = vw + C * (t % LB)) (ht : t = c + x * y + q) :
  vs + (C * LB) * (t / LB) = vx + A * (x * (vb + B * y)) := by
 have e : t % LB + LB * (t / LB) = t := Nat.mod_add_div _ _
 have e1 : C * (t % LB) + (C * LB) * (t / LB) = C * t := by rw [Nat.mul_assoc, ← Nat.mul_add, e]
 have e2 : C * t = C * c + C * (x * y) + C * q := by rw [ht, Nat.mul_add, Nat.mul_add]
 have e3 : A * (x * (vb + B * y)) = A * (x * vb) + C * (x * y) := by
  rw [hC, Nat.mul_add, Nat.mul_add, Nat.mul_assoc A B, Nat.mul_left_comm B x y]
 omega
theorem d8N {c x y q : Nat} (hc : c < LB) (hx : x < LB) (hy : y < LB) (hq : q < LB) : c + x * y + q < LB * LB := by
 have : x * y ≤ (LB - 1) * (LB - 1) := Nat.mul_le_mul (by omega) (by omega)
 have e : (LB - 1) * (LB - 1) + (LB - 1) + (LB - 1) < LB * LB := by decide
 omega
theorem c4A : ∀ {a b : List Nat}, (∀ i, a.getD i 0 = b.getD i 0) → val a = val b
 | [], [], _ => rfl
 | [], e :: b, h => by
  have h0 : 0 = e := by simpa using h 0
  have := c4A (a := []) (b := b) fun i => by simpa using h (i + 1)
  simp only [val] at this ⊢
  rw [← h0, ← this, Nat.mul_zero]
 | d :: a, [], h => by
  have h0 : d = 0 := by simpa using h 0
  have := c4A (a := a) (b := []) fun i => by simpa using h (i + 1)
  simp only [val] at this ⊢
  rw [h0, this, Nat.mul_zero]
 | d :: a, e :: b, h => by
  have h0 : d = e := by simpa using h 0
  have := c4A (a := a) (b := b) fun i => by simpa using h (i + 1)
  simp only [val, h0, this]
theorem c6L (a : List Nat) (n i : Nat) : (a.drop n).getD i 0 = a.getD (n + i) 0 := by simp [List.getD_eq_getElem?_getD, List.getElem?_drop]
theorem a3A (a : List Nat) (n : Nat) : val a = val (a.take n) + LB ^ n * val (a.drop n) := by
 rcases Nat.lt_or_ge a.length n with h | h
 ·rw [List.take_of_length_le (by omega), List.drop_of_length_le (by omega)]; simp [val]
 ·have := a7K (a.take n) (a.drop n)
  rwa [List.take_append_drop, List.length_take, Nat.min_eq_left h] at this
theorem a3c {a : List Nat} (h : Lim a) (n : Nat) : val (a.take n) < LB ^ n := by
 have h1 := a1d (h.take n)
 have h2 : LB ^ (a.take n).length ≤ LB ^ n := Nat.pow_le_pow_right (by decide) (by rw [List.length_take]; omega)
 omega
theorem b0G {a b : List Nat} {i : Nat} (ha : Lim a) (hb : Lim b) (h : ∀ j, i < j → a.getD j 0 = b.getD j 0) (hlt : a.getD i 0 < b.getD i 0) : val a < val b := by
 have e : val (a.drop (i + 1)) = val (b.drop (i + 1)) := c4A fun j => by rw [c6L, c6L]; exact h _ (by omega)
 rw [a3A a (i + 1), a3A b (i + 1), e, a0k, a0k]
 have h1 := a3c ha i
 have h2 : LB ^ i * (a.getD i 0 + 1) ≤ LB ^ i * b.getD i 0 := Nat.mul_le_mul_left _ hlt
 rw [Nat.mul_add] at h2
 omega
theorem a6K {a : List Nat} {i : Nat} (h : a.length ≤ i) : a.getD i 0 = 0 := by rw [List.getD_eq_getElem?_getD, List.getElem?_eq_none h]; rfl
theorem a7N {l : List Nat} {i : Nat} (h : i < l.length) : l.take (i + 1) = l.take i ++ [l.getD i 0] := by
 rw [List.take_succ_eq_append_getElem h, List.getD_eq_getElem?_getD, List.getElem?_eq_getElem h, Option.getD_some]
end Go.Abs
namespace Go.Abs
def u32s (l : List Nat) : List AV := l.map fun n : Nat => .int .u32 (n : Int)
def natV (l : List Nat) : AV := .sl 1 (u32s l)
theorem a0D (l : List Nat) : (u32s l).length = l.length := by simp [u32s]
theorem c4C (a b : List Nat) : u32s (a ++ b) = u32s a ++ u32s b := by simp [u32s]
theorem e5j : u32s [] = [] := rfl
theorem c4B (d : Nat) (l : List Nat) : u32s (d :: l) = .int .u32 (d : Int) :: u32s l := rfl
theorem b5X (l : List Nat) (n : Nat) : (u32s l).take n = u32s (l.take n) := by simp [u32s, List.map_take]
theorem c3J (l : List Nat) (i d : Nat) : (u32s l).set i (.int .u32 (d : Int)) = u32s (l.set i d) := by simp [u32s, List.map_set]
theorem b0H {l : List Nat} {i : Nat} (h : i < l.length) : (u32s l).getD i .top = .int .u32 (l.getD i 0 : Nat) := by
 simp [u32s, h]
theorem e1W (l : List Nat) : (u32s l).flatMap AV.cells = u32s l := by
 induction l with
 | nil => rfl
 | cons d l ih => rw [c4B, List.flatMap_cons, ih]; rfl
theorem e5i (n : Nat) : List.replicate n (AV.int .u32 0) = u32s (List.replicate n 0) := by simp [u32s]
theorem e1X {l : List Nat} {a : AV} (h : a ∈ u32s l) : Cl a := by
 obtain ⟨n, _, rfl⟩ := List.mem_map.1 h; exact .int _ _
theorem a8n {l : List Nat} {a : AV} (h : a ∈ (u32s l).flatMap AV.cells) : Cl a := by rw [e1W] at h; exact e1X h
theorem a0F (l : List Nat) : ∀ a ∈ (Blk.mk 1 (u32s l)).flat, Cl a := fun a h => a8n h
theorem a0V (l : List Nat) : Cl (natV l) := .sl 1 _ fun c h => a8n h
theorem e0R (l : List Nat) : (natV l).cells = [natV l] := rfl
theorem e5V (l : List Nat) : (natV l).fit = true := rfl
theorem d4M (id : Nat) (l : List Nat) : nref id (natV l) = true := a0y (a0V l)
theorem e5W (l : List Nat) : clb (natV l) = true := c3u (a0V l)
theorem e5U (id : Nat) (b : Blk) (l : List Nat) : frz id b (natV l) = natV l := a3v (a0V l)
theorem e2Y (id : Nat) (b : Blk) (l : List Nat) : (u32s l).map (frz id b) = u32s l := by
 rw [List.map_congr_left (g := fun x => x) fun a h => a3v (e1X h)]; simp
theorem a6C (H : Heap) (l : List Nat) : lenV H (natV l) = some (.int .i64 l.length) := by simp [natV, d7F, a0D]
theorem b7H (H : Heap) (l : List Nat) : a0Q H 1 false (natV l) = some (u32s l) := a1f H 1 _
theorem a0E (H : Heap) (l : List Nat) (k : IntKind) (i : Nat) (h : i < l.length) : idxV H 1 (natV l) (.int k i) = some (.ro (.int .u32 (l.getD i 0 : Nat)) 0) := by
 rw [natV, e3E _ _ _ _ _ (by omega) (by rw [a0D]; omega)]
 rw [Int.toNat_natCast, b0H h]
theorem e5T (H : Heap) (l : List Nat) (k : IntKind) (n : Nat) (h : n ≤ l.length) : slcV H 1 (natV l) none (some (.int k n)) none = some (natV (l.take n)) := by
 simp only [natV, slcV, a3V, Option.bind_some, a0D]
 rw [if_pos ⟨trivial, by omega, by omega, by omega⟩]
 simp [b5X]
theorem f1s (H L : Heap) (i off len : Nat) (oc : Option Nat) {b : Blk} (h : L[i]? = some (some b)) : lenV (hap H L) (.mu (lid H i) off len oc) = some (.int .i64 len) := by
 rw [c6C, a0I, h]; simp
theorem b1p (H L : Heap) (wd i off len : Nat) (oc : Option Nat) (k : IntKind) (j : Nat) {b : Blk} (h : L[i]? = some (some b)) (hw : b.wd = wd) (hj : j < len) :
  idxV (hap H L) wd (.mu (lid H i) off len oc) (.int k j) = some (.loc (lid H i) (off + j) 0) := by
 rw [c6H _ _ _ _ _ _ _ _ (by omega) (by omega), a0I, h]; simp [hw]
theorem a4r (H L : Heap) (i k : Nat) {b : Blk} (h : L[i]? = some (some b)) (hk : k < b.xs.length) : atV (hap H L) (.loc (lid H i) k 0) = some (b.xs.getD k .top).cells := by
 rw [b2u, a0I, h]; simp [hk]
theorem a3z {n : Int} (h0 : 0 ≤ n) (h1 : n < 4294967296) : IntKind.wrap .u32 n = n := by
 simp [IntKind.wrap, IntKind.bits, IntKind.signed]; omega
theorem a0H {n : Int} (h0 : 0 ≤ n) (h1 : n < 18446744073709551616) : IntKind.wrap .u64 n = n := by
 simp [IntKind.wrap, IntKind.bits, IntKind.signed]; omega
theorem a0c {n : Int} (h0 : -9223372036854775808 ≤ n) (h1 : n < 9223372036854775808) : IntKind.wrap .i64 n = n := by
 simp [IntKind.wrap, IntKind.bits, IntKind.signed]; omega
theorem a1W (n : Nat) : IntKind.wrap .u32 (n : Int) = ((n % LB : Nat) : Int) := by
 simp [IntKind.wrap, IntKind.bits, IntKind.signed]
theorem a1l (n : Int) : IntKind.wrap .u64 n = n % 18446744073709551616 := by
 simp [IntKind.wrap, IntKind.bits, IntKind.signed]
theorem c7L (n0 : Nat) (env : Env) (H L : Heap) (l : List Nat) (h : l.length ≤ 17592186044416) :
  appV n0 1 4 false .nil (natV l) env (hap H L) = some (.mu (lid H L.length) 0 l.length none, env, hap H (L ++ [some ⟨1, u32s l⟩])) := by
 have := a9I n0 env H L 1 4 false (natV l) (u32s l) (b7H _ l) (by decide) (by rw [a0D]; omega) (by rw [a0D]; omega)
 rwa [a0D] at this
theorem d8m (n0 : Nat) (env : Env) (H L : Heap) (i len : Nat) (oc : Option Nat) (y : AV) (xs l : List Nat) (hH : a0C H) (hl : L[i]? = some (some ⟨1, u32s xs⟩)) (hlen : len = xs.length) (hn : n0 ≤ lid H i) (ha : e5b H L i)
  (hy : a0Q (hap H L) 1 false y = some (u32s l)) (hb : xs.length + l.length ≤ 35184372088832) (hoc : (oc.any fun c => decide (len + l.length ≤ c)) = false := by rfl) :
  appV n0 1 4 false (.mu (lid H i) 0 len oc) y env (hap H L) = some (.mu (lid H i) 0 (len + l.length) (a1c oc (len + l.length)), scrub (lid H i) env, hap H (L.set i (some ⟨1, u32s (xs ++ l)⟩))) := by
 have := c4f n0 env H L 1 4 false i len oc y (u32s xs) (u32s l) hH hl (by rw [a0D]; exact hlen) hn hy ha (fun a h => (a8n h).ref) (by rw [a0D]; omega) (by rw [a0D]; omega) (by rw [a0D]; exact hoc)
 rwa [a0D, ← c4C] at this
theorem a7Z (H : Heap) (i : Nat) (l : List Nat) (oc : Option Nat) : frz (lid H i) ⟨1, u32s l⟩ (.mu (lid H i) 0 l.length oc) = natV l := by
 rw [c6Q _ _ _ _ _ (by rw [a0D])]; rfl
def EN := And.intro @a6C (And.intro @a7Z (And.intro @e2Y (And.intro @d4M (And.intro @e5W (And.intro @e0R (And.intro @e5V (And.intro @e5U (And.intro @b7H @a0D))))))))
theorem e9d (H : Heap) (X : Blk) (len : Nat) (oc : Option Nat) : lenV (hap H [some X]) (.mu (lid H 0) 0 len oc) = some (.int .i64 len) := f1s H [some X] 0 0 len oc rfl
theorem a8Z (H : Heap) (X : List AV) (wd len : Nat) (oc : Option Nat) (k : IntKind) (j : Nat) (h : j < len) : idxV (hap H [some ⟨wd, X⟩]) wd (.mu (lid H 0) 0 len oc) (.int k j) = some (.loc (lid H 0) j 0) := by
 rw [b1p H [some ⟨wd, X⟩] wd 0 0 len oc k j rfl rfl h, Nat.zero_add]
theorem e7O (H : Heap) (x : List Nat) (j : Nat) (h : j < x.length) : atV (hap H [some ⟨1, u32s x⟩]) (.loc (lid H 0) j 0) = some [.int .u32 (x.getD j 0 : Nat)] := by
 rw [a4r H [some ⟨1, u32s x⟩] 0 j rfl (by simpa [a0D] using h)]
 simp only [b0H h, AV.cells]
theorem c5d (H : Heap) (env : Env) (x : List Nat) (j d : Nat) (h : j < x.length) : a2s 1 (.loc (lid H 0) j 0) (.int .u32 (d : Int)) env (hap H [some ⟨1, u32s x⟩]) = some (.top, env, hap H [some ⟨1, u32s (x.set j d)⟩]) := by
 rw [a7O env H [some ⟨1, u32s x⟩] 1 0 j 0 _ rfl (by simpa [a0D] using h) rfl rfl (Nat.le_refl 1)]
 simp only [a3B, c3J, List.set_cons_zero]
theorem b2H (env : Env) (H L : Heap) (k k' : IntKind) (n : Nat) (h : n ≤ 35184372088832) : c6b 1 4 (.int .u32 0) (.int k n) (.int k' n) env (hap H L) = some (.mu (lid H L.length) 0 n (some n), env, hap H (L ++ [some ⟨1, u32s (List.replicate n 0)⟩])) := by
 rw [b7J env H L 1 4 _ k k' n n (by decide) (Nat.le_refl _) (by omega) (by omega), e5i]
theorem b5T (n : Int) : IntKind.wrap .u32 n = n % 4294967296 := by
 simp [IntKind.wrap, IntKind.bits, IntKind.signed]
theorem e8E (t : Nat) : Int.fdiv (t : Int) (2 ^ min (Int.toNat 32) IntKind.u64.bits) = ((t / LB : Nat) : Int) := by
 rw [show (2 : Int) ^ min (Int.toNat 32) IntKind.u64.bits = (LB : Int) by decide, Int.fdiv_eq_ediv_of_nonneg _ (by decide)]; rfl
theorem c5e (H : Heap) (hH : a0C H) (n0 : Nat) (hn : n0 ≤ lid H 0) (env : Env) (x : List Nat) (d : Nat) (hb : x.length < 35184372088832) :
  appV n0 1 4 false (.mu (lid H 0) 0 x.length none) (.sl 1 [.int .u32 (d : Int)]) env (hap H [some ⟨1, u32s x⟩]) = some (.mu (lid H 0) 0 (x.length + 1) none, scrub (lid H 0) env, hap H [some ⟨1, u32s (x ++ [d])⟩]) := by
 have := d8m n0 env H [some ⟨1, u32s x⟩] 0 x.length none (.sl 1 [.int .u32 (d : Int)]) x [d] hH rfl rfl hn (c4d fun b hb a ha => by
  simp at hb; subst hb; exact a0F x a ha) (a1f _ 1 _) (by simp; omega)
 simpa [a1c] using this
theorem e2C (t : Nat) : binV .rem (.int .u64 (t : Int)) (.int .u64 4294967296) = some (.int .u64 ((t % LB : Nat) : Int)) := by
 rw [d2D _ _ _ (by decide), Int.tmod_eq_emod_of_nonneg (by omega)]; rfl
theorem e7N (t : Nat) (h : t < 18446744073709551616) : binV .quo (.int .u64 (t : Int)) (.int .u64 4294967296) = some (.int .u64 ((t / LB : Nat) : Int)) := by
 have hLB : LB = 4294967296 := rfl
 rw [c4b _ _ _ (by decide), Int.tdiv_eq_ediv_of_nonneg (by omega)]
 have : (t : Int) / 4294967296 = ((t / LB : Nat) : Int) := rfl
 rw [this, a0H (by omega) (by omega)]
def E1 := And.intro EV (And.intro EVC EN)
end Go.Abs
namespace Go.Abs
def sgn (neg : Bool) (n : Nat) : Int := if neg then -(n : Int) else n
structure ZI where
 neg : Bool
 mag : List Nat
def ZI.av (x : ZI) : AV := .agg [.bool x.neg, natV x.mag]
def ZI.z (x : ZI) : Int := sgn x.neg (val x.mag)
def canZ (z : Int) : ZI := ⟨decide (z < 0), limbs z.natAbs⟩
def Z (z : Int) : AV := .agg [.bool (decide (z < 0)), natV (limbs z.natAbs)]
theorem a2p (z : Int) : (canZ z).av = Z z := rfl
theorem a0x (z : Int) : (canZ z).z = z := by
 unfold canZ ZI.z sgn
 simp only [a0a, decide_eq_true_eq]
 split <;> omega
theorem f0A (neg : Bool) (n : Nat) : .agg [.bool (neg && decide (0 < n)), natV (limbs n)] = Z (sgn neg n) := by
 unfold Z sgn
 cases neg
 ·simp <;> omega
 ·rcases Nat.eq_zero_or_pos n with h | h
  ·subst h; simp
  ·simp [h]
theorem c3K (neg : Bool) : sgn neg 0 = 0 := by cases neg <;> rfl
theorem b4Q (neg : Bool) (n : Nat) : (sgn neg n).natAbs = n := by cases neg <;> simp [sgn]
theorem Z_cl (z : Int) : Cl (Z z) := .agg _ (by intro c hc; simp at hc; rcases hc with rfl | rfl; exact .bool _; exact a0V _)
theorem ZI.cl (x : ZI) : Cl x.av := .agg _ (by intro c hc; simp at hc; rcases hc with rfl | rfl; exact .bool _; exact a0V _)
theorem e4R : Z 0 = .agg [.bool false, natV []] := by unfold Z; simp [a0J]
theorem le_zero : Le (.agg [.bool false, .nil]) (Z 0) := by rw [e4R]; exact Le.agg2 (Le.refl _) (Le.nil 1 (by decide))
structure Zok (k : Nat) (x : ZI) : Prop where
 lim : Lim x.mag
 len : x.mag.length ≤ k
theorem Zok.mono {k m : Nat} {x : ZI} (h : Zok k x) (hk : k ≤ m) : Zok m x := ⟨h.lim, Nat.le_trans h.len hk⟩
theorem Zok.lt {k : Nat} {x : ZI} (h : Zok k x) : val x.mag < LB ^ k := by
 have h1 := a1d h.lim
 have h2 : LB ^ x.mag.length ≤ LB ^ k := Nat.pow_le_pow_right (by decide) h.len
 omega
theorem Zok.abs {k : Nat} {x : ZI} (h : Zok k x) : x.z.natAbs < LB ^ k := by unfold ZI.z; rw [b4Q]; exact h.lt
theorem a0q {k : Nat} {z : Int} (h : z.natAbs < LB ^ k) : Zok k (canZ z) := ⟨a0b _, a0l h⟩
section
variable (n0 : Nat) (env : Env) (H L : Heap)
def cpyV (wd : Nat) (x y : AV) (env : Env) (H : Heap) : Option (AV × Env × Heap) := (a0Q H wd false y).bind fun ys => match x with
   | .mu id off len _ => (hrow H id).bind fun r =>
     if r.wd = wd ∧ off + len ≤ r.xs.length then
      some (.int .i64 (min ys.length len : Nat), env, H.set id (some ⟨wd, r.xs.take off ++ ys.take (min ys.length len) ++ r.xs.drop (off + min ys.length len)⟩)) else none
   | _ => none
theorem f1L (wd : Nat) (a b : Src) : ev n0 (.cpy wd a b) env H = cpyV wd (a.ev env) (b.ev env) env H := by
 simp only [ev, cpyV]; cases a0Q H wd false (b.ev env) <;> simp only [Option.bind_none, Option.bind_some]; split <;> simp_all
theorem d9i (wd i len : Nat) (oc : Option Nat) (y : AV) (xs ys : List AV) (hl : L[i]? = some (some ⟨wd, xs⟩)) (hlen : len = xs.length) (hy : a0Q (hap H L) wd false y = some ys) (hle : len ≤ ys.length) :
  cpyV wd (.mu (lid H i) 0 len oc) y env (hap H L) = some (.int .i64 len, env, hap H (L.set i (some ⟨wd, ys.take len⟩))) := by
 subst hlen
 simp only [cpyV, hy, Option.bind_some, a0I, hl, Option.join_some, a2P]
 rw [if_pos ⟨trivial, by omega⟩]
 simp [Nat.min_eq_right hle]
end
def EI := @f1L
def E2 := And.intro @EV2 (And.intro @EI @E1)
end Go.Abs
namespace Go.Abs
theorem ZI.av_fit (x : ZI) : x.av.fit = true := rfl
theorem ZI.av_cells (x : ZI) : x.av.cells = [.bool x.neg, natV x.mag] := rfl
theorem ZI.av_nref (id : Nat) (x : ZI) : nref id x.av = true := a0y x.cl
theorem ZI.av_frz (id : Nat) (b : Blk) (x : ZI) : frz id b x.av = x.av := a3v x.cl
theorem f0C (z : Int) : (Z z).cells = [.bool (decide (z < 0)), natV (limbs z.natAbs)] := rfl
theorem f1Y (z : Int) : (Z z).fit = true := rfl
theorem e8k (id : Nat) (z : Int) : nref id (Z z) = true := a0y (Z_cl z)
theorem f0B (id : Nat) (b : Blk) (z : Int) : frz id b (Z z) = Z z := a3v (Z_cl z)
def vecV (v : List ZI) : AV := .sl 2 (v.map ZI.av)
def matV (b : List (List ZI)) : AV := .sl 1 (b.map vecV)
theorem a3f {a : AV} (h : Cl a) : ∀ c ∈ a.cells, Cl c := by
 intro c hc
 cases a with
 | agg cs => cases h with | agg _ h => exact h c hc
 | mo l => cases h
 | io i n s => cases h
 | _ => simp [AV.cells] at hc; subst hc; exact h
theorem f1S {α : Type} (wd : Nat) (f : α → AV) (l : List α) (h : ∀ x, Cl (f x)) : Cl (.sl wd (l.map f)) := by
 refine .sl wd _ fun c hc => ?_
 obtain ⟨x, hx, hc⟩ := List.mem_flatMap.1 hc
 obtain ⟨y, _, rfl⟩ := List.mem_map.1 hx
 exact a3f (h y) c hc
theorem a0g (v : List ZI) : Cl (vecV v) := f1S 2 _ v ZI.cl
theorem a2g (b : List (List ZI)) : Cl (matV b) := f1S 1 _ b a0g
theorem d9I (v : List ZI) : (vecV v).cells = [vecV v] := rfl
theorem e5e (v : List ZI) : (vecV v).fit = true := rfl
theorem e1R (id : Nat) (v : List ZI) : nref id (vecV v) = true := a0y (a0g v)
theorem e5f (v : List ZI) : clb (vecV v) = true := c3u (a0g v)
theorem e5d (id : Nat) (b : Blk) (v : List ZI) : frz id b (vecV v) = vecV v := a3v (a0g v)
theorem e1f (v : List (List ZI)) : (matV v).cells = [matV v] := rfl
theorem e6a (v : List (List ZI)) : (matV v).fit = true := rfl
theorem a7W (id : Nat) (v : List (List ZI)) : nref id (matV v) = true := a0y (a2g v)
theorem e6b (v : List (List ZI)) : clb (matV v) = true := c3u (a2g v)
theorem e5Z (id : Nat) (b : Blk) (v : List (List ZI)) : frz id b (matV v) = matV v := a3v (a2g v)
section
variable (H : Heap)
theorem e2i {α : Type} (wd : Nat) (f : α → AV) (l : List α) : lenV H (.sl wd (l.map f)) = some (.int .i64 l.length) := by rw [d7F, List.length_map]
theorem e2j {α : Type} (wd : Nat) (f : α → AV) (l : List α) (k : IntKind) (i : Nat) (h : i < l.length) : idxV H wd (.sl wd (l.map f)) (.int k i) = some (.ro (f l[i]) 0) := by
 rw [e3E _ _ _ _ _ (by omega) (by rw [List.length_map]; omega)]
 simp [h]
theorem b4N (v : List ZI) : lenV H (vecV v) = some (.int .i64 v.length) := e2i H 2 _ v
theorem a4a (v : List ZI) (k : IntKind) (i : Nat) (h : i < v.length) : idxV H 2 (vecV v) (.int k i) = some (.ro v[i].av 0) := e2j H 2 _ v k i h
theorem b9F (v : List (List ZI)) : lenV H (matV v) = some (.int .i64 v.length) := e2i H 1 _ v
theorem a1r (v : List (List ZI)) (k : IntKind) (i : Nat) (h : i < v.length) : idxV H 1 (matV v) (.int k i) = some (.ro (vecV v[i]) 0) := e2j H 1 _ v k i h
theorem a1t {α : Type} (wd : Nat) (f : α → AV) (l : List α) (h : ∀ x, Cl (f x)) : ∀ a ∈ (Blk.mk wd (l.map f)).flat, Cl a := by
 intro a ha
 obtain ⟨x, hx, hc⟩ := List.mem_flatMap.1 ha
 obtain ⟨y, _, rfl⟩ := List.mem_map.1 hx
 exact a3f (h y) a hc
theorem c6R {α : Type} (id : Nat) (b : Blk) (f : α → AV) (l : List α) (h : ∀ x, Cl (f x)) : (l.map f).map (frz id b) = l.map f := by
 rw [List.map_map]
 exact List.map_congr_left fun x _ => a3v (h x)
theorem d0y {α : Type} (i : Nat) (wd : Nat) (f : α → AV) (l : List α) (oc : Option Nat) : frz (lid H i) ⟨wd, l.map f⟩ (.mu (lid H i) 0 l.length oc) = .sl wd (l.map f) := by
 rw [c6Q _ _ _ _ _ (by rw [List.length_map])]
end
structure Vok (k : Nat) (v : List ZI) : Prop where
 len : v.length ≤ 2097152
 el : ∀ x ∈ v, Zok k x
structure Mok (k : Nat) (b : List (List ZI)) : Prop where
 len : b.length ≤ 2097152
 el : ∀ v ∈ b, Vok k v
theorem Vok.mono {k m : Nat} {v : List ZI} (h : Vok k v) (hk : k ≤ m) : Vok m v := ⟨h.len, fun x hx => (h.el x hx).mono hk⟩
theorem Mok.mono {k m : Nat} {b : List (List ZI)} (h : Mok k b) (hk : k ≤ m) : Mok m b := ⟨h.len, fun x hx => (h.el x hx).mono hk⟩
theorem Vok.get {k : Nat} {v : List ZI} (h : Vok k v) {i : Nat} (hi : i < v.length) : Zok k v[i] := h.el _ (List.getElem_mem hi)
theorem Mok.get {k : Nat} {v : List (List ZI)} (h : Mok k v) {i : Nat} (hi : i < v.length) : Vok k v[i] := h.el _ (List.getElem_mem hi)
theorem d2X : (0 < 2) = True := by decide
def EM := And.intro d2X <| And.intro @b4N (And.intro @b9F (And.intro @d9I (And.intro @e5e (And.intro @e1R (And.intro @e5f (And.intro @e5d (And.intro @e1f (And.intro @e6a (And.intro @a7W (And.intro @e6b (And.intro @e5Z
 (And.intro @ZI.av_fit (And.intro @ZI.av_cells (And.intro @ZI.av_nref (And.intro @ZI.av_frz (And.intro @f0C (And.intro @f1Y (And.intro @e8k @f0B))))))))))))))))))
def zs (v : List ZI) : List Int := v.map ZI.z
def E3 := And.intro EM @E2
end Go.Abs
namespace Go.Abs
def zg (v : List ZI) (i : Nat) : Int := (v.getD i ⟨false, []⟩).z
def mg (b : List (List ZI)) (i : Nat) : List ZI := b.getD i []
theorem c3y {v : List ZI} {i : Nat} (h : i < v.length) : zg v i = v[i].z := by simp [zg, h]
theorem a1F {b : List (List ZI)} {i : Nat} (h : i < b.length) : mg b i = b[i] := by simp [mg, h]
def vec (n : Nat) (f : Nat → Int) : List ZI := (List.range n).map fun i => canZ (f i)
def mat (n : Nat) (f : Nat → List ZI) : List (List ZI) := (List.range n).map f
theorem a0e (n : Nat) (f : Nat → Int) : (vec n f).length = n := by simp [vec]
theorem a0f (n : Nat) (f : Nat → List ZI) : (mat n f).length = n := by simp [mat]
theorem a4n (n : Nat) (f : Nat → Int) : vec (n + 1) f = vec n f ++ [canZ (f n)] := by simp [vec, List.range_succ]
theorem a4q (n : Nat) (f : Nat → List ZI) : mat (n + 1) f = mat n f ++ [f n] := by simp [mat, List.range_succ]
theorem b4O {n : Nat} {f : Nat → Int} {i : Nat} (h : i < (vec n f).length) : (vec n f)[i] = canZ (f i) := by simp [vec]
theorem d1Q {n : Nat} {f : Nat → List ZI} {i : Nat} (h : i < (mat n f).length) : (mat n f)[i] = f i := by simp [mat]
theorem c4z {n : Nat} {f g : Nat → Int} (h : ∀ i, i < n → f i = g i) : vec n f = vec n g :=
 List.map_congr_left fun i hi => by rw [h i (List.mem_range.1 hi)]
theorem d4O {n : Nat} {f g : Nat → List ZI} (h : ∀ i, i < n → f i = g i) : mat n f = mat n g :=
 List.map_congr_left fun i hi => h i (List.mem_range.1 hi)
theorem d2W {n : Nat} {f : Nat → Int} {i : Nat} (h : i < n) : zg (vec n f) i = f i := by
 rw [c3y (by rw [a0e]; exact h), b4O, a0x]
theorem b3J {n : Nat} {f : Nat → List ZI} {i : Nat} (h : i < n) : mg (mat n f) i = f i := by
 rw [a1F (by rw [a0f]; exact h), d1Q]
theorem c3H {k m : Nat} {z : Int} (h : z.natAbs < LB ^ k) (hkm : k ≤ m) : Zok m (canZ z) := (a0q h).mono hkm
theorem b8U {k n : Nat} {f : Nat → Int} (hn : n ≤ 2097152) (h : ∀ i, i < n → (f i).natAbs < LB ^ k) : Vok k (vec n f) := by
 refine ⟨by rw [a0e]; exact hn, fun x hx => ?_⟩
 obtain ⟨i, hi, rfl⟩ := List.mem_map.1 hx
 exact a0q (h i (List.mem_range.1 hi))
theorem b9C {k n : Nat} {f : Nat → List ZI} (hn : n ≤ 2097152) (h : ∀ i, i < n → Vok k (f i)) : Mok k (mat n f) := by
 refine ⟨by rw [a0f]; exact hn, fun x hx => ?_⟩
 obtain ⟨i, hi, rfl⟩ := List.mem_map.1 hx
 exact h i (List.mem_range.1 hi)
theorem Vok.abs {k : Nat} {v : List ZI} (h : Vok k v) (i : Nat) : (zg v i).natAbs < LB ^ k := by
 rcases Nat.lt_or_ge i v.length with hi | hi
 ·rw [c3y hi]; exact (h.get hi).abs
 ·simp [zg, hi, ZI.z, sgn, val]
  exact Nat.pow_pos (by decide)
theorem Mok.row {k : Nat} {b : List (List ZI)} (h : Mok k b) (i : Nat) : Vok k (mg b i) := by
 rcases Nat.lt_or_ge i b.length with hi | hi
 ·rw [a1F hi]; exact h.get hi
 ·simp [mg, hi]
  exact ⟨by simp, by simp⟩
theorem d8T (a b : Nat) : LB ^ (a + b) = LB ^ a * LB ^ b := Nat.pow_add _ _ _
theorem e3u (a : Nat) : 0 < LB ^ a := Nat.pow_pos (by decide)
theorem a4H {a b : Nat} (h : a ≤ b) : LB ^ a ≤ LB ^ b := Nat.pow_le_pow_right (by decide) h
theorem a1R {x y : Int} {k l : Nat} (hx : x.natAbs < LB ^ k) (hy : y.natAbs < LB ^ l) : (x * y).natAbs < LB ^ (k + l) := by
 rw [Int.natAbs_mul, d8T]
 exact Nat.mul_lt_mul'' hx hy
theorem e4P {x y : Int} {k : Nat} (hx : x.natAbs < LB ^ k) (hy : y.natAbs < LB ^ k) : (x + y).natAbs < LB ^ (k + 1) := by
 have h := Int.natAbs_add_le x y
 rw [d8T]
 have : LB = 4294967296 := rfl
 have := e3u k
 rw [Nat.pow_one]
 generalize LB ^ k = c at *
 calc (x + y).natAbs ≤ x.natAbs + y.natAbs := h
  _ < c * 2 := by omega
  _ ≤ c * LB := Nat.mul_le_mul_left _ (by decide)
theorem e2b {x y : Int} {k : Nat} (hx : x.natAbs < LB ^ k) (hy : y.natAbs < LB ^ k) : (x - y).natAbs < LB ^ (k + 1) := by
 rw [Int.sub_eq_add_neg]
 exact e4P hx (by rwa [Int.natAbs_neg])
def a0T (f : Nat → Int) : Nat → Int
 | 0 => 0
 | n + 1 => a0T f n + f n
theorem a1i {f g : Nat → Int} : ∀ {n : Nat}, (∀ i, i < n → f i = g i) → a0T f n = a0T g n
 | 0, _ => rfl
 | n + 1, h => by rw [a0T, a0T, a1i fun i hi => h i (by omega), h n (by omega)]
theorem d8x {f : Nat → Int} {B : Nat} : ∀ (n : Nat), (∀ i, i < n → (f i).natAbs < B) → (a0T f n).natAbs ≤ n * B
 | 0, _ => by simp [a0T]
 | n + 1, h => by
  have h1 := d8x n fun i hi => h i (by omega)
  have h2 := h n (by omega)
  have h3 := Int.natAbs_add_le (a0T f n) (f n)
  rw [a0T, Nat.add_mul]
  omega
theorem d3d {f : Nat → Int} {k n : Nat} (hn : n ≤ 2097152) (h : ∀ i, i < n → (f i).natAbs < LB ^ k) : (a0T f n).natAbs < LB ^ (k + 2) := by
 have h1 := d8x n h
 rw [d8T]
 have hp := e3u k
 generalize LB ^ k = c at *
 have h2 : n * c ≤ 2097152 * c := Nat.mul_le_mul_right _ hn
 have h3 : c * LB ^ 2 = 18446744073709551616 * c := by rw [Nat.mul_comm]; rfl
 omega
section
variable {H : Heap}
def RC (L : Heap) : Prop := ∀ b, some b ∈ L → ∀ a ∈ b.flat, Cl a
theorem RC.nil : RC [] := fun b h => by cases h
theorem RC.none {L : Heap} (h : RC L) : RC (none :: L) := fun b hb a ha => by
 rcases List.mem_cons.1 hb with e | e
 ·cases e
 ·exact h b e a ha
theorem RC.cons {b : Blk} {L : Heap} (hb : ∀ a ∈ b.flat, Cl a) (h : RC L) : RC (some b :: L) := fun c hc a ha => by
 rcases List.mem_cons.1 hc with e | e
 ·cases e; exact hb a ha
 ·exact h c e a ha
theorem RC.row {α : Type} {wd : Nat} {f : α → AV} {l : List α} {L : Heap} (hf : ∀ x, Cl (f x)) (h : RC L) : RC (some ⟨wd, l.map f⟩ :: L) := .cons (a1t wd f l hf) h
theorem RC.one {wd : Nat} {x : AV} {L : Heap} (hx : Cl x) (h : RC L) : RC (some ⟨wd, [x]⟩ :: L) := .cons (fun a ha => by
 simp only [Blk.flat, List.flatMap_cons, List.flatMap_nil, List.append_nil] at ha
 exact a3f hx a ha) h
theorem RC.emp {wd : Nat} {L : Heap} (h : RC L) : RC (some ⟨wd, []⟩ :: L) := .cons (fun a ha => by cases ha) h
theorem RC.mo {l : List (Int × Int)} {L : Heap} (h : RC L) : RC (some ⟨0, [.mo l]⟩ :: L) := .cons (fun a ha => by cases ha) h
theorem RC.io {i n : Nat} {s : List Nat} {L : Heap} (h : RC L) : RC (some ⟨0, [.io i n s]⟩ :: L) := .cons (fun a ha => by cases ha) h
theorem RC.zero {L : Heap} (h : RC L) : RC (some ⟨2, [.agg [.bool false, .nil]]⟩ :: L) := .one (.agg _ (by
 intro c hc
 simp only [List.mem_cons, List.not_mem_nil, or_false] at hc
 rcases hc with rfl | rfl
 ·exact .bool _
 ·exact .nil)) h
theorem c7K {α : Type} (hH : a0C H) {L : Heap} (i : Nat) {n0 : Nat} (hn : n0 ≤ lid H i) {env : Env} {wd bytes : Nat} {f : α → AV} (hf : ∀ x, Cl (f x)) (l : List α) (x : α) (l' : List α) {y : AV} {len : Nat}
  (hlen : len = l.length) (hl : L[i]? = some (some ⟨wd, l.map f⟩)) (hL : RC L) (hy : y = f x) (hl' : l' = l ++ [x]) (hb : (len + 1) * bytes ≤ 140737488355328) (hbb : len + 1 ≤ 9223372036854775807) :
  appV n0 wd bytes false (.mu (lid H i) 0 len none) (.sl wd [y]) env (hap H L) = some (.mu (lid H i) 0 (len + 1) none, scrub (lid H i) env, hap H (L.set i (some ⟨wd, l'.map f⟩))) := by
 subst hy
 subst hl'
 have := c4f n0 env H L wd bytes false i len none (.sl wd [f x]) (l.map f) [f x] hH hl (by rw [List.length_map]; exact hlen) hn (a1f _ wd _) (c4d hL) (by
  intro a ha
  simp at ha
  exact (a3f (hf x) a ha).ref) (by simpa using hb) (by simpa using hbb) rfl
 simpa [a1c] using this
theorem b8M {α : Type} {L : Heap} (i : Nat) {n0 : Nat} (hn : n0 ≤ lid H i) {env : Env} {wd bytes : Nat} {f : α → AV} (l : List α) (x : α) (l' : List α) {y : AV} {len c : Nat}
  (hlen : len = l.length) (hl : L[i]? = some (some ⟨wd, l.map f⟩)) (hy : y = f x) (hl' : l' = l ++ [x]) (hc : len + 1 ≤ c) :
  appV n0 wd bytes false (.mu (lid H i) 0 len (some c)) (.sl wd [y]) env (hap H L) = some (.mu (lid H i) 0 (len + 1) (some c), env, hap H (L.set i (some ⟨wd, l'.map f⟩))) := by
 subst hy
 subst hl'
 have := e4K n0 env H L wd bytes false i len c (.sl wd [f x]) (l.map f) [f x] hl (by rw [List.length_map]; exact hlen) hn (a1f _ wd _) (by simp) (by simpa using hc)
 simpa using this
theorem b7I (env : Env) (L : Heap) (wd bytes : Nat) (z : AV) (k k' : IntKind) (c : Nat) (h0 : 0 < wd) (h2 : bytes * c ≤ 281474976710656) (h3 : c ≤ 9223372036854775807) :
  c6b wd bytes z (.int k 0) (.int k' c) env (hap H L) = some (.mu (lid H L.length) 0 0 (some c), env, hap H (L ++ [some ⟨wd, []⟩])) := by
 have := b7J env H L wd bytes z k k' 0 c h0 (Nat.zero_le _) h2 h3
 simpa using this
theorem a9z {α : Type} (i wd : Nat) (f : α → AV) (l : List α) (len : Nat) (oc : Option Nat) (h : len = l.length) : frz (lid H i) ⟨wd, l.map f⟩ (.mu (lid H i) 0 len oc) = .sl wd (l.map f) := by
 subst h; exact d0y H i wd f l oc
section
variable {x : Cx} {todo : List AItem} {env : Env} {R : AV → Heap → Prop} {a b c d e : Option Blk}
theorem Safe.drop1 (hH : a0C H) (hx : x.n0 = H.length) (he : env.all (fun p => nref (lid H 1) p.2) = true) (hL : RC [a]) (h : Safe x todo env (hap H [a]) R) : Safe x todo env (hap H [a, b]) R := Safe.dropC (L := [a]) hH hx he hL h
theorem Safe.drop2 (hH : a0C H) (hx : x.n0 = H.length) (he : env.all (fun p => nref (lid H 2) p.2) = true) (hL : RC [a, b]) (h : Safe x todo env (hap H [a, b]) R) : Safe x todo env (hap H [a, b, c]) R := Safe.dropC (L := [a, b]) hH hx he hL h
theorem Safe.drop3 (hH : a0C H) (hx : x.n0 = H.length) (he : env.all (fun p => nref (lid H 3) p.2) = true) (hL : RC [a, b, c]) (h : Safe x todo env (hap H [a, b, c]) R) : Safe x todo env (hap H [a, b, c, d]) R := Safe.dropC (L := [a, b, c]) hH hx he hL h
theorem Safe.drop4 (hH : a0C H) (hx : x.n0 = H.length) (he : env.all (fun p => nref (lid H 4) p.2) = true) (hL : RC [a, b, c, d]) (h : Safe x todo env (hap H [a, b, c, d]) R) : Safe x todo env (hap H [a, b, c, d, e]) R := Safe.dropC (L := [a, b, c, d]) hH hx he hL h
end
theorem Safe.told0 (i : Nat) {x : Cx} {todo : List AItem} {env : Env} {L : Heap} {R : AV → Heap → Prop} (hl : L[i]? = some (some ⟨2, [.agg [.bool false, .nil]]⟩)) (h : Safe x todo env (hap H (L.set i (some ⟨2, [Z 0]⟩))) R) : Safe x todo env (hap H L) R := by
 rw [e4R] at h
 refine Safe.toldRow (b' := ⟨2, [.agg [.bool false, natV []]]⟩) i hl rfl (by intro y hy; simp at hy; subst hy; rfl) rfl (by simp) ?_ h
 intro k a c ha hc
 match k with
 | 0 => cases ha; cases hc; exact Le.refl _
 | 1 => cases ha; cases hc; exact Le.nil 1 (by decide)
 | k + 2 => simp [Blk.flat, AV.cells] at ha
end
end Go.Abs
namespace Go.Abs
section
variable {x : Cx} {todo : List AItem} {env : Env} {R : AV → Heap → Prop} {H : Heap} {b : Option Blk}
theorem Safe.drop0 (hH : a0C H) (hx : x.n0 = H.length) (he : env.all (fun p => nref (lid H 0) p.2) = true) (hL : RC []) (h : Safe x todo env (hap H []) R) : Safe x todo env (hap H [b]) R := Safe.dropC (L := []) hH hx he hL h
theorem c3r {n : Nat} {a : AV} {k : Nat} {c : AV} (h : ((List.replicate n a).flatMap AV.cells)[k]? = some c) : ∃ j, a.cells[j]? = some c ∧ j = k % a.cells.length ∧ k / a.cells.length < n := by
 induction n generalizing k with
 | zero => simp at h
 | succ n ih =>
  rw [List.replicate_succ, List.flatMap_cons] at h
  rcases Nat.lt_or_ge k a.cells.length with hk | hk
  ·rw [List.getElem?_append_left hk] at h
   exact ⟨k, h, (Nat.mod_eq_of_lt hk).symm, by rw [Nat.div_eq_of_lt hk]; omega⟩
  ·rw [List.getElem?_append_right hk] at h
   obtain ⟨j, h1, h2, h3⟩ := ih h
   have hp : 0 < a.cells.length := by
    rcases Nat.eq_zero_or_pos a.cells.length with h0 | h0
    ·have := a0h h1; omega
    ·exact h0
   refine ⟨j, h1, ?_, ?_⟩
   ·rw [h2, Nat.mod_eq_sub_mod hk]
   ·rw [Nat.div_eq_sub_div hp hk]; omega
theorem c0E {n wd : Nat} {a : AV} (h : a.cells.length = wd) : ((List.replicate n a).flatMap AV.cells).length = n * wd := by
 rw [a2m (wd := wd)]
 ·simp
 ·intro x hx; rw [List.eq_of_mem_replicate hx]; exact h
theorem Safe.toldRep (i n : Nat) {L : Heap} (hl : L[i]? = some (some ⟨2, List.replicate n (.agg [.bool false, .nil])⟩)) (h : Safe x todo env (hap H (L.set i (some ⟨2, (vec n fun _ => 0).map ZI.av⟩))) R) : Safe x todo env (hap H L) R := by
 have e : (vec n fun _ => 0).map ZI.av = List.replicate n (.agg [.bool false, natV []]) := by
  apply List.ext_getElem
  ·simp [a0e]
  ·intro j h1 h2
   simp only [List.getElem_map, b4O, a2p, e4R, List.getElem_replicate]
 rw [e] at h
 refine Safe.toldRow (b' := ⟨2, List.replicate n (.agg [.bool false, natV []])⟩) i hl rfl (by intro y hy; rw [List.eq_of_mem_replicate hy]; rfl) ?_ (by simp) ?_ h
 ·show ((List.replicate n _).flatMap AV.cells).length = ((List.replicate n _).flatMap AV.cells).length
  rw [c0E (wd := 2) rfl, c0E (wd := 2) rfl]
 ·intro k a c ha hc
  obtain ⟨j, h1, h2, _⟩ := c3r ha
  obtain ⟨j', h1', h2', _⟩ := c3r hc
  have : j' = j := by rw [h2, h2']; rfl
  subst this
  match j' with
  | 0 => cases h1; cases h1'; exact Le.refl _
  | 1 => cases h1; cases h1'; exact Le.nil 1 (by decide)
  | j + 2 => simp [AV.cells] at h1
end
def updF (f : Nat → Int) (i : Nat) (z : Int) : Nat → Int := fun k => if k = i then z else f k
theorem e8p (n : Nat) (f : Nat → Int) (i : Nat) (z : Int) : ((vec n f).map ZI.av).set i (Z z) = (vec n (updF f i z)).map ZI.av := by
 apply List.ext_getElem
 ·simp [a0e]
 ·intro j h1 h2
  rw [List.getElem_set]
  simp only [List.getElem_map, b4O, updF]
  by_cases h : i = j
  ·subst h; simp [a2p]
  ·rw [if_neg h, if_neg (fun e => h e.symm)]
theorem d5B (p : Nat → Prop) [DecidablePred p] : ∀ (n : Nat), (∀ i, i < n → p i) ∨ ∃ i, i < n ∧ ¬ p i ∧ ∀ j, j < i → p j
 | 0 => .inl fun i hi => absurd hi (by omega)
 | n + 1 => by
  rcases d5B p n with h | ⟨i, hi, h1, h2⟩
  ·by_cases hp : p n
   ·exact .inl fun i hi => by
     rcases Nat.lt_or_ge i n with h' | h'
     ·exact h i h'
     ·rw [show i = n by omega]; exact hp
   ·exact .inr ⟨n, by omega, hp, h⟩
  ·exact .inr ⟨i, by omega, h1, h2⟩
def Rect (b : List (List ZI)) : Prop := ∀ i, i < b.length → (mg b i).length = (mg b 0).length
def wid (b : List (List ZI)) : Nat := (mg b 0).length
theorem e0c (b : List (List ZI)) : Rect b ∨ ∃ i, i < b.length ∧ (mg b i).length ≠ (mg b 0).length ∧ ∀ j, j < i → (mg b j).length = (mg b 0).length :=
 d5B (fun i => (mg b i).length = (mg b 0).length) b.length
theorem b2I (H : Heap) (v : List (List ZI)) (k : IntKind) (h : 0 < v.length) : idxV H 1 (matV v) (.int k 0) = some (.ro (vecV v[0]) 0) := a1r H v k 0 h
def c6c (a : Nat) (f : Nat → Nat) : Nat → Nat
 | 0 => a
 | n + 1 => max (c6c a f n) (f n)
def c3F (b : List (List ZI)) : Nat → Nat
 | 0 => 0
 | i + 1 => c6c (c3F b i) (fun k => blen (zg (mg b i) k).natAbs) (mg b i).length
theorem e9p (a c : Nat) : (if (a : Int) < (c : Int) then (c : Int) else (a : Int)) = ((max a c : Nat) : Int) := by
 rcases Nat.lt_or_ge a c with h | h
 ·rw [if_pos (by omega), Nat.max_eq_right (by omega)]
 ·rw [if_neg (by omega), Nat.max_eq_left h]
theorem b9W (H : Heap) (i : Nat) (v : List ZI) (len : Nat) (oc : Option Nat) (h : len = v.length) : frz (lid H i) ⟨2, v.map ZI.av⟩ (.mu (lid H i) 0 len oc) = vecV v := a9z i 2 ZI.av v len oc h
theorem d7S (H : Heap) (i : Nat) (v : List (List ZI)) (len : Nat) (oc : Option Nat) (h : len = v.length) : frz (lid H i) ⟨1, v.map vecV⟩ (.mu (lid H i) 0 len oc) = matV v := a9z i 1 vecV v len oc h
theorem a5Y (id : Nat) (b : Blk) (v : List ZI) : (v.map ZI.av).map (frz id b) = v.map ZI.av := c6R id b ZI.av v ZI.cl
theorem a5Z (id : Nat) (b : Blk) (v : List (List ZI)) : (v.map vecV).map (frz id b) = v.map vecV := c6R id b vecV v a0g
end Go.Abs
namespace Go.Abs
section
variable {H L : Heap} {a b : Option Blk} {wd len j n : Nat} {X : List AV} {oc : Option Nat} {k : IntKind} {f : Nat → Int} {z : Int} {env : Env}
theorem d8W (h : j < len) : idxV (hap H (some ⟨wd, X⟩ :: L)) wd (.mu (lid H 0) 0 len oc) (.int k j) = some (.loc (lid H 0) j 0) := by
 rw [b1p H _ wd 0 0 len oc k j rfl rfl h, Nat.zero_add]
theorem d8v (h : j < n) : ((vec n f).map ZI.av).getD j .top = Z (f j) := by
 rw [List.getD_eq_getElem?_getD, List.getElem?_map, List.getElem?_eq_getElem (by rw [a0e]; exact h), b4O]
 rfl
theorem f0t (h : j < n) : atV (hap H (some ⟨2, (vec n f).map ZI.av⟩ :: L)) (.loc (lid H 0) j 0) = some (Z (f j)).cells := by
 rw [a4r H _ 0 j rfl (by rw [List.length_map, a0e]; exact h), d8v h]
theorem f2g (h : j < n) : a2s 2 (.loc (lid H 0) j 0) (Z z) env (hap H (some ⟨2, (vec n f).map ZI.av⟩ :: L)) = some (.top, env, hap H (some ⟨2, (vec n (updF f j z)).map ZI.av⟩ :: L)) := by
 rw [a7O env H _ 2 0 j 0 (Z z) rfl (by rw [List.length_map, a0e]; exact h) rfl rfl (Nat.le_refl 2)]
 rw [← e8p]; rfl
end
def cmbS (x : List ZI) (b : List (List ZI)) (k i : Nat) : Int := a0T (fun l => zg x l * zg (mg b l) k) i
def d8i (x : List ZI) (b : List (List ZI)) : List ZI := vec (wid b) fun k => cmbS x b k b.length
def b9k (a b : List (List ZI)) : List (List ZI) := mat a.length fun i => d8i (mg a i) b
def cmbF (x : List ZI) (b : List (List ZI)) (i j : Nat) : Nat → Int := fun k => if k < j then cmbS x b k (i + 1) else cmbS x b k i
theorem e4r (x : List ZI) (b : List (List ZI)) (i : Nat) : cmbF x b i 0 = fun k => cmbS x b k i := by
 funext k; simp [cmbF]
theorem e4s (x : List ZI) (b : List (List ZI)) (i j n : Nat) : vec n (updF (cmbF x b i j) j (cmbF x b i j j + zg x i * zg (mg b i) j)) = vec n (cmbF x b i (j + 1)) := by
 refine c4z fun k _ => ?_
 simp only [updF, cmbF, Nat.lt_irrefl, if_false]
 by_cases h : k = j
 ·subst h
  rw [if_pos rfl, if_pos (by omega)]; rfl
 ·rw [if_neg h]
  by_cases h2 : k < j
  ·rw [if_pos h2, if_pos (by omega)]
  ·rw [if_neg h2, if_neg (by omega)]
theorem e6T (x : List ZI) (b : List (List ZI)) (i n : Nat) : vec n (cmbF x b i n) = vec n fun k => cmbS x b k (i + 1) := by
 refine c4z fun k hk => ?_
 simp [cmbF, hk]
theorem c3Z {x : List ZI} {b : List (List ZI)} {p q : Nat} (hx : Vok p x) (hb : Mok q b) (k : Nat) {i : Nat} (hi : i ≤ b.length) : (cmbS x b k i).natAbs < LB ^ (p + q + 2) :=
 d3d (Nat.le_trans hi (Nat.le_trans hb.len (by decide))) fun l _ => a1R (hx.abs l) ((hb.row l).abs k)
theorem e6U {x : List ZI} {b : List (List ZI)} {p q : Nat} (hx : Vok p x) (hb : Mok q b) {i j : Nat} (hi : i < b.length) (k : Nat) : (cmbF x b i j k).natAbs < LB ^ (p + q + 2) := by
 unfold cmbF
 split
 ·exact c3Z hx hb k (by omega)
 ·exact c3Z hx hb k (by omega)
theorem mgz {b : List (List ZI)} {i j : Nat} (hi : i < b.length) (hj : j < b[i].length) : b[i][j].z = zg (mg b i) j := by rw [a1F hi, c3y hj]
theorem d8I {b : List (List ZI)} (hr : Rect b) {i : Nat} (hi : i < b.length) : b[i].length = wid b := by
 have := hr i hi
 rwa [a1F hi] at this
end Go.Abs
namespace Go.Abs
theorem a5D (c : Int) (f : Nat → Int) : ∀ n, a0T (fun i => c * f i) n = c * a0T f n
 | 0 => by simp [a0T]
 | n + 1 => by rw [a0T, a0T, a5D c f n, Int.mul_add]
theorem b2B (c : Int) (f : Nat → Int) : ∀ n, a0T (fun i => f i * c) n = a0T f n * c
 | 0 => by simp [a0T]
 | n + 1 => by rw [a0T, a0T, b2B c f n, Int.add_mul]
theorem d3c (f g : Nat → Int) : ∀ n, a0T (fun i => f i + g i) n = a0T f n + a0T g n
 | 0 => rfl
 | n + 1 => by simp only [a0T, d3c f g n]; omega
theorem b8Z : ∀ n, a0T (fun _ => 0) n = 0
 | 0 => rfl
 | n + 1 => by rw [a0T, b8Z n]; rfl
theorem b9a (F : Nat → Nat → Int) (m : Nat) : ∀ n, a0T (fun i => a0T (fun j => F i j) m) n = a0T (fun j => a0T (fun i => F i j) n) m
 | 0 => by simp only [a0T]; rw [b8Z]
 | n + 1 => by simp only [a0T]; rw [b9a F m n, ← d3c]
end Go.Abs
namespace Go.Abs
theorem d8Y {u v : List Nat} {n : Nat} (hu : Lim u) (hv : Lim v) (hun : u.length = n + 1) (hvn : v.length = n) (hn : 0 < n) (hv0 : 0 < val v) (hlt : val u < LB * val v) (ht : 0 < v.getD (n - 1) 0) :
  val u / val v ≤ min ((u.getD n 0 * LB + u.getD (n - 1) 0) / v.getD (n - 1) 0) (LB - 1) := by
 have hq1 : val u / val v ≤ LB - 1 := by
  have : val u / val v < LB := by rw [Nat.div_lt_iff_lt_mul hv0]; exact hlt
  omega
 refine Nat.le_min.2 ⟨?_, hq1⟩
 rw [Nat.le_div_iff_mul_le ht]
 have hs := a3A u (n - 1)
 have hsv := a3A v (n - 1)
 have hdu : val (u.drop (n - 1)) = u.getD (n - 1) 0 + LB * u.getD n 0 := by
  have e : u.drop (n - 1) = [u.getD (n - 1) 0, u.getD n 0] := by
   apply List.ext_getElem
   ·simp; omega
   ·intro i h1 h2
    match i with
    | 0 => simp [List.getD_eq_getElem?_getD, List.getElem?_eq_getElem (show n - 1 < u.length by omega)]
    | 1 =>
     simp only [List.getElem_drop, List.getElem_cons_succ, List.getElem_cons_zero]
     rw [List.getD_eq_getElem?_getD, List.getElem?_eq_getElem (show n < u.length by omega)]
     simp only [show n - 1 + 1 = n by omega]; rfl
    | i + 2 => simp at h2; omega
  rw [e]; simp [val]
 have hdv : val (v.drop (n - 1)) = v.getD (n - 1) 0 := by
  have e : v.drop (n - 1) = [v.getD (n - 1) 0] := by
   apply List.ext_getElem
   ·simp; omega
   ·intro i h1 h2
    match i with
    | 0 => simp [List.getD_eq_getElem?_getD, List.getElem?_eq_getElem (show n - 1 < v.length by omega)]
    | i + 1 => simp at h2
  rw [e]; simp [val]
 have htu := a3c hu (n - 1)
 have hle : val u / val v * val v ≤ val u := Nat.div_mul_le_self _ _
 generalize val u / val v = q at *
 generalize hP : LB ^ (n - 1) = P at *
 have hPp : 0 < P := by rw [← hP]; exact Nat.pow_pos (by decide)
 rw [hdu] at hs
 rw [hdv] at hsv
 generalize v.getD (n - 1) 0 = vt at *
 have e2 : LB * u.getD n 0 = u.getD n 0 * LB := Nat.mul_comm _ _
 generalize u.getD (n - 1) 0 = ua at *
 have hbig : q * vt * P < (u.getD n 0 * LB + ua + 1) * P := by
  have h1 : q * (P * vt) ≤ q * val v := Nat.mul_le_mul_left _ (by omega)
  have h2 : q * (P * vt) = q * vt * P := by rw [Nat.mul_comm P vt, Nat.mul_assoc]
  have h3 : (u.getD n 0 * LB + ua + 1) * P = P * (ua + LB * u.getD n 0) + P := by
   rw [Nat.add_mul, Nat.one_mul, Nat.mul_comm _ P, e2, Nat.add_comm ua]
  omega
 have := Nat.lt_of_mul_lt_mul_right hbig
 omega
end Go.Abs
namespace Go.Abs
def fl (n : Nat) (f : Nat → Nat) : List Nat := (List.range n).map f
def dig (M i : Nat) : Nat := M / LB ^ i % LB
theorem b8H (M i : Nat) : dig M i < LB := Nat.mod_lt _ (by decide)
theorem a0M (n : Nat) (f : Nat → Nat) : (fl n f).length = n := by simp [fl]
theorem b8j {n : Nat} {f : Nat → Nat} {i : Nat} (h : i < n) : (fl n f).getD i 0 = f i := by
 simp [fl, List.getD_eq_getElem?_getD, h]
theorem a2Z {n : Nat} {f g : Nat → Nat} (h : ∀ i, i < n → f i = g i) : fl n f = fl n g := List.map_congr_left fun i hi => h i (List.mem_range.1 hi)
theorem e3T (n : Nat) (f : Nat → Nat) (i v : Nat) : (fl n f).set i v = fl n fun j => if j = i then v else f j := by
 apply List.ext_getElem
 ·simp [fl]
 ·intro j h1 h2
  rw [List.getElem_set]
  simp only [fl, List.getElem_map, List.getElem_range]
  by_cases h : i = j
  ·subst h; simp
  ·rw [if_neg h, if_neg (fun e => h e.symm)]
theorem e7W {n : Nat} {f : Nat → Nat} (h : ∀ i, i < n → f i < LB) : Lim (fl n f) := by
 intro d hd
 obtain ⟨i, hi, rfl⟩ := List.mem_map.1 hd
 exact h i (List.mem_range.1 hi)
theorem e9I (n : Nat) : List.replicate n 0 = fl n fun _ => 0 := by
 apply List.ext_getElem <;> simp [fl]
theorem d2j (n : Nat) (f : Nat → Nat) : fl (n + 1) f = fl n f ++ [f n] := by simp [fl, List.range_succ]
theorem e9J {l : List Nat} {n : Nat} (h : l.length = n) : l = fl n fun i => l.getD i 0 := by
 subst h
 apply List.ext_getElem
 ·simp [fl]
 ·intro i h1 h2; simp [fl, List.getD_eq_getElem?_getD, h1]
theorem d7T {n k : Nat} (f : Nat → Nat) (h : k ≤ n) : (fl n f).take k = fl k f := by
 apply List.ext_getElem
 ·simp [fl]; omega
 ·intro i h1 h2; simp [fl]
theorem e7J (M : Nat) : ∀ n, val (fl n (dig M)) = M % LB ^ n
 | 0 => by simp [fl, val, Nat.mod_one]
 | n + 1 => by
  rw [d2j, a2H, e7J M n, a0M, Nat.pow_succ, Nat.mod_mul]; rfl
theorem a1N {M n : Nat} (h : M < LB ^ n) : val (fl n (dig M)) = M := by rw [e7J, Nat.mod_eq_of_lt h]
theorem a1y (M n : Nat) : Lim (fl n (dig M)) := e7W fun i _ => b8H M i
theorem d2s {l : List Nat} (hl : Lim l) (i : Nat) : dig (val l) i = l.getD i 0 := by
 unfold dig
 rw [a3A l i]
 rcases Nat.lt_or_ge l.length i with h | h
 ·have : l.drop i = [] := List.drop_eq_nil_of_le (by omega)
  rw [this, List.take_of_length_le (by omega), a6K (by omega)]
  simp only [val, Nat.mul_zero, Nat.add_zero]
  have h2 : val l < LB ^ i := Nat.lt_of_lt_of_le (a1d hl) (Nat.pow_le_pow_right (by decide) (by omega))
  rw [Nat.div_eq_of_lt h2]; rfl
 ·have h1 := a3c hl i
  rw [Nat.add_mul_div_left _ _ (a5g i), Nat.div_eq_of_lt h1, Nat.zero_add]
  have : l.getD i 0 = (l.drop i).getD 0 0 := by rw [c6L, Nat.add_zero]
  rw [this]
  cases hd : l.drop i with
  | nil => rfl
  | cons d r =>
   have hlt : d < LB := (hl.drop i) d (by rw [hd]; simp)
   simp only [val, List.getD_cons_zero]
   rw [Nat.add_mul_mod_self_left, Nat.mod_eq_of_lt hlt]
theorem b9L {l : List Nat} (hl : Lim l) {n : Nat} (h : l.length = n) : l = fl n (dig (val l)) := by
 rw [e9J h]
 refine a2Z fun i _ => ?_
 rw [← e9J h, d2s hl]
theorem b2O {M i : Nat} (h : M < LB ^ i) : dig M i = 0 := by unfold dig; rw [Nat.div_eq_of_lt h]; rfl
theorem e4e (M a i : Nat) : dig (M / LB ^ a) i = dig M (a + i) := by
 unfold dig; rw [Nat.div_div_eq_div_mul, ← Nat.pow_add]
theorem c7v {M a i : Nat} (K : Nat) (h : i < a) : dig (M + LB ^ a * K) i = dig M i := by
 unfold dig
 have : LB ^ a * K = LB ^ i * (LB * (LB ^ (a - i - 1) * K)) := by
  rw [← Nat.mul_assoc LB, ← Nat.pow_succ', Nat.succ_eq_add_one, show a - i - 1 + 1 = a - i by omega, ← Nat.mul_assoc, ← Nat.pow_add, show i + (a - i) = a by omega]
 rw [this, Nat.add_mul_div_left _ _ (a5g i), Nat.add_mul_mod_self_left]
theorem f1n {x y : Nat} (k : Nat) (hx : x < 2 ^ (64 - k)) (hk : k ≤ 64) (hy : y < 2 ^ k) : (BitVec.ofInt 64 ((x * 2 ^ k : Nat) : Int) ||| BitVec.ofInt 64 ((y : Nat) : Int)).toNat = x * 2 ^ k + y := by
 have e : 2 ^ 64 = 2 ^ (64 - k) * 2 ^ k := by rw [← Nat.pow_add]; congr 1; omega
 have hx2 : x * 2 ^ k < 2 ^ 64 := by rw [e]; exact Nat.mul_lt_mul_of_pos_right hx (Nat.pow_pos (by decide))
 have hy2 : y < 2 ^ 64 := Nat.lt_of_lt_of_le hy (Nat.pow_le_pow_right (by decide) hk)
 rw [BitVec.toNat_or]
 simp only [BitVec.ofInt_natCast, BitVec.toNat_ofNat]
 rw [Nat.mod_eq_of_lt hx2, Nat.mod_eq_of_lt hy2]
 have := Nat.shiftLeft_add_eq_or_of_lt hy x
 rw [Nat.shiftLeft_eq] at this
 exact this.symm
theorem e5K {x y : Nat} (k : Nat) (hx : x < 2 ^ (32 - k)) (hk : k ≤ 32) (hy : y < 2 ^ k) : (BitVec.ofInt 32 ((y : Nat) : Int) ||| BitVec.ofInt 32 ((x * 2 ^ k : Nat) : Int)).toNat = x * 2 ^ k + y := by
 have e : 2 ^ 32 = 2 ^ (32 - k) * 2 ^ k := by rw [← Nat.pow_add]; congr 1; omega
 have hx2 : x * 2 ^ k < 2 ^ 32 := by rw [e]; exact Nat.mul_lt_mul_of_pos_right hx (Nat.pow_pos (by decide))
 have hy2 : y < 2 ^ 32 := Nat.lt_of_lt_of_le hy (Nat.pow_le_pow_right (by decide) hk)
 rw [BitVec.toNat_or]
 simp only [BitVec.ofInt_natCast, BitVec.toNat_ofNat]
 rw [Nat.mod_eq_of_lt hx2, Nat.mod_eq_of_lt hy2, Nat.or_comm]
 have := Nat.shiftLeft_add_eq_or_of_lt hy x
 rw [Nat.shiftLeft_eq] at this
 exact this.symm
theorem d6B (B d L : Nat) : (B / L % d) * L + B % L = B - d * ((B / L / d) * L) ∧ d * ((B / L / d) * L) ≤ B := by
 have h1 := Nat.mod_add_div B L
 have h2 := Nat.mod_add_div (B / L) d
 have h3 : (B / L % d) * L + (d * (B / L / d)) * L = B / L * L := by rw [← Nat.add_mul, h2]
 have h4 : B / L * L = L * (B / L) := Nat.mul_comm _ _
 have h5 : d * (B / L / d * L) = (d * (B / L / d)) * L := (Nat.mul_assoc _ _ _).symm
 omega
theorem f0X (B d L : Nat) : ((B / L % d) * L + B % L) % d = B % d := by
 rw [(d6B B d L).1, Nat.sub_mul_mod (d6B B d L).2]
theorem f0Y (B d L : Nat) : ((B / L % d) * L + B % L) / d = B / d % L := by
 rw [(d6B B d L).1, Nat.sub_mul_div]
 have h2 : B / L / d = B / d / L := by rw [Nat.div_div_eq_div_mul, Nat.mul_comm, ← Nat.div_div_eq_div_mul]
 rw [h2]
 have h4 := Nat.mod_add_div (B / d) L
 have h5 : L * (B / d / L) = B / d / L * L := Nat.mul_comm _ _
 omega
theorem b2q (A i : Nat) : A / LB ^ (i + 1) = A / LB ^ i / LB := by rw [Nat.pow_succ, Nat.div_div_eq_div_mul]
theorem c4H (A d i : Nat) : ((A / LB ^ (i + 1) % d) * LB + dig A i) % d = A / LB ^ i % d := by
 rw [b2q]; exact f0X _ _ _
theorem c4I (A d i : Nat) : ((A / LB ^ (i + 1) % d) * LB + dig A i) / d = dig (A / d) i := by
 rw [b2q]
 have e : dig (A / d) i = A / LB ^ i / d % LB := by unfold dig; rw [Nat.div_div_eq_div_mul, Nat.mul_comm d, ← Nat.div_div_eq_div_mul]
 rw [e]
 exact f0Y _ _ _
end Go.Abs
namespace Go.Abs
theorem a2r {x : Nat} (h : x < 18446744073709551616) : IntKind.wrap .u64 (x : Int) = (x : Int) := a0H (by omega) (by omega)
theorem d3a {x : Nat} (h : x < 9223372036854775808) : IntKind.wrap .i64 (x : Int) = (x : Int) := a0c (by omega) (by omega)
theorem d1I {x y : Nat} (h : 0 < y) (hx : x < 18446744073709551616) : binV .quo (.int .u64 (x : Int)) (.int .u64 (y : Int)) = some (.int .u64 ((x / y : Nat) : Int)) := by
 rw [c4b _ _ _ (by omega), Int.tdiv_eq_ediv_of_nonneg (by omega)]
 have h2 : x / y ≤ x := Nat.div_le_self _ _
 have : (x : Int) / (y : Int) = ((x / y : Nat) : Int) := rfl
 rw [this, a2r (by omega)]
theorem e2B {x y : Nat} (h : 0 < y) : binV .rem (.int .u64 (x : Int)) (.int .u64 (y : Int)) = some (.int .u64 ((x % y : Nat) : Int)) := by
 rw [d2D _ _ _ (by omega), Int.tmod_eq_emod_of_nonneg (by omega)]; rfl
theorem e5A {x y : Nat} (h : 0 < y) (hx : x < 9223372036854775808) : binV .quo (.int .i64 (x : Int)) (.int .i64 (y : Int)) = some (.int .i64 ((x / y : Nat) : Int)) := by
 rw [c4b _ _ _ (by omega), Int.tdiv_eq_ediv_of_nonneg (by omega)]
 have h2 : x / y ≤ x := Nat.div_le_self _ _
 have : (x : Int) / (y : Int) = ((x / y : Nat) : Int) := rfl
 rw [this, d3a (by omega)]
theorem e5y {x y : Nat} (h : 0 < y) : binV .rem (.int .i64 (x : Int)) (.int .i64 (y : Int)) = some (.int .i64 ((x % y : Nat) : Int)) := by
 rw [d2D _ _ _ (by omega), Int.tmod_eq_emod_of_nonneg (by omega)]; rfl
theorem a9X {x : Nat} (h : x < LB) : IntKind.wrap .u32 (x : Int) = (x : Int) := a3z (by omega) (by have : LB = 4294967296 := rfl; omega)
theorem a5x {x y : Nat} (h : x + y < 18446744073709551616) : IntKind.wrap .u64 ((x : Int) + (y : Int)) = ((x + y : Nat) : Int) := by rw [a0H (by omega) (by omega)]; omega
theorem b8X {x y : Nat} (h : x * y < 18446744073709551616) : IntKind.wrap .u64 ((x : Int) * (y : Int)) = ((x * y : Nat) : Int) := by
 rw [← Int.natCast_mul]; exact a2r h
theorem f0W {x n : Nat} (hx : x < LB) (hn : n < 33) : b0I .shl .u64 (x : Int) (n : Int) = some (.int .u64 ((x * 2 ^ n : Nat) : Int)) := by
 rw [d3i _ _ _ (by omega)]
 have hm : min (Int.toNat (n : Int)) IntKind.u64.bits = n := by
  show min n 64 = n
  omega
 rw [hm]
 have h2 : x * 2 ^ n < 18446744073709551616 := by
  have h3 : 2 ^ n ≤ 2 ^ 32 := Nat.pow_le_pow_right (by decide) (by omega)
  have h4 : x * 2 ^ n ≤ x * 2 ^ 32 := Nat.mul_le_mul_left _ h3
  have : LB = 4294967296 := rfl
  have : (2 : Nat) ^ 32 = 4294967296 := by decide
  omega
 have : (x : Int) * 2 ^ n = ((x * 2 ^ n : Nat) : Int) := by simp
 rw [this, a2r h2]
theorem e8F {x : Nat} (hx : x < LB) : b0I .shl .u64 (x : Int) 32 = some (.int .u64 ((x * LB : Nat) : Int)) := f0W (n := 32) hx (by decide)
theorem e8D {x n : Nat} (hn : n ≤ 64) : b0I .shr .u64 (x : Int) (n : Int) = some (.int .u64 ((x / 2 ^ n : Nat) : Int)) := by
 rw [a3J _ _ _ (by omega)]
 have hm : min (Int.toNat (n : Int)) IntKind.u64.bits = n := by
  show min n 64 = n
  omega
 rw [hm, Int.fdiv_eq_ediv_of_nonneg _ (by exact Int.pow_nonneg (by decide))]
 have : (2 : Int) ^ n = ((2 ^ n : Nat) : Int) := by simp
 rw [this]; rfl
theorem e2l (x : Nat) : b0I .shr .u64 (x : Int) 32 = some (.int .u64 ((x / LB : Nat) : Int)) := e8D (n := 32) (by decide)
theorem c4y {x y : Nat} (hx : x < LB) (hy : y < LB) : IntKind.wrap .u64 (((BitVec.ofInt (IntKind.bits .u64) ((x * LB : Nat) : Int) ||| BitVec.ofInt (IntKind.bits .u64) (y : Int)).toNat : Nat) : Int) = ((x * LB + y : Nat) : Int) := by
 have h := f1n (x := x) (y := y) 32 hx (by decide) hy
 have e : (2 : Nat) ^ 32 = LB := by decide
 rw [e] at h
 have h' : (BitVec.ofInt (IntKind.bits .u64) ((x * LB : Nat) : Int) ||| BitVec.ofInt (IntKind.bits .u64) (y : Int)).toNat = x * LB + y := h
 rw [h', a2r (by
  have : LB = 4294967296 := rfl
  have : x * LB ≤ 4294967295 * LB := Nat.mul_le_mul_right _ (by omega)
  omega)]
theorem d9E {x y : Nat} (hx : x < LB) (hy : y < LB) : IntKind.wrap .u64 (((BitVec.ofInt (IntKind.bits .u64) (y : Int) ||| BitVec.ofInt (IntKind.bits .u64) ((x * LB : Nat) : Int)).toNat : Nat) : Int) = ((x * LB + y : Nat) : Int) := by
 rw [BitVec.or_comm]; exact c4y hx hy
theorem e1Q {x y : Nat} (k : Nat) (hx : x < 2 ^ (32 - k)) (hk : k ≤ 32) (hy : y < 2 ^ k) : IntKind.wrap .u32 (((BitVec.ofInt (IntKind.bits .u32) (y : Int) ||| BitVec.ofInt (IntKind.bits .u32) ((x * 2 ^ k : Nat) : Int)).toNat : Nat) : Int) = ((x * 2 ^ k + y : Nat) : Int) := by
 have h : (BitVec.ofInt (IntKind.bits .u32) (y : Int) ||| BitVec.ofInt (IntKind.bits .u32) ((x * 2 ^ k : Nat) : Int)).toNat = x * 2 ^ k + y := e5K k hx hk hy
 rw [h, a9X]
 have e : 2 ^ 32 = 2 ^ (32 - k) * 2 ^ k := by rw [← Nat.pow_add]; congr 1; omega
 have h1 : (x + 1) * 2 ^ k ≤ 2 ^ (32 - k) * 2 ^ k := Nat.mul_le_mul_right _ hx
 rw [← e, Nat.add_mul] at h1
 have : LB = 2 ^ 32 := by decide
 omega
section
variable {H L : Heap} {n j len : Nat} {f : Nat → Nat} {oc : Option Nat} {k : IntKind} {env : Env}
theorem e1p (h : j < len) {X : List AV} : idxV (hap H (some ⟨1, X⟩ :: L)) 1 (.mu (lid H 0) 0 len oc) (.int k j) = some (.loc (lid H 0) j 0) := by
 rw [b1p H _ 1 0 0 len oc k j rfl rfl h, Nat.zero_add]
theorem f2r {a : Option Blk} (h : j < len) {X : List AV} : idxV (hap H (a :: some ⟨1, X⟩ :: L)) 1 (.mu (lid H 1) 0 len oc) (.int k j) = some (.loc (lid H 1) j 0) := by
 rw [b1p H _ 1 1 0 len oc k j rfl rfl h, Nat.zero_add]
theorem fat0 (h : j < n) : atV (hap H (some ⟨1, u32s (fl n f)⟩ :: L)) (.loc (lid H 0) j 0) = some [.int .u32 (f j : Nat)] := by
 rw [a4r H _ 0 j rfl (by rw [a0D, a0M]; exact h)]
 simp only [b0H (l := fl n f) (i := j) (by rw [a0M]; exact h), b8j h, AV.cells]
theorem fst0 (h : j < n) (d : Nat) : a2s 1 (.loc (lid H 0) j 0) (.int .u32 (d : Int)) env (hap H (some ⟨1, u32s (fl n f)⟩ :: L)) = some (.top, env, hap H (some ⟨1, u32s (fl n fun i => if i = j then d else f i)⟩ :: L)) := by
 rw [a7O env H _ 1 0 j 0 _ rfl (by rw [a0D, a0M]; exact h) rfl rfl (Nat.le_refl 1)]
 simp only [a3B, c3J, List.set_cons_zero, e3T]
theorem fst1 {a : Option Blk} (h : j < n) (d : Nat) : a2s 1 (.loc (lid H 1) j 0) (.int .u32 (d : Int)) env (hap H (a :: some ⟨1, u32s (fl n f)⟩ :: L)) = some (.top, env, hap H (a :: some ⟨1, u32s (fl n fun i => if i = j then d else f i)⟩ :: L)) := by
 rw [a7O env H _ 1 1 j 0 _ rfl (by rw [a0D, a0M]; exact h) rfl rfl (Nat.le_refl 1)]
 simp only [a3B, c3J, List.set_cons_succ, List.set_cons_zero, e3T]
theorem b9D {k' : IntKind} (h : n ≤ 35184372088832) : c6b 1 4 (.int .u32 0) (.int k n) (.int k' n) env (hap H L) = some (.mu (lid H L.length) 0 n (some n), env, hap H (L ++ [some ⟨1, u32s (fl n fun _ => 0)⟩])) := by
 rw [b2H env H L k k' n h, e9I]
theorem d5x (i : Nat) : frz (lid H i) ⟨1, u32s (fl n f)⟩ (.mu (lid H i) 0 n oc) = natV (fl n f) := by
 have := a7Z H i (fl n f) oc
 rwa [a0M] at this
end
end Go.Abs
namespace Go.Abs
def sumR (f : Nat → Rat) : Nat → Rat
 | 0 => 0
 | n + 1 => sumR f n + f n
theorem a1n {f g : Nat → Rat} : ∀ {n : Nat}, (∀ i, i < n → f i = g i) → sumR f n = sumR g n
 | 0, _ => rfl
 | n + 1, h => by rw [sumR, sumR, a1n fun i hi => h i (by omega), h n (by omega)]
theorem a6y (x y : Rat) (f g : Nat → Rat) : ∀ n, sumR (fun i => x * f i + y * g i) n = x * sumR f n + y * sumR g n
 | 0 => by simp only [sumR]; grind
 | n + 1 => by simp only [sumR, a6y x y f g n]; grind
theorem c4E {f : Nat → Rat} : ∀ {n : Nat}, (∀ i, i < n → f i = 0) → sumR f n = 0
 | 0, _ => rfl
 | n + 1, h => by rw [sumR, c4E fun i hi => h i (by omega), h n (by omega)]; grind
theorem b5Y {f : Nat → Rat} {t : Nat} : ∀ {n : Nat}, t < n → (∀ i, i < n → i ≠ t → f i = 0) → sumR f n = f t
 | 0, h, _ => absurd h (by omega)
 | n + 1, h, h0 => by
  rw [sumR]
  by_cases e : t = n
  ·subst e
   rw [c4E fun i hi => h0 i (by omega) (by omega)]; grind
  ·rw [b5Y (by omega) fun i hi he => h0 i (by omega) he, h0 n (by omega) (by omega)]; grind
theorem d8y {f : Nat → Rat} {t : Nat} : ∀ {n : Nat}, t + 1 < n → (∀ i, i < n → i ≠ t → i ≠ t + 1 → f i = 0) → sumR f n = f t + f (t + 1)
 | 0, h, _ => absurd h (by omega)
 | n + 1, h, h0 => by
  rw [sumR]
  by_cases e : t + 1 = n
  ·subst e
   rw [b5Y (t := t) (by omega) fun i hi he => h0 i (by omega) he (by omega)]
  ·rw [d8y (t := t) (by omega) fun i hi h1 h2 => h0 i (by omega) h1 h2, h0 n (by omega) (by omega) (by omega)]; grind
def sg : Nat → Rat
 | 0 => 1
 | n + 1 => -sg n
def skip (i k : Nat) : Nat := if k < i then k else k + 1
def det : Nat → (Nat → Nat → Rat) → Rat
 | 0, _ => 1
 | n + 1, M => sumR (fun i => sg i * M i 0 * det n fun r c => M (skip i r) (c + 1)) (n + 1)
theorem d6y (i k : Nat) : skip i k ≠ i := by unfold skip; split <;> omega
theorem d6z {i k n : Nat} (hk : k < n) : skip i k < n + 1 := by unfold skip; split <;> omega
theorem a1z : ∀ {n : Nat} {M N : Nat → Nat → Rat}, (∀ r c, r < n → c < n → M r c = N r c) → det n M = det n N
 | 0, _, _, _ => rfl
 | n + 1, M, N, h => by
  unfold det
  refine a1n fun i hi => ?_
  rw [h i 0 hi (by omega), a1z (n := n) fun r c hr hc => h (skip i r) (c + 1) (d6z hr) (by omega)]
def a0z (M : Nat → Nat → Rat) (t : Nat) (u : Nat → Rat) : Nat → Nat → Rat := fun r c => if r = t then u c else M r c
theorem a4b (M : Nat → Nat → Rat) (t : Nat) : a0z M t (M t) = M := by
 funext r c; unfold a0z; split
 ·rename_i h; rw [h]
 ·rfl
def b0C (i t : Nat) : Nat := if t < i then t else t - 1
theorem c8R {i t r : Nat} (h : i ≠ t) : (skip i r = t) = (r = b0C i t) := by
 rw [eq_iff_iff]; unfold skip b0C
 split <;> split <;> omega
theorem b0N {M : Nat → Nat → Rat} {t i : Nat} {u : Nat → Rat} (h : i ≠ t) : (fun r c => a0z M t u (skip i r) (c + 1)) = a0z (fun r c => M (skip i r) (c + 1)) (b0C i t) fun c => u (c + 1) := by
 funext r c
 unfold a0z
 simp only [c8R h]
theorem a4c {M : Nat → Nat → Rat} {t : Nat} {u : Nat → Rat} : (fun r c => a0z M t u (skip t r) (c + 1)) = fun r c => M (skip t r) (c + 1) := by
 funext r c
 unfold a0z
 rw [if_neg (d6y t r)]
theorem c7z : ∀ {n : Nat} {M : Nat → Nat → Rat} {t : Nat} (x y : Rat) (u w : Nat → Rat), t < n → det n (a0z M t fun c => x * u c + y * w c) = x * det n (a0z M t u) + y * det n (a0z M t w)
 | 0, _, _, _, _, _, _, h => absurd h (by omega)
 | n + 1, M, t, x, y, u, w, h => by
  unfold det
  rw [← a6y]
  refine a1n fun i hi => ?_
  by_cases e : i = t
  ·subst e
   rw [a4c, a4c, a4c]
   simp only [a0z, if_true]
   grind
  ·rw [b0N e, b0N e, b0N e, c7z x y _ _ (by unfold b0C; split <;> omega)]
   simp only [a0z, if_neg e]
   grind
theorem d8g : ∀ {n : Nat} {M : Nat → Nat → Rat} {t : Nat}, t + 1 < n → (∀ c, M t c = M (t + 1) c) → det n M = 0
 | 0, _, _, h, _ => absurd h (by omega)
 | n + 1, M, t, h, he => by
  unfold det
  have hm : (fun r c => M (skip t r) (c + 1)) = fun r c => M (skip (t + 1) r) (c + 1) := by
   funext r c
   unfold skip
   by_cases h1 : r < t
   ·rw [if_pos h1, if_pos (by omega)]
   ·rw [if_neg h1]
    by_cases h2 : r = t
    ·rw [if_pos (by omega), h2, he]
    ·rw [if_neg (by omega)]
  rw [d8y (t := t) h fun i hi h1 h2 => by
   have hz : det n (fun r c => M (skip i r) (c + 1)) = 0 := by
    refine d8g (t := if i < t then t - 1 else t) (by split <;> omega) fun c => ?_
    unfold skip
    by_cases h3 : i < t
    ·rw [if_pos h3, if_neg (by omega), if_neg (by omega)]
     rw [show t - 1 + 1 = t by omega]
     exact he _
    ·rw [if_neg h3, if_pos (by omega), if_pos (by omega)]
     exact he _
   rw [hz]; grind]
  rw [hm, he 0]
  simp only [sg]
  grind
def a0S (s t : Nat) (M : Nat → Nat → Rat) : Nat → Nat → Rat := fun r c => if r = s then M t c else if r = t then M s c else M r c
theorem a1q {M : Nat → Nat → Rat} {s t : Nat} {u w : Nat → Rat} (h : s ≠ t) : a0z (a0z M s u) t w = a0z (a0z M t w) s u := by
 funext r c; unfold a0z
 by_cases h1 : r = t
 ·by_cases h2 : r = s
  ·omega
  ·simp [h1]; intro e; omega
 ·by_cases h2 : r = s
  ·simp [h2]; intro e; omega
  ·simp [h1, h2]
theorem d8h {n : Nat} {M : Nat → Nat → Rat} {t : Nat} (u w : Nat → Rat) (h : t < n) : det n (a0z M t fun c => u c + w c) = det n (a0z M t u) + det n (a0z M t w) := by
 have := c7z (M := M) 1 1 u w h
 have e : (fun c => (1 : Rat) * u c + 1 * w c) = fun c => u c + w c := by funext c; grind
 rw [e] at this
 grind
theorem c7x {n : Nat} {M : Nat → Nat → Rat} {s t : Nat} (hst : s ≠ t) (hs : s < n) (ht : t < n) (heq : ∀ N : Nat → Nat → Rat, (∀ c, N s c = N t c) → det n N = 0) : det n (a0S s t M) = -det n M := by
 let u := M s
 let w := M t
 have A : ∀ p q : Nat → Rat, (∀ c, p c = q c) → det n (a0z (a0z M s p) t q) = 0 := fun p q h => heq _ fun c => by
  unfold a0z
  simp [hst, h c]
 have h0 := A (fun c => u c + w c) (fun c => u c + w c) fun _ => rfl
 rw [d8h _ _ ht, a1q hst, a1q hst, d8h _ _ hs, d8h _ _ hs, ← a1q hst, ← a1q hst, ← a1q hst, ← a1q hst, A u u fun _ => rfl, A w w fun _ => rfl] at h0
 have e1 : a0z (a0z M s u) t w = M := by
  show a0z (a0z M s (M s)) t (M t) = M
  rw [a4b]; exact a4b M t
 have e2 : a0z (a0z M s w) t u = a0S s t M := by
  funext r c; unfold a0z a0S
  by_cases h1 : r = s
  ·subst h1; simp [hst]; rfl
  ·by_cases h2 : r = t
   ·subst h2; simp [h1]; rfl
   ·simp [h1, h2]
 rw [e1, e2] at h0
 grind
theorem d5K {n : Nat} {M : Nat → Nat → Rat} {t : Nat} (h : t + 1 < n) : det n (a0S t (t + 1) M) = -det n M :=
 c7x (by omega) (by omega) h fun N he => d8g h he
theorem e4h : ∀ (d : Nat) {n : Nat} {M : Nat → Nat → Rat} {s : Nat}, s + d + 1 < n → (∀ c, M s c = M (s + d + 1) c) → det n M = 0
 | 0, n, M, s, h, he => d8g (t := s) h he
 | d + 1, n, M, s, h, he => by
  have hsw := d5K (M := M) (t := s + d + 1) (n := n) (by omega)
  have : det n (a0S (s + d + 1) (s + d + 1 + 1) M) = 0 := e4h d (s := s) (by omega) fun c => by
   unfold a0S
   rw [if_neg (by omega), if_neg (by omega), if_pos rfl, he c]
   rfl
  rw [this] at hsw
  grind
theorem c7A {n : Nat} {M : Nat → Nat → Rat} {s t : Nat} (hst : s ≠ t) (hs : s < n) (ht : t < n) (he : ∀ c, M s c = M t c) : det n M = 0 := by
 rcases Nat.lt_or_gt_of_ne hst with h | h
 ·exact e4h (t - s - 1) (s := s) (by omega) fun c => by rw [he c]; congr 1; omega
 ·exact e4h (s - t - 1) (s := t) (by omega) fun c => by rw [← he c]; congr 1; omega
theorem d9f {n : Nat} {M : Nat → Nat → Rat} {s t : Nat} (hst : s ≠ t) (hs : s < n) (ht : t < n) : det n (a0S s t M) = -det n M :=
 c7x hst hs ht fun N he => c7A hst hs ht he
theorem e1z {n : Nat} {M : Nat → Nat → Rat} {s t : Nat} (x : Rat) (hst : s ≠ t) (hs : s < n) (ht : t < n) : det n (a0z M t fun c => M t c + x * M s c) = det n M := by
 have h := c7z (M := M) 1 x (M t) (M s) ht
 have e : (fun c => (1 : Rat) * M t c + x * M s c) = fun c => M t c + x * M s c := by funext c; grind
 rw [e, a4b] at h
 have h0 : det n (a0z M t (M s)) = 0 := c7A hst hs ht fun c => by unfold a0z; simp [hst]
 rw [h, h0]
 grind
def a4Z (M : Nat → Nat → Rat) : Nat → Nat → Rat := fun i k => M (i + 1) (k + 1) - M (i + 1) 0 / M 0 0 * M 0 (k + 1)
def a6L (M : Nat → Nat → Rat) (k : Nat) : Nat → Nat → Rat := fun r c => if 0 < r ∧ r ≤ k then M r c + -(M r 0 / M 0 0) * M 0 c else M r c
theorem d9g {n : Nat} (M : Nat → Nat → Rat) : ∀ k, k < n → det n (a6L M k) = det n M
 | 0, _ => by congr 1; funext r c; unfold a6L; rw [if_neg (by omega)]
 | k + 1, h => by
  rw [← d9g M k (by omega), ← e1z (M := a6L M k) (s := 0) (t := k + 1) (-(M (k + 1) 0 / M 0 0)) (by omega) (by omega) h]
  congr 1
  funext r c
  unfold a0z a6L
  by_cases e : r = k + 1
  ·subst e
   rw [if_pos ⟨by omega, Nat.le_refl _⟩, if_pos rfl]
   show _ = (if 0 < k + 1 ∧ k + 1 ≤ k then _ else _) + _ * (if 0 < 0 ∧ 0 ≤ k then _ else _)
   rw [if_neg (by omega), if_neg (by omega)]
  ·by_cases h2 : 0 < r ∧ r ≤ k
   ·rw [if_pos ⟨h2.1, by omega⟩, if_neg e, if_pos h2]
   ·rw [if_neg (by omega), if_neg e, if_neg h2]
theorem c7y {n : Nat} {M : Nat → Nat → Rat} (h : M 0 0 ≠ 0) : det (n + 1) M = M 0 0 * det n (a4Z M) := by
 rw [← d9g M n (by omega)]
 rw [det, b5Y (t := 0) (by omega) fun i hi h0 => by
  have : a6L M n i 0 = 0 := by
   unfold a6L
   rw [if_pos ⟨by omega, by omega⟩]
   grind
  rw [this]; grind]
 have e0 : a6L M n 0 0 = M 0 0 := by unfold a6L; rw [if_neg (by omega)]
 rw [e0]
 have : det n (fun r c => a6L M n (skip 0 r) (c + 1)) = det n (a4Z M) := by
  refine a1z fun r c hr hc => ?_
  have hs : skip 0 r = r + 1 := by unfold skip; rw [if_neg (by omega)]
  rw [hs]
  unfold a6L a4Z
  rw [if_pos ⟨by omega, by omega⟩]
  generalize M (r + 1) 0 / M 0 0 = x
  grind
 rw [this]
 simp only [sg]
 grind
theorem e4g : ∀ {n : Nat} {M : Nat → Nat → Rat}, (∀ r c, ∃ z : Int, M r c = z) → ∃ z : Int, det n M = z
 | 0, _, _ => ⟨1, rfl⟩
 | n + 1, M, h => by
  unfold det
  have hs : ∀ i, ∃ z : Int, sg i = z := by
   intro i
   induction i with
   | zero => exact ⟨1, rfl⟩
   | succ i ih => obtain ⟨z, hz⟩ := ih; exact ⟨-z, by rw [sg, hz, Rat.intCast_neg]⟩
  have ht : ∀ i, ∃ z : Int, sg i * M i 0 * det n (fun r c => M (skip i r) (c + 1)) = z := fun i => by
   obtain ⟨a, ha⟩ := hs i
   obtain ⟨b, hb⟩ := h i 0
   obtain ⟨c, hc⟩ := e4g (n := n) (M := fun r c => M (skip i r) (c + 1)) fun r c => h _ _
   exact ⟨a * b * c, by rw [ha, hb, hc, Rat.intCast_mul, Rat.intCast_mul]⟩
  have : ∀ k, ∃ z : Int, sumR (fun i => sg i * M i 0 * det n fun r c => M (skip i r) (c + 1)) k = z := by
   intro k
   induction k with
   | zero => exact ⟨0, rfl⟩
   | succ k ih =>
    obtain ⟨z, hz⟩ := ih
    obtain ⟨y, hy⟩ := ht k
    exact ⟨z + y, by rw [sumR, hz, hy, Rat.intCast_add]⟩
  exact this (n + 1)
end Go.Abs
namespace Go.Abs
def SS : Nat → (Nat → Nat → Rat) → Nat → Nat → Rat
 | 0, M => M
 | r + 1, M => SS r (a4Z M)
def piv : Nat → (Nat → Nat → Rat) → Prop
 | 0, _ => True
 | r + 1, M => M 0 0 ≠ 0 ∧ piv r (a4Z M)
theorem d8n : ∀ (r : Nat) (M : Nat → Nat → Rat), SS (r + 1) M = a4Z (SS r M)
 | 0, _ => rfl
 | r + 1, M => d8n r (a4Z M)
theorem b7y : ∀ (r : Nat) (M : Nat → Nat → Rat), piv (r + 1) M ↔ piv r M ∧ SS r M 0 0 ≠ 0
 | 0, M => by simp [piv, SS]
 | r + 1, M => by
  have h := b7y r (a4Z M)
  show M 0 0 ≠ 0 ∧ piv (r + 1) (a4Z M) ↔ (M 0 0 ≠ 0 ∧ piv r (a4Z M)) ∧ SS r (a4Z M) 0 0 ≠ 0
  rw [h, and_assoc]
theorem e8c : ∀ (r n : Nat) {M : Nat → Nat → Rat}, piv r M → det (r + n) M = det r M * det n (SS r M)
 | 0, n, M, _ => by simp only [Nat.zero_add, det, SS]; grind
 | r + 1, n, M, h => by
  rw [show r + 1 + n = (r + n) + 1 by omega, c7y h.1, c7y h.1, e8c r n h.2]
  show _ = M 0 0 * det r (a4Z M) * det n (SS r (a4Z M))
  grind
theorem f0d (M : Nat → Nat → Rat) : det 1 M = M 0 0 := by
 simp only [det, sumR, sg]; grind
theorem d2u (r : Nat) {M : Nat → Nat → Rat} (h : piv r M) : det (r + 1) M = det r M * SS r M 0 0 := by
 rw [e8c r 1 h, f0d]
theorem e8b : ∀ (r : Nat) {M : Nat → Nat → Rat}, piv r M → det r M ≠ 0
 | 0, _, _ => by simp only [det]; grind
 | r + 1, M, h => by
  have h' := (b7y r M).1 h
  rw [d2u r h'.1]
  have := e8b r h'.1
  have := h'.2
  grind
theorem c7Q : ∀ (r : Nat) {M N : Nat → Nat → Rat} {i j k l : Nat}, (∀ a b, a < r → b < r → M a b = N a b) → (∀ b, b < r → M (r + i) b = N (r + j) b) → (∀ a, a < r → M a (r + k) = N a (r + l)) → M (r + i) (r + k) = N (r + j) (r + l) → SS r M i k = SS r N j l
 | 0, M, N, i, j, k, l, _, _, _, h => by simpa [SS] using h
 | r + 1, M, N, i, j, k, l, h1, h2, h3, h4 => by
  show SS r (a4Z M) i k = SS r (a4Z N) j l
  have e : ∀ x : Nat, r + 1 + x = r + x + 1 := fun x => by omega
  have h2' : ∀ b, b < r + 1 → M (r + i + 1) b = N (r + j + 1) b := fun b hb => by rw [← e, ← e]; exact h2 b hb
  have h3' : ∀ a, a < r + 1 → M a (r + k + 1) = N a (r + l + 1) := fun a ha => by rw [← e, ← e]; exact h3 a ha
  have h4' : M (r + i + 1) (r + k + 1) = N (r + j + 1) (r + l + 1) := by rw [← e, ← e, ← e, ← e]; exact h4
  refine c7Q r (fun a b ha hb => ?_) (fun b hb => ?_) (fun a ha => ?_) ?_
  ·simp only [a4Z]; rw [h1 (a + 1) (b + 1) (by omega) (by omega), h1 (a + 1) 0 (by omega) (by omega), h1 0 0 (by omega) (by omega), h1 0 (b + 1) (by omega) (by omega)]
  ·simp only [a4Z]; rw [h2' (b + 1) (by omega), h2' 0 (by omega), h1 0 0 (by omega) (by omega), h1 0 (b + 1) (by omega) (by omega)]
  ·simp only [a4Z]; rw [h3' (a + 1) (by omega), h1 (a + 1) 0 (by omega) (by omega), h1 0 0 (by omega) (by omega), h3' 0 (by omega)]
  ·simp only [a4Z]; rw [h4', h2' 0 (by omega), h1 0 0 (by omega) (by omega), h3' 0 (by omega)]
theorem b4U : ∀ (r : Nat) {M N : Nat → Nat → Rat}, (∀ a b, a < r → b < r → M a b = N a b) → piv r M → piv r N
 | 0, _, _, _, _ => trivial
 | r + 1, M, N, h, hp => by
  rw [b7y] at hp ⊢
  refine ⟨b4U r (fun a b ha hb => h a b (by omega) (by omega)) hp.1, ?_⟩
  rw [← c7Q r (M := M) (N := N) (i := 0) (j := 0) (k := 0) (l := 0) (fun a b ha hb => h a b (by omega) (by omega)) (fun b hb => h _ _ (by omega) (by omega)) (fun a ha => h _ _ (by omega) (by omega)) (h _ _ (by omega) (by omega))]
  exact hp.2
def colm (cs : List Nat) (b : Nat) : Nat := if b < cs.length then cs.getD b 0 else b - cs.length
def a1j (B : Nat → Nat → Rat) (cs : List Nat) : Nat → Nat → Rat := fun a b => B a (colm cs b)
def a2R (B : Nat → Nat → Rat) (cs : List Nat) (i k : Nat) : Rat := SS cs.length (a1j B cs) (i - cs.length) k
def a7q (B : Nat → Nat → Rat) (cs : List Nat) : Rat := det cs.length (a1j B cs)
def Piv (B : Nat → Nat → Rat) (cs : List Nat) : Prop := piv cs.length (a1j B cs)
theorem c6N (B : Nat → Nat → Rat) (i k : Nat) : a2R B [] i k = B i k := by simp [a2R, SS, a1j, colm]
theorem e3x (B : Nat → Nat → Rat) : a7q B [] = 1 := rfl
theorem a3U {cs : List Nat} {c b : Nat} (h : b < cs.length) : colm (cs ++ [c]) b = colm cs b := by
 simp only [colm, List.length_append, List.length_cons, List.length_nil]
 rw [if_pos (by omega), if_pos h]
 simp [List.getD_eq_getElem?_getD, List.getElem?_append_left h]
theorem b2Q {cs : List Nat} {c : Nat} : colm (cs ++ [c]) cs.length = c := by
 simp only [colm, List.length_append, List.length_cons, List.length_nil]
 rw [if_pos (by omega)]
 simp
theorem a2B (cs : List Nat) (k : Nat) : colm cs (cs.length + k) = k := by
 simp only [colm]; rw [if_neg (by omega)]; omega
theorem d9t {B : Nat → Nat → Rat} {cs : List Nat} {c : Nat} (i : Nat) : SS cs.length (a1j B (cs ++ [c])) i 0 = a2R B cs (cs.length + i) c := by
 unfold a2R
 rw [Nat.add_sub_cancel_left]
 refine c7Q _ (fun a b _ hb => ?_) (fun b hb => ?_) (fun a _ => ?_) ?_
 ·simp only [a1j]; rw [a3U hb]
 ·simp only [a1j]; rw [a3U hb]
 ·simp only [a1j]; rw [Nat.add_zero, b2Q, a2B]
 ·simp only [a1j]; rw [Nat.add_zero, b2Q, a2B]
theorem e8l {B : Nat → Nat → Rat} {cs : List Nat} {c : Nat} (i k : Nat) : SS cs.length (a1j B (cs ++ [c])) i (k + 1) = a2R B cs (cs.length + i) k := by
 unfold a2R
 rw [Nat.add_sub_cancel_left]
 have e : colm (cs ++ [c]) (cs.length + (k + 1)) = k := by
  have := a2B (cs ++ [c]) k
  simp only [List.length_append, List.length_cons, List.length_nil] at this
  rw [show cs.length + (k + 1) = cs.length + (0 + 1) + k by omega]; exact this
 refine c7Q _ (fun a b _ hb => ?_) (fun b hb => ?_) (fun a _ => ?_) ?_
 ·simp only [a1j]; rw [a3U hb]
 ·simp only [a1j]; rw [a3U hb]
 ·simp only [a1j]; rw [e, a2B]
 ·simp only [a1j]; rw [e, a2B]
theorem a2N (cs : List Nat) (c : Nat) : (cs ++ [c]).length = cs.length + 1 := by simp
theorem d0x (B : Nat → Nat → Rat) (cs : List Nat) (c : Nat) {i k : Nat} (hi : cs.length < i) : a2R B (cs ++ [c]) i k = a2R B cs i k - a2R B cs i c / a2R B cs cs.length c * a2R B cs cs.length k := by
 have h := d8n cs.length (a1j B (cs ++ [c]))
 have e : a2R B (cs ++ [c]) i k = a4Z (SS cs.length (a1j B (cs ++ [c]))) (i - (cs.length + 1)) k := by
  unfold a2R
  rw [a2N, h]
 rw [e]
 simp only [a4Z]
 rw [e8l, d9t, d9t, e8l, Nat.add_zero]
 rw [show cs.length + (i - (cs.length + 1) + 1) = i by omega]
 rfl
theorem d0t {B : Nat → Nat → Rat} {cs : List Nat} (hp : Piv B cs) (c : Nat) : a7q B (cs ++ [c]) = a7q B cs * a2R B cs cs.length c := by
 unfold a7q
 have hp' : piv cs.length (a1j B (cs ++ [c])) := b4U _ (fun a b _ hb => by simp only [a1j]; rw [a3U hb]) hp
 rw [a2N, d2u _ hp', d9t, Nat.add_zero]
 congr 1
 exact a1z fun a b _ hb => by simp only [a1j]; rw [a3U hb]
theorem d1K {B : Nat → Nat → Rat} {cs : List Nat} (hp : Piv B cs) {c : Nat} (h : a2R B cs cs.length c ≠ 0) : Piv B (cs ++ [c]) := by
 unfold Piv
 rw [a2N, b7y]
 refine ⟨b4U _ (fun a b _ hb => by simp only [a1j]; rw [a3U hb]) hp, ?_⟩
 rw [d9t, Nat.add_zero]; exact h
theorem d1Z {B : Nat → Nat → Rat} {cs : List Nat} (hp : Piv B cs) : a7q B cs ≠ 0 := e8b _ hp
theorem d5t {B : Nat → Nat → Rat} {cs : List Nat} (hp : Piv B cs) (hB : ∀ i k, ∃ z : Int, B i k = z) {i : Nat} (k : Nat) (hi : cs.length ≤ i) : ∃ z : Int, a7q B cs * a2R B cs i k = z := by
 let N : Nat → Nat → Rat := fun a b => B (if a = cs.length then i else a) (colm (cs ++ [k]) b)
 obtain ⟨z, hz⟩ := e4g (n := cs.length + 1) (M := N) fun r c => hB _ _
 refine ⟨z, ?_⟩
 have hN : ∀ a b, a < cs.length → b < cs.length → a1j B cs a b = N a b := fun a b ha hb => by
  simp only [N, a1j]
  rw [if_neg (by omega), a3U hb]
 rw [← hz, d2u _ (b4U _ hN hp)]
 unfold a7q a2R
 rw [a1z hN]
 congr 1
 refine c7Q _ hN (fun b hb => ?_) (fun a ha => ?_) ?_
 ·simp only [N, a1j]; rw [Nat.add_zero, if_pos rfl, a3U hb]
  rw [show cs.length + (i - cs.length) = i by omega]
 ·simp only [N, a1j]; rw [if_neg (by omega), Nat.add_zero, b2Q, a2B]
 ·simp only [N, a1j]; rw [Nat.add_zero, if_pos rfl, b2Q, a2B, show cs.length + (i - cs.length) = i by omega]
theorem b2K {B : Nat → Nat → Rat} {cs : List Nat} {s t : Nat} (hs : cs.length ≤ s) (ht : cs.length ≤ t) {i : Nat} (k : Nat) (hi : cs.length ≤ i) : a2R (a0S s t B) cs i k = a2R B cs (if i = s then t else if i = t then s else i) k := by
 unfold a2R
 have hj : cs.length ≤ (if i = s then t else if i = t then s else i) := by split; exact ht; split; exact hs; exact hi
 generalize hj' : (if i = s then t else if i = t then s else i) = j at hj
 have hr : ∀ c, a0S s t B i c = B j c := fun c => by
  unfold a0S; rw [← hj']
  split
  ·rfl
  ·split <;> rfl
 refine c7Q _ (fun a b ha hb => ?_) (fun b hb => ?_) (fun a ha => ?_) ?_
 ·simp only [a1j, a0S]; rw [if_neg (by omega), if_neg (by omega)]
 ·simp only [a1j]; rw [show cs.length + (i - cs.length) = i by omega, show cs.length + (j - cs.length) = j by omega, hr]
 ·simp only [a1j, a0S]; rw [if_neg (by omega), if_neg (by omega)]
 ·simp only [a1j]; rw [show cs.length + (i - cs.length) = i by omega, show cs.length + (j - cs.length) = j by omega, hr]
theorem b9P {B : Nat → Nat → Rat} {cs : List Nat} {s t : Nat} (hs : cs.length ≤ s) (ht : cs.length ≤ t) : a7q (a0S s t B) cs = a7q B cs := by
 unfold a7q
 exact a1z fun a b ha _ => by simp only [a1j, a0S]; rw [if_neg (by omega), if_neg (by omega)]
theorem d1J {B : Nat → Nat → Rat} {cs : List Nat} {s t : Nat} (hs : cs.length ≤ s) (ht : cs.length ≤ t) (hp : Piv B cs) : Piv (a0S s t B) cs := by
 unfold Piv at hp ⊢
 exact b4U _ (fun a b ha _ => by simp only [a1j, a0S]; rw [if_neg (by omega), if_neg (by omega)]) hp
end Go.Abs
namespace Go.Abs
def a3R (f : Nat → Rat) (r n : Nat) : Option Nat := (List.range n).find? fun p => decide (r ≤ p) && decide (f p ≠ 0)
theorem a1H (f : Nat → Rat) (r n : Nat) : (∃ p, a3R f r n = some p ∧ r ≤ p ∧ p < n ∧ f p ≠ 0 ∧ ∀ j, r ≤ j → j < p → f j = 0) ∨ (a3R f r n = none ∧ ∀ j, r ≤ j → j < n → f j = 0) := by
 unfold a3R
 cases h : (List.range n).find? fun p => decide (r ≤ p) && decide (f p ≠ 0) with
 | none =>
  refine .inr ⟨rfl, fun j h1 h2 => ?_⟩
  rw [List.find?_eq_none] at h
  have := h j (List.mem_range.2 h2)
  simp [h1] at this
  exact this
 | some p =>
  refine .inl ⟨p, rfl, ?_⟩
  rw [List.find?_range_eq_some] at h
  obtain ⟨h1, h2, h3⟩ := h
  simp at h1
  refine ⟨h1.1, List.mem_range.1 h2, h1.2, fun j hj1 hj2 => ?_⟩
  have := h3 j hj2
  simp [hj1] at this
  exact this
structure GS where
 B : Nat → Nat → Rat
 cs : List Nat
 odd : Bool
def GS.g (s : GS) (i k : Nat) : Rat := a2R s.B s.cs i k
def GS.last (s : GS) : Rat := a7q s.B s.cs
def b1T (n : Nat) (s : GS) (c : Nat) : GS := match a3R (fun p => s.g p c) s.cs.length n with
 | none => s
 | some p => ⟨a0S p s.cs.length s.B, s.cs ++ [c], if p = s.cs.length then s.odd else !s.odd⟩
def gproc (n : Nat) (B : Nat → Nat → Rat) : Nat → GS
 | 0 => ⟨B, [], false⟩
 | c + 1 => b1T n (gproc n B c) c
structure GOk (n : Nat) (s : GS) : Prop where
 piv : Piv s.B s.cs
 len : s.cs.length ≤ n
theorem d9Q (r : Nat) (M : Nat → Nat → Rat) : a0S r r M = M := by
 funext i k; unfold a0S
 split
 ·rename_i h; rw [h]
 ·rfl
theorem e5l {B : Nat → Nat → Rat} (h : ∀ i k, ∃ z : Int, B i k = z) (s t : Nat) : ∀ i k, ∃ z : Int, a0S s t B i k = z := by
 intro i k; unfold a0S
 split
 ·exact h _ _
 ·split <;> exact h _ _
theorem a3u {n c : Nat} {s : GS} (h : a3R (fun p => s.g p c) s.cs.length n = none) : b1T n s c = s := by unfold b1T; rw [h]
theorem a1o {n c p : Nat} {s : GS} (h : a3R (fun p => s.g p c) s.cs.length n = some p) : b1T n s c = ⟨a0S p s.cs.length s.B, s.cs ++ [c], if p = s.cs.length then s.odd else !s.odd⟩ := by unfold b1T; rw [h]
theorem a3s {s : GS} {p : Nat} (hp : s.cs.length ≤ p) (k : Nat) : a2R (a0S p s.cs.length s.B) s.cs s.cs.length k = s.g p k := by
 rw [b2K hp (Nat.le_refl _) k (Nat.le_refl _)]
 unfold GS.g
 by_cases h : s.cs.length = p
 ·rw [if_pos h, ← h]
 ·rw [if_neg h, if_pos rfl]
theorem d2g {n c : Nat} {s : GS} (h : GOk n s) : GOk n (b1T n s c) := by
 rcases a1H (fun p => s.g p c) s.cs.length n with ⟨p, hf, h1, h2, h3, _⟩ | ⟨hf, _⟩
 ·rw [a1o hf]
  refine ⟨d1K (d1J h1 (Nat.le_refl _) h.piv) ?_, by rw [a2N]; omega⟩
  rw [a3s h1]; exact h3
 ·rw [a3u hf]; exact h
theorem d5o {n : Nat} {B : Nat → Nat → Rat} : ∀ c, GOk n (gproc n B c)
 | 0 => ⟨trivial, Nat.zero_le _⟩
 | c + 1 => d2g (d5o c)
theorem b8f {n : Nat} {B : Nat → Nat → Rat} (_hB : ∀ i k, ∃ z : Int, B i k = z) (c : Nat) : GOk n (gproc n B c) := d5o c
theorem d1c {s : GS} {p : Nat} (hp : s.cs.length ≤ p) {i : Nat} (k c : Nat) (hi : s.cs.length < i) :
  a2R (a0S p s.cs.length s.B) (s.cs ++ [c]) i k = s.g (if i = p then s.cs.length else i) k - s.g (if i = p then s.cs.length else i) c / s.g p c * s.g p k := by
 rw [d0x _ _ _ hi, a3s hp, a3s hp, b2K hp (Nat.le_refl _) k (by omega), b2K hp (Nat.le_refl _) c (by omega)]
 unfold GS.g
 have e : (if i = p then s.cs.length else if i = s.cs.length then p else i) = if i = p then s.cs.length else i := by
  by_cases h : i = p
  ·rw [if_pos h, if_pos h]
  ·rw [if_neg h, if_neg h, if_neg (by omega)]
 rw [e]
theorem d3f {n : Nat} {s : GS} (h : GOk n s) {p : Nat} (hp : s.cs.length ≤ p) (c : Nat) : a7q (a0S p s.cs.length s.B) (s.cs ++ [c]) = s.last * s.g p c := by
 rw [d0t (d1J hp (Nat.le_refl _) h.piv), a3s hp, b9P hp (Nat.le_refl _)]; rfl
theorem d2F {n : Nat} {s : GS} (h : GOk n s) (hint : ∀ i k, ∃ z : Int, s.B i k = z) {p c i k : Nat} (hp : s.cs.length ≤ p) (hf : s.g p c ≠ 0) (hi : s.cs.length < i) {last a b x y : Int} (hl : (last : Rat) = s.last)
  (ha : (a : Rat) = s.last * s.g p c) (hb : (b : Rat) = s.last * s.g (if i = p then s.cs.length else i) k) (hx : (x : Rat) = s.last * s.g (if i = p then s.cs.length else i) c) (hy : (y : Rat) = s.last * s.g p k) :
  ∃ z : Int, a * b - x * y = last * z ∧ (z : Rat) = (s.last * s.g p c) * a2R (a0S p s.cs.length s.B) (s.cs ++ [c]) i k := by
 have hok := d2g (c := c) h
 have hpiv : Piv (a0S p s.cs.length s.B) (s.cs ++ [c]) := d1K (d1J hp (Nat.le_refl _) h.piv) (by rw [a3s hp]; exact hf)
 obtain ⟨z, hz⟩ := d5t hpiv (e5l hint _ _) k (by rw [a2N]; omega : (s.cs ++ [c]).length ≤ i)
 rw [d3f h hp] at hz
 refine ⟨z, ?_, hz.symm⟩
 have hq : ((a * b - x * y : Int) : Rat) = ((last * z : Int) : Rat) := by
  rw [Rat.intCast_sub, Rat.intCast_mul, Rat.intCast_mul, Rat.intCast_mul, ha, hb, hx, hy, hl, ← hz, d1c hp k c hi]
  have hne := d1Z h.piv
  generalize s.g (if i = p then s.cs.length else i) k = u
  generalize s.g (if i = p then s.cs.length else i) c = v
  generalize s.last = l
  generalize s.g p k = w
  generalize s.g p c = t at *
  grind
 exact Rat.intCast_inj.1 hq
end Go.Abs
namespace Go.Abs
def a0N (M : Nat → Nat → Rat) (t : Nat) (u : Nat → Rat) : Nat → Nat → Rat := fun r c => if c = t then u r else M r c
theorem c7F (M : Nat → Nat → Rat) (t : Nat) : a0N M t (fun r => M r t) = M := by
 funext r c; unfold a0N; split
 ·rename_i h; rw [h]
 ·rfl
theorem a4F {M : Nat → Nat → Rat} {t i : Nat} {u : Nat → Rat} : (fun r c => a0N M (t + 1) u (skip i r) (c + 1)) = a0N (fun r c => M (skip i r) (c + 1)) t fun r => u (skip i r) := by
 funext r c; unfold a0N
 by_cases h : c = t
 ·rw [if_pos (by omega), if_pos h]
 ·rw [if_neg (by omega), if_neg h]
theorem a9G {M : Nat → Nat → Rat} {i : Nat} {u : Nat → Rat} : (fun r c => a0N M 0 u (skip i r) (c + 1)) = fun r c => M (skip i r) (c + 1) := by
 funext r c; unfold a0N; rw [if_neg (by omega)]
theorem b2P : ∀ {n : Nat} {M : Nat → Nat → Rat} {t : Nat} (x y : Rat) (u w : Nat → Rat), t < n → det n (a0N M t fun r => x * u r + y * w r) = x * det n (a0N M t u) + y * det n (a0N M t w)
 | 0, _, _, _, _, _, _, h => absurd h (by omega)
 | n + 1, M, 0, x, y, u, w, h => by
  unfold det
  rw [← a6y]
  refine a1n fun i hi => ?_
  rw [a9G, a9G, a9G]
  simp only [a0N, if_true]
  grind
 | n + 1, M, t + 1, x, y, u, w, h => by
  unfold det
  rw [← a6y]
  refine a1n fun i hi => ?_
  rw [a4F, a4F, a4F, b2P x y _ _ (by omega)]
  simp only [a0N]
  rw [if_neg (by omega), if_neg (by omega), if_neg (by omega)]
  grind
theorem a6i {n t : Nat} {M : Nat → Nat → Rat} (ht : t < n) (h : ∀ r, M r t = 0) : det n M = 0 := by
 have := b2P (n := n) (M := M) (t := t) 0 0 (fun r => M r t) (fun r => M r t) ht
 have e : (fun r => 0 * M r t + 0 * M r t) = fun r => M r t := by funext r; rw [h r]; grind
 rw [e, c7F] at this
 grind
theorem d5M {n t : Nat} {M : Nat → Nat → Rat} (ht : t < n) (h : ∀ r, r < n → M r t = 0) : det n M = 0 := by
 have e : det n M = det n (a0N M t fun _ => 0) := a1z fun r c hr _ => by
  unfold a0N; split
  ·rename_i hc; rw [hc, h r hr]
  ·rfl
 rw [e]
 exact a6i ht fun r => by unfold a0N; rw [if_pos rfl]
theorem e1x {n t : Nat} {M : Nat → Nat → Rat} (ht : t < n) (h : ∀ r, M r 0 = M r (t + 1)) : det (n + 1) M = 0 := by
 have key : ∀ N : Nat → Nat → Rat, (∀ r, N r 0 = N r (t + 1)) → N 0 0 ≠ 0 → det (n + 1) N = 0 := by
  intro N hN h0
  rw [c7y h0, a6i (n := n) (t := t) ht (M := a4Z N) fun r => by
   unfold a4Z
   rw [← hN, ← hN]
   grind]
  grind
 by_cases hz : ∀ r, r < n + 1 → M r 0 = 0
 ·exact d5M (t := 0) (by omega) hz
 ·have : ∃ p, p < n + 1 ∧ M p 0 ≠ 0 := Classical.byContradiction fun hc => hz fun r hr => Classical.byContradiction fun h1 => hc ⟨r, hr, h1⟩
  obtain ⟨p, hp, hp0⟩ := this
  by_cases h0 : p = 0
  ·subst h0; exact key M h hp0
  ·have hs := d9f (M := M) (s := 0) (t := p) (Ne.symm h0) (by omega) hp
   have hk := key (a0S 0 p M) (fun r => by
    unfold a0S
    split
    ·exact h p
    ·split
     ·exact h 0
     ·exact h r) (by unfold a0S; rw [if_pos rfl]; exact hp0)
   rw [hk] at hs
   grind
theorem c7B : ∀ (s : Nat) {n t : Nat} {M : Nat → Nat → Rat}, s + t + 1 < n → (∀ r, M r s = M r (s + t + 1)) → det n M = 0
 | s, 0, t, M, h, _ => absurd h (by omega)
 | 0, n + 1, t, M, h, he => e1x (t := t) (by omega) fun r => by have := he r; rwa [Nat.zero_add] at this
 | s + 1, n + 1, t, M, h, he => by
  unfold det
  refine c4E fun i hi => ?_
  rw [c7B s (t := t) (by omega) fun r => by
   have := he (skip i r)
   rwa [show s + 1 + t + 1 = s + t + 1 + 1 by omega] at this]
  grind
theorem e1y {n s t : Nat} {M : Nat → Nat → Rat} (hs : s < n) (ht : t < n) (hst : s ≠ t) (he : ∀ r, M r s = M r t) : det n M = 0 := by
 rcases Nat.lt_or_gt_of_ne hst with h | h
 ·exact c7B s (t := t - s - 1) (by omega) fun r => by rw [show s + (t - s - 1) + 1 = t by omega]; exact he r
 ·exact c7B t (t := s - t - 1) (by omega) fun r => by rw [show t + (s - t - 1) + 1 = s by omega]; exact (he r).symm
theorem e4l {n i : Nat} {A : Nat → Nat → Rat} (x : Nat → Rat) (hi : i < n) : ∀ m, m ≤ n → det n (a0N A i fun r => sumR (fun j => A r j * x j) m) = if i < m then x i * det n A else 0
 | 0, _ => by
  rw [if_neg (by omega)]
  exact a6i hi fun r => by unfold a0N; rw [if_pos rfl]; rfl
 | m + 1, h => by
  have hl := b2P (M := A) 1 (x m) (fun r => sumR (fun j => A r j * x j) m) (fun r => A r m) hi
  have e : (fun r => (1 : Rat) * sumR (fun j => A r j * x j) m + x m * A r m) = fun r => sumR (fun j => A r j * x j) (m + 1) := by
   funext r; simp only [sumR]; grind
  rw [e, e4l x hi m (by omega)] at hl
  rw [hl]
  by_cases him : i = m
  ·subst him
   rw [if_neg (by omega), if_pos (by omega), c7F]
   grind
  ·have h0 : det n (a0N A i fun r => A r m) = 0 := e1y hi (show m < n by omega) him fun r => by
    unfold a0N
    rw [if_pos rfl, if_neg (Ne.symm him)]
   rw [h0]
   by_cases h1 : i < m
   ·rw [if_pos h1, if_pos (by omega)]; grind
   ·rw [if_neg h1, if_neg (by omega)]; grind
theorem c7C : ∀ {n e : Nat} {M : Nat → Nat → Rat}, n ≤ LB → (∀ r c, r < n → c < n → ∃ z : Int, M r c = z ∧ z.natAbs ≤ LB ^ e) → ∃ z : Int, det n M = z ∧ z.natAbs ≤ LB ^ (n * (e + 1))
 | 0, e, _, _, _ => ⟨1, rfl, by simp⟩
 | n + 1, e, M, hn, h => by
  unfold det
  have hs : ∀ i, ∃ z : Int, sg i = z ∧ z.natAbs = 1 := by
   intro i
   induction i with
   | zero => exact ⟨1, rfl, rfl⟩
   | succ i ih => obtain ⟨z, hz, ha⟩ := ih; exact ⟨-z, by rw [sg, hz, Rat.intCast_neg], by rw [Int.natAbs_neg]; exact ha⟩
  have ht : ∀ i, i < n + 1 → ∃ z : Int, sg i * M i 0 * det n (fun r c => M (skip i r) (c + 1)) = z ∧ z.natAbs ≤ LB ^ e * LB ^ (n * (e + 1)) := fun i hi => by
   obtain ⟨a, ha, ha1⟩ := hs i
   obtain ⟨b, hb, hb1⟩ := h i 0 hi (by omega)
   obtain ⟨c, hc, hc1⟩ := c7C (n := n) (e := e) (M := fun r c => M (skip i r) (c + 1)) (by omega) fun r c hr hc => h _ _ (d6z hr) (by omega)
   refine ⟨a * b * c, by rw [ha, hb, hc, Rat.intCast_mul, Rat.intCast_mul], ?_⟩
   rw [Int.natAbs_mul, Int.natAbs_mul, ha1, Nat.one_mul]
   exact Nat.mul_le_mul hb1 hc1
  have : ∀ k, k ≤ n + 1 → ∃ z : Int, sumR (fun i => sg i * M i 0 * det n fun r c => M (skip i r) (c + 1)) k = z ∧ z.natAbs ≤ k * (LB ^ e * LB ^ (n * (e + 1))) := by
   intro k
   induction k with
   | zero => exact fun _ => ⟨0, rfl, by simp⟩
   | succ k ih =>
    intro hk
    obtain ⟨z, hz, hz1⟩ := ih (by omega)
    obtain ⟨y, hy, hy1⟩ := ht k (by omega)
    refine ⟨z + y, by rw [sumR, hz, hy, Rat.intCast_add], ?_⟩
    have := Int.natAbs_add_le z y
    rw [Nat.add_mul, Nat.one_mul]
    omega
  obtain ⟨z, hz, hz1⟩ := this (n + 1) (Nat.le_refl _)
  refine ⟨z, hz, Nat.le_trans hz1 ?_⟩
  rw [show (n + 1) * (e + 1) = 1 + (e + n * (e + 1)) by rw [Nat.add_mul]; omega, Nat.pow_add, Nat.pow_add, Nat.pow_one]
  exact Nat.mul_le_mul_right _ hn
end Go.Abs
namespace Go.Abs
structure JS where
 s : GS
 M : Nat → Nat → Rat
def JS.r (j : JS) : Nat := j.s.cs.length
def jel (r c : Nat) (M : Nat → Nat → Rat) : Nat → Nat → Rat := fun i k => if i = r then M r k / M r c else M i k - M i c * (M r k / M r c)
def d2a (n : Nat) (j : JS) (c : Nat) : JS := match a3R (fun p => j.s.g p c) j.s.cs.length n with
 | none => j
 | some p => ⟨b1T n j.s c, jel j.s.cs.length c (a0S p j.s.cs.length j.M)⟩
def a7Y (n : Nat) (B : Nat → Nat → Rat) : Nat → JS
 | 0 => ⟨⟨B, [], false⟩, B⟩
 | c + 1 => d2a n (a7Y n B c) c
theorem e9l (n : Nat) (j : JS) (c : Nat) : (d2a n j c).s = b1T n j.s c := by
 unfold d2a
 cases h : a3R (fun p => j.s.g p c) j.s.cs.length n with
 | none => rw [a3u h]
 | some p => rfl
theorem a9l (n : Nat) (B : Nat → Nat → Rat) : ∀ c, (a7Y n B c).s = gproc n B c
 | 0 => rfl
 | c + 1 => by rw [a7Y, e9l, a9l n B c]; rfl
theorem e1i {n c : Nat} {j : JS} (h : a3R (fun p => j.s.g p c) j.s.cs.length n = none) : d2a n j c = j := by unfold d2a; rw [h]
theorem e1h {n c p : Nat} {j : JS} (h : a3R (fun p => j.s.g p c) j.s.cs.length n = some p) : d2a n j c = ⟨⟨a0S p j.s.cs.length j.s.B, j.s.cs ++ [c], if p = j.s.cs.length then j.s.odd else !j.s.odd⟩, jel j.s.cs.length c (a0S p j.s.cs.length j.M)⟩ := by
 have : d2a n j c = ⟨b1T n j.s c, jel j.s.cs.length c (a0S p j.s.cs.length j.M)⟩ := by unfold d2a; rw [h]
 rw [this, a1o h]
structure JOk (n : Nat) (j : JS) : Prop where
 g : GOk n j.s
 low : ∀ i k, j.s.cs.length ≤ i → j.M i k = j.s.g i k
 up : ∀ a k, j.s.B a k = sumR (fun i => j.s.B a (j.s.cs.getD i 0) * j.M i k) j.s.cs.length + if j.s.cs.length ≤ a then j.M a k else 0
theorem e5m (s t : Nat) (M : Nat → Nat → Rat) (a : Nat) : ∃ b, (∀ N : Nat → Nat → Rat, ∀ k, a0S s t N a k = N b k) ∧ ((s ≤ a ∨ t ≤ a) → True) ∧ (b = if a = s then t else if a = t then s else a) := by
 refine ⟨if a = s then t else if a = t then s else a, fun N k => ?_, fun _ => trivial, rfl⟩
 unfold a0S
 split
 ·rfl
 ·split <;> rfl
theorem e6k {n c : Nat} {j : JS} (h : JOk n j) : JOk n (d2a n j c) := by
 rcases a1H (fun p => j.s.g p c) j.s.cs.length n with ⟨p, hf, h1, h2, h3, _⟩ | ⟨hf, _⟩
 ·have hg := d2g (c := c) h.g
  rw [a1o hf] at hg
  rw [e1h hf]
  have hlow : ∀ i k, j.s.cs.length ≤ i → a0S p j.s.cs.length j.M i k = j.s.g (if i = p then j.s.cs.length else if i = j.s.cs.length then p else i) k := by
   intro i k hi
   unfold a0S
   split
   ·exact h.low _ _ (Nat.le_refl _)
   ·split
    ·exact h.low _ _ h1
    ·exact h.low _ _ hi
  have hr : ∀ k, a0S p j.s.cs.length j.M j.s.cs.length k = j.s.g p k := by
   intro k
   rw [hlow _ _ (Nat.le_refl _)]
   by_cases e : j.s.cs.length = p
   ·rw [if_pos e, e]
   ·rw [if_neg e, if_pos rfl]
  refine ⟨hg, fun i k hi => ?_, fun a k => ?_⟩
  ·simp only [a2N] at hi
   show jel _ c _ i k = a2R (a0S p j.s.cs.length j.s.B) (j.s.cs ++ [c]) i k
   unfold jel
   rw [if_neg (by omega), d1c h1 k c (by omega), hr, hr, hlow _ _ (by omega), hlow _ _ (by omega)]
   have e : (if i = p then j.s.cs.length else if i = j.s.cs.length then p else i) = if i = p then j.s.cs.length else i := by
    by_cases h : i = p
    ·rw [if_pos h, if_pos h]
    ·rw [if_neg h, if_neg h, if_neg (by omega)]
   rw [e]
   generalize j.s.g (if i = p then j.s.cs.length else i) k = u
   generalize j.s.g (if i = p then j.s.cs.length else i) c = v
   generalize j.s.g p k = w
   generalize j.s.g p c = t at *
   grind
  ·-- the rows are made of those above
   show a0S p j.s.cs.length j.s.B a k = sumR (fun i => a0S p j.s.cs.length j.s.B a ((j.s.cs ++ [c]).getD i 0) * jel j.s.cs.length c (a0S p j.s.cs.length j.M) i k) (j.s.cs ++ [c]).length +
    if (j.s.cs ++ [c]).length ≤ a then jel j.s.cs.length c (a0S p j.s.cs.length j.M) a k else 0
   rw [a2N]
   obtain ⟨b, hb, _, hbe⟩ := e5m p j.s.cs.length j.s.B a
   have hba : (j.s.cs.length ≤ a) = (j.s.cs.length ≤ b) := by
    rw [hbe, eq_iff_iff]
    split
    ·constructor <;> intro _ <;> omega
    ·split
     ·constructor <;> intro _ <;> omega
     ·exact Iff.rfl
   have hinv : ∀ k, a0S p j.s.cs.length j.s.B a k = sumR (fun i => a0S p j.s.cs.length j.s.B a (j.s.cs.getD i 0) * j.M i k) j.s.cs.length + if j.s.cs.length ≤ a then a0S p j.s.cs.length j.M a k else 0 := by
    intro k
    simp only [hb, hba]
    exact h.up b k
   have hq0 : a0S p j.s.cs.length j.M j.s.cs.length c ≠ 0 := by rw [hr]; exact h3
   have hold : ∀ i, i < j.s.cs.length → ∀ k, a0S p j.s.cs.length j.M i k = j.M i k := by
    intro i hi k; unfold a0S; rw [if_neg (by omega), if_neg (by omega)]
   generalize hB : a0S p j.s.cs.length j.s.B = B' at *
   generalize hM : a0S p j.s.cs.length j.M = M0 at *
   generalize hq : M0 j.s.cs.length k / M0 j.s.cs.length c = q
   rw [sumR]
   have hs : sumR (fun i => B' a ((j.s.cs ++ [c]).getD i 0) * jel j.s.cs.length c M0 i k) j.s.cs.length = 1 * sumR (fun i => B' a (j.s.cs.getD i 0) * j.M i k) j.s.cs.length + (-q) * sumR (fun i => B' a (j.s.cs.getD i 0) * j.M i c) j.s.cs.length := by
    rw [← a6y]
    refine a1n fun i hi => ?_
    have e : (j.s.cs ++ [c]).getD i 0 = j.s.cs.getD i 0 := by
     simp [List.getD_eq_getElem?_getD, List.getElem?_append_left hi]
    rw [e]
    unfold jel
    rw [if_neg (by omega), hq, hold i hi, hold i hi]
    grind
   rw [hs]
   have e2 : (j.s.cs ++ [c]).getD j.s.cs.length 0 = c := by simp [List.getD_eq_getElem?_getD]
   rw [e2]
   have e3 : jel j.s.cs.length c M0 j.s.cs.length k = q := by unfold jel; rw [if_pos rfl, hq]
   rw [e3]
   have i1 := hinv k
   have i2 := hinv c
   by_cases ha : j.s.cs.length ≤ a
   ·rw [if_pos ha] at i1 i2
    by_cases ha2 : j.s.cs.length + 1 ≤ a
    ·rw [if_pos ha2]
     have e4 : jel j.s.cs.length c M0 a k = M0 a k - M0 a c * q := by unfold jel; rw [if_neg (by omega), hq]
     rw [e4]
     grind
    ·rw [if_neg ha2]
     have : a = j.s.cs.length := by omega
     subst this
     have e5 : q * M0 j.s.cs.length c = M0 j.s.cs.length k := by rw [← hq]; exact Rat.div_mul_cancel hq0
     grind
   ·rw [if_neg ha] at i1 i2
    rw [if_neg (by omega)]
    grind
 ·rw [e1i hf]; exact h
theorem d4Y {n : Nat} {B : Nat → Nat → Rat} : ∀ c, JOk n (a7Y n B c)
 | 0 => ⟨⟨trivial, Nat.zero_le _⟩, fun i k _ => by simp [a7Y, GS.g, c6N], fun a k => by simp only [a7Y, sumR, List.length_nil, Nat.zero_le, if_true]; grind⟩
 | c + 1 => e6k (d4Y c)
theorem d8U {n : Nat} {B : Nat → Nat → Rat} (_hB : ∀ i k, ∃ z : Int, B i k = z) (c : Nat) : JOk n (a7Y n B c) := d4Y c
def Bd (e : Nat) (B : Nat → Nat → Rat) : Prop := ∀ i k, ∃ z : Int, B i k = z ∧ z.natAbs ≤ LB ^ e
theorem Bd.swap {e : Nat} {B : Nat → Nat → Rat} (h : Bd e B) (s t : Nat) : Bd e (a0S s t B) := by
 intro i k; unfold a0S
 split
 ·exact h _ _
 ·split <;> exact h _ _
theorem Bd.gproc {e n : Nat} {B : Nat → Nat → Rat} (h : Bd e B) : ∀ c, Bd e (gproc n B c).B
 | 0 => h
 | c + 1 => by
  have ih := Bd.gproc (n := n) h c
  show Bd e (b1T n (Abs.gproc n B c) c).B
  unfold b1T
  cases a3R (fun p => (Abs.gproc n B c).g p c) (Abs.gproc n B c).cs.length n with
  | none => exact ih
  | some p => exact ih.swap _ _
theorem c6E {e : Nat} {B : Nat → Nat → Rat} (hB : Bd e B) (cs : List Nat) (hn : cs.length ≤ LB) : ∃ z : Int, a7q B cs = z ∧ z.natAbs ≤ LB ^ (cs.length * (e + 1)) :=
 c7C hn fun _ _ _ _ => hB _ _
theorem c6O {e : Nat} {B : Nat → Nat → Rat} {cs : List Nat} (hp : Piv B cs) (hB : Bd e B) (hn : cs.length + 1 ≤ LB) {i : Nat} (k : Nat) (hi : cs.length ≤ i) : ∃ z : Int, a7q B cs * a2R B cs i k = z ∧ z.natAbs ≤ LB ^ ((cs.length + 1) * (e + 1)) := by
 let N : Nat → Nat → Rat := fun a b => B (if a = cs.length then i else a) (colm (cs ++ [k]) b)
 obtain ⟨z, hz, hz1⟩ := c7C (n := cs.length + 1) (e := e) (M := N) hn fun r c _ _ => hB _ _
 refine ⟨z, ?_, hz1⟩
 have hN : ∀ a b, a < cs.length → b < cs.length → a1j B cs a b = N a b := fun a b ha hb => by
  simp only [N, a1j]
  rw [if_neg (by omega), a3U hb]
 rw [← hz, d2u _ (b4U _ hN hp)]
 unfold a7q a2R
 rw [a1z hN]
 congr 1
 refine c7Q _ hN (fun b hb => ?_) (fun a ha => ?_) ?_
 ·simp only [N, a1j]; rw [Nat.add_zero, if_pos rfl, a3U hb]
  rw [show cs.length + (i - cs.length) = i by omega]
 ·simp only [N, a1j]; rw [if_neg (by omega), Nat.add_zero, b2Q, a2B]
 ·simp only [N, a1j]; rw [Nat.add_zero, if_pos rfl, b2Q, a2B, show cs.length + (i - cs.length) = i by omega]
theorem e2G {l z : Int} {q : Rat} (hl : (l : Rat) ≠ 0) (h : (l : Rat) * q = z) : q.num.natAbs ≤ z.natAbs ∧ q.den ≤ l.natAbs := by
 have hl' : l ≠ 0 := fun e => hl (by rw [e]; rfl)
 have e : q = Rat.divInt z l := by
  rw [Rat.divInt_eq_div, ← h]
  generalize (l : Rat) = x at *
  grind
 constructor
 ·rw [e, Rat.num_divInt, Int.natAbs_ediv_of_dvd]
  ·rw [Int.natAbs_mul, Int.natAbs_sign_of_ne_zero hl', Nat.one_mul]
   exact Nat.div_le_self _ _
  ·exact Int.dvd_mul_of_dvd_right (Int.gcd_dvd_right ..)
 ·rw [e, Rat.den_divInt, if_neg hl']
  exact Nat.div_le_self _ _
def KB (e : Nat) : Nat := 65 * (e + 1)
theorem lbm {a b : Nat} (h : a ≤ b) : LB ^ a ≤ LB ^ b := Nat.pow_le_pow_right (by decide) h
theorem e6i {e n : Nat} {j : JS} (h : JOk n j) (hn : j.s.cs.length ≤ 64) (hB : Bd e j.s.B) : ∃ z : Int, a7q j.s.B j.s.cs = z ∧ z.natAbs ≤ LB ^ KB e := by
 have hl := h.g.len
 obtain ⟨z, hz, hz1⟩ := c6E hB j.s.cs (by have : LB = 4294967296 := rfl; omega)
 exact ⟨z, hz, Nat.le_trans hz1 (lbm (Nat.mul_le_mul_right _ (by omega)))⟩
end Go.Abs
namespace Go.Abs
def dv (n : Nat) (B : Nat → Nat → Rat) (t : Nat) : Rat := if (gproc n B t).cs.length = t then (if (gproc n B t).odd then -(gproc n B t).last else (gproc n B t).last) else 0
theorem b1X (n : Nat) (B : Nat → Nat → Rat) : ∀ t, (gproc n B t).cs.length ≤ t
 | 0 => Nat.le_refl _
 | t + 1 => by
  have ih := b1X n B t
  show (b1T n (gproc n B t) t).cs.length ≤ t + 1
  unfold b1T
  cases a3R (fun p => (gproc n B t).g p t) (gproc n B t).cs.length n with
  | none => exact Nat.le_succ_of_le ih
  | some p => simp only [a2N]; omega
theorem e9Q {e n : Nat} {B : Nat → Nat → Rat} (hB : Bd e B) (t : Nat) (hn : n ≤ 64 ∨ t ≤ 64) : (gproc n B t).cs.length ≤ 64 := by
 have h1 := (b8f (n := n) (fun i k => by obtain ⟨z, h, _⟩ := hB i k; exact ⟨z, h⟩) t).len
 have h2 := b1X n B t
 omega
theorem b4b {e n : Nat} {B : Nat → Nat → Rat} (hB : Bd e B) (t : Nat) (hn : n ≤ 64 ∨ t ≤ 64) : ∃ z : Int, (gproc n B t).last = z ∧ z.natAbs ≤ LB ^ KB e := by
 have hi : ∀ i k, ∃ z : Int, B i k = z := fun i k => by obtain ⟨z, h, _⟩ := hB i k; exact ⟨z, h⟩
 have := e6i (e := e) (d8U (n := n) hi t) (by rw [a9l]; exact e9Q hB t hn) (by rw [a9l]; exact hB.gproc t)
 rwa [a9l] at this
theorem f1O {e n : Nat} {B : Nat → Nat → Rat} (hB : Bd e B) (t : Nat) (hn : n ≤ 64 ∨ t ≤ 64) : ∃ z : Int, dv n B t = z ∧ z.natAbs ≤ LB ^ KB e := by
 obtain ⟨z, hz, hz1⟩ := b4b hB t hn
 unfold dv
 split
 ·split
  ·exact ⟨-z, by rw [hz, Rat.intCast_neg], by rw [Int.natAbs_neg]; exact hz1⟩
  ·exact ⟨z, hz, hz1⟩
 ·exact ⟨0, rfl, by simp⟩
end Go.Abs
namespace Go.Abs
def Zg (s : GS) (a b : Nat) : Rat := a7q s.B (s.cs.take a) * a2R s.B (s.cs.take a) a b
theorem e4Q {s : GS} {a : Nat} (b : Nat) (h : s.cs.length ≤ a) : Zg s a b = s.last * s.g a b := by
 unfold Zg; rw [List.take_of_length_le h]; rfl
theorem e1k {B : Nat → Nat → Rat} {cs : List Nat} {m a b : Nat} (hb : b < (cs.take m).length) : a1j B (cs.take m) a b = a1j B cs a b := by
 rw [List.length_take] at hb
 simp only [a1j, colm]
 rw [if_pos (by rw [List.length_take]; exact hb), if_pos (by omega)]
 congr 1
 simp [List.getD_eq_getElem?_getD, List.getElem?_take]
 rw [if_pos (by omega)]
theorem e5H {B : Nat → Nat → Rat} : ∀ (m : Nat) {cs : List Nat}, Piv B cs → Piv B (cs.take m) := by
 intro m cs h
 have key : ∀ k, piv (k + (cs.take m).length) (a1j B cs) → piv (cs.take m).length (a1j B cs) := by
  intro k
  induction k with
  | zero => intro h; rwa [Nat.zero_add] at h
  | succ k ih => intro h; rw [show k + 1 + (cs.take m).length = (k + (cs.take m).length) + 1 by omega, b7y] at h; exact ih h.1
 have h1 := key (cs.length - (cs.take m).length) (by
  have : cs.length - (cs.take m).length + (cs.take m).length = cs.length := by rw [List.length_take]; omega
  rw [this]; exact h)
 exact b4U _ (fun a b _ hb => (e1k hb).symm) h1
theorem d5u {n : Nat} {B : Nat → Nat → Rat} (hB : ∀ i k, ∃ z : Int, B i k = z) : ∀ t a b, (gproc n B t).cs.length ≤ a → a < n → b < t → (gproc n B t).g a b = 0
 | 0, _, _, _, _, h => absurd h (by omega)
 | t + 1, a, b, ha, han, hb => by
  have ih := d5u (n := n) hB t
  rcases a1H (fun p => (gproc n B t).g p t) (gproc n B t).cs.length n with ⟨p, hf, h1, h2, h3, _⟩ | ⟨hf, h4⟩
  ·have e : gproc n B (t + 1) = _ := a1o hf
   rw [e] at ha ⊢
   simp only [a2N] at ha
   show a2R (a0S p (gproc n B t).cs.length (gproc n B t).B) ((gproc n B t).cs ++ [t]) a b = 0
   rw [d1c h1 b t (by omega)]
   have hj : (if a = p then (gproc n B t).cs.length else a) < n := by split <;> omega
   have hj2 : (gproc n B t).cs.length ≤ (if a = p then (gproc n B t).cs.length else a) := by split <;> omega
   generalize (if a = p then (gproc n B t).cs.length else a) = i at *
   by_cases hbt : b = t
   ·subst hbt
    generalize (gproc n B b).g i b = u
    generalize (gproc n B b).g p b = v at *
    grind
   ·rw [ih i b hj2 hj (by omega), ih p b h1 h2 (by omega)]
    grind
  ·have e : gproc n B (t + 1) = _ := a3u hf
   rw [e] at ha ⊢
   by_cases hbt : b = t
   ·subst hbt; exact h4 a ha han
   ·exact ih a b ha han (by omega)
section
variable {n t p : Nat} {B : Nat → Nat → Rat} (hB : ∀ i k, ∃ z : Int, B i k = z) (hf : a3R (fun p => (gproc n B t).g p t) (gproc n B t).cs.length n = some p) (hp : (gproc n B t).cs.length ≤ p)
include hf hp
theorem e7x {a : Nat} (b : Nat) (ha : a < (gproc n B t).cs.length) : Zg (gproc n B (t + 1)) a b = Zg (gproc n B t) a b := by
 have e : gproc n B (t + 1) = _ := a1o hf
 rw [e]
 unfold Zg
 simp only
 have ht : ((gproc n B t).cs ++ [t]).take a = (gproc n B t).cs.take a := by rw [List.take_append_of_le_length (by omega)]
 have hl : ((gproc n B t).cs.take a).length = a := by rw [List.length_take]; omega
 rw [ht, b9P (by omega) (by omega), b2K (by omega) (by omega) b (by omega), if_neg (by omega), if_neg (by omega)]
theorem f0z (b : Nat) : Zg (gproc n B (t + 1)) (gproc n B t).cs.length b = (gproc n B t).last * (gproc n B t).g p b := by
 have e : gproc n B (t + 1) = _ := a1o hf
 rw [e]
 unfold Zg
 simp only
 rw [List.take_append_of_le_length (Nat.le_refl _), List.take_length, b9P hp (Nat.le_refl _), a3s hp]; rfl
omit hp in
theorem d9s {a : Nat} (b : Nat) (ha : (gproc n B t).cs.length < a) : Zg (gproc n B (t + 1)) a b = (gproc n B (t + 1)).last * (gproc n B (t + 1)).g a b := by
 have e : gproc n B (t + 1) = _ := a1o hf
 exact e4Q b (by rw [e]; simp only [a2N]; omega)
theorem e3w (h : GOk n (gproc n B t)) : (gproc n B (t + 1)).last = (gproc n B t).last * (gproc n B t).g p t := by
 have e : gproc n B (t + 1) = _ := a1o hf
 rw [e]
 exact d3f h hp t
end
theorem e7w {e n : Nat} {B : Nat → Nat → Rat} (hB : Bd e B) (hn : n ≤ 64) (t : Nat) {a : Nat} (b : Nat) (ha : a < n) : ∃ z : Int, Zg (gproc n B t) a b = z ∧ z.natAbs ≤ LB ^ KB e := by
 have hi : ∀ i k, ∃ z : Int, B i k = z := fun i k => by obtain ⟨z, h, _⟩ := hB i k; exact ⟨z, h⟩
 have hok := b8f (n := n) hi t
 have hl : ((gproc n B t).cs.take a).length ≤ a := by rw [List.length_take]; omega
 have hLB : LB = 4294967296 := rfl
 obtain ⟨z, hz, hz1⟩ := c6O (e5H a hok.piv) (hB.gproc t) (by omega) (i := a) b hl
 exact ⟨z, hz, Nat.le_trans hz1 (lbm (Nat.mul_le_mul_right _ (by omega)))⟩
end Go.Abs
namespace Go.Abs
def a6p (w : Nat → Int) : Nat → Nat
 | 0 => 0
 | n + 1 => Int.gcd (a6p w n) (w n)
def sgF (w : Nat → Int) : Nat → Int
 | 0 => 1
 | n + 1 => if (∀ i, i < n → w i = 0) ∧ w n < 0 then -1 else sgF w n
def b1i (w : Nat → Int) (c : Nat) (i : Nat) : Int := w i / (sgF w c * (a6p w c : Int))
theorem c6M {w v : Nat → Int} : ∀ {n : Nat}, (∀ i, i < n → w i = v i) → a6p w n = a6p v n
 | 0, _ => rfl
 | n + 1, h => by rw [a6p, a6p, c6M fun i hi => h i (by omega), h n (by omega)]
theorem d3j {w v : Nat → Int} : ∀ {n : Nat}, (∀ i, i < n → w i = v i) → sgF w n = sgF v n
 | 0, _ => rfl
 | n + 1, h => by
  have e : (∀ i, i < n → w i = 0) = (∀ i, i < n → v i = 0) := by
   rw [eq_iff_iff]
   exact ⟨fun q i hi => by rw [← h i (by omega)]; exact q i hi, fun q i hi => by rw [h i (by omega)]; exact q i hi⟩
  unfold sgF
  rw [d3j fun i hi => h i (by omega), h n (by omega)]
  simp only [e]
theorem e2r (w : Nat → Int) : ∀ n, sgF w n = 1 ∨ sgF w n = -1
 | 0 => .inl rfl
 | n + 1 => by
  unfold sgF; split
  ·exact .inr rfl
  ·exact e2r w n
theorem d5r (w : Nat → Int) : ∀ {n i : Nat}, i < n → (a6p w n : Int) ∣ w i
 | 0, _, h => absurd h (by omega)
 | n + 1, i, h => by
  rw [a6p]
  by_cases e : i = n
  ·subst e; exact Int.gcd_dvd_right ..
  ·exact Int.dvd_trans (Int.gcd_dvd_left ..) (d5r w (by omega))
theorem b9V {w : Nat → Int} : ∀ {n : Nat}, a6p w n = 0 ↔ ∀ i, i < n → w i = 0
 | 0 => ⟨fun _ i h => absurd h (by omega), fun _ => rfl⟩
 | n + 1 => by
  rw [a6p, Int.gcd_eq_zero_iff]
  constructor
  ·rintro ⟨h1, h2⟩ i hi
   by_cases e : i = n
   ·subst e; exact h2
   ·exact (b9V (n := n)).1 (by omega) i (by omega)
  ·intro h
   exact ⟨by rw [(b9V (n := n)).2 fun i hi => h i (by omega)]; rfl, h n (by omega)⟩
theorem d0w (a : Int) (w : Nat → Int) : ∀ n, a6p (fun i => a * w i) n = a.natAbs * a6p w n
 | 0 => rfl
 | n + 1 => by
  rw [a6p, a6p, d0w a w n]
  rw [Int.gcd, Int.gcd, Int.natAbs_mul, Int.natAbs_natCast, Int.natAbs_natCast, Nat.gcd_mul_left]
theorem d8C {a : Int} (ha : a ≠ 0) {w : Nat → Int} : ∀ {n : Nat}, (∃ i, i < n ∧ w i ≠ 0) → sgF (fun i => a * w i) n = a.sign * sgF w n
 | 0, h => by obtain ⟨i, hi, _⟩ := h; omega
 | n + 1, h => by
  have e : (∀ i, i < n → a * w i = 0) = (∀ i, i < n → w i = 0) := by
   rw [eq_iff_iff]
   exact ⟨fun q i hi => by rcases Int.mul_eq_zero.1 (q i hi) with h | h; exact absurd h ha; exact h, fun q i hi => by rw [q i hi, Int.mul_zero]⟩
  by_cases h0 : ∀ i, i < n → w i = 0
  ·have hn : w n ≠ 0 := by
    obtain ⟨i, hi, hw⟩ := h
    by_cases e : i = n
    ·subst e; exact hw
    ·exact absurd (h0 i (by omega)) hw
   have hs0 : ∀ (v : Nat → Int) (m : Nat), (∀ i, i < m → v i = 0) → sgF v m = 1 := by
    intro v m
    induction m with
    | zero => intro _; rfl
    | succ m ih => intro hv; unfold sgF; rw [if_neg (by intro h; have := h.2; rw [hv m (by omega)] at this; omega)]; exact ih fun i hi => hv i (by omega)
   unfold sgF
   rw [hs0 w n h0, hs0 (fun i => a * w i) n fun i hi => by rw [h0 i hi, Int.mul_zero]]
   simp only [e]
   rcases Int.lt_or_gt_of_ne ha with ha' | ha'
   ·rw [Int.sign_eq_neg_one_of_neg ha']
    rcases Int.lt_or_gt_of_ne hn with hn' | hn'
    ·rw [if_neg (by intro h; have := h.2; have := Int.mul_pos_of_neg_of_neg ha' hn'; omega), if_pos ⟨h0, hn'⟩]; rfl
    ·rw [if_pos ⟨h0, Int.mul_neg_of_neg_of_pos ha' hn'⟩, if_neg (by intro h; have := h.2; omega)]; rfl
   ·rw [Int.sign_eq_one_of_pos ha', Int.one_mul]
    rcases Int.lt_or_gt_of_ne hn with hn' | hn'
    ·rw [if_pos ⟨h0, Int.mul_neg_of_pos_of_neg ha' hn'⟩, if_pos ⟨h0, hn'⟩]
    ·rw [if_neg (by intro h; have := h.2; have := Int.mul_pos ha' hn'; omega), if_neg (by intro h; have := h.2; omega)]
  ·have hex : ∃ i, i < n ∧ w i ≠ 0 := Classical.byContradiction fun hc => h0 fun i hi => Classical.byContradiction fun h1 => hc ⟨i, hi, h1⟩
   unfold sgF
   simp only [e]
   rw [if_neg (fun h => h0 h.1), if_neg (fun h => h0 h.1), d8C ha hex]
def Nz (w : Nat → Int) (c : Nat) : Prop := ∃ i, i < c ∧ w i ≠ 0
theorem e6y {w : Nat → Int} {c : Nat} (h : Nz w c) : a6p w c ≠ 0 := fun h0 => by
 obtain ⟨i, hi, hw⟩ := h
 exact hw (b9V.1 h0 i hi)
theorem f2j {w : Nat → Int} {c : Nat} (h : Nz w c) : sgF w c * (a6p w c : Int) ≠ 0 := by
 have := e6y h
 exact Int.mul_ne_zero (by rcases e2r w c with h | h <;> omega) (by omega)
theorem e5G {w : Nat → Int} {c i : Nat} (hi : i < c) : w i = (sgF w c * (a6p w c : Int)) * b1i w c i := by
 obtain ⟨q, hq⟩ := d5r w hi
 unfold b1i
 rcases Nat.eq_zero_or_pos (a6p w c) with h0 | h0
 ·rw [h0] at hq; rw [h0]; simp at hq ⊢; exact hq
 ·have hd : (sgF w c * (a6p w c : Int)) ∣ w i := by
   rcases e2r w c with h | h
   ·rw [h, Int.one_mul]; exact ⟨q, hq⟩
   ·rw [h]; exact ⟨-q, by rw [hq, Int.neg_mul, Int.one_mul, Int.neg_mul_neg]⟩
  rw [Int.mul_ediv_cancel' hd]
theorem d4D {a : Int} (ha : a ≠ 0) {w : Nat → Int} {c : Nat} (h : Nz w c) {i : Nat} (hi : i < c) : b1i (fun i => a * w i) c i = b1i w c i := by
 have h1 := e5G (w := w) hi
 have hne := f2j h
 unfold b1i
 rw [d8C ha h, d0w]
 have e : a.sign * sgF w c * ((a.natAbs * a6p w c : Nat) : Int) = a * (sgF w c * (a6p w c : Int)) := by
  rw [Int.natCast_mul]
  have key : ∀ t s m g : Int, t * s * (m * g) = t * m * (s * g) := by
   intro t s m g; rw [Int.mul_assoc, Int.mul_assoc, Int.mul_left_comm s m g]
  rw [key, Int.sign_mul_natAbs a]
 rw [e]
 show a * w i / _ = w i / _
 generalize b1i w c i = p at *
 generalize sgF w c * (a6p w c : Int) = x at *
 rw [h1, ← Int.mul_assoc, Int.mul_ediv_cancel_left _ (Int.mul_ne_zero ha hne), Int.mul_ediv_cancel_left _ hne]
theorem e0k {w v : Nat → Int} {c : Nat} (h : ∀ i, i < c → w i = v i) {i : Nat} (hi : i < c) : b1i w c i = b1i v c i := by
 unfold b1i; rw [c6M h, d3j h, h i hi]
theorem e5F {a b : Int} (ha : a ≠ 0) (hb : b ≠ 0) {w v : Nat → Int} {c : Nat} (hw : Nz w c) (h : ∀ i, i < c → a * w i = b * v i) {i : Nat} (hi : i < c) : b1i w c i = b1i v c i := by
 have hv : Nz v c := by
  obtain ⟨j, hj, hw⟩ := hw
  refine ⟨j, hj, fun h0 => ?_⟩
  have := h j hj
  rw [h0, Int.mul_zero] at this
  rcases Int.mul_eq_zero.1 this with h | h
  ·exact ha h
  ·exact hw h
 rw [← d4D ha hw hi, ← d4D hb hv hi]
 exact e0k h hi
end Go.Abs
namespace Go.Abs
theorem f0f {n : Nat} {B : Nat → Nat → Rat} : ∀ t c, c ∈ (gproc n B t).cs → c < t
 | 0, _, h => by simp [gproc] at h
 | t + 1, c, h => by
  have h' : c ∈ (b1T n (gproc n B t) t).cs := h
  unfold b1T at h'
  cases hf : a3R (fun p => (gproc n B t).g p t) (gproc n B t).cs.length n with
  | none => rw [hf] at h'; exact Nat.lt_succ_of_lt (f0f t c h')
  | some p =>
   rw [hf] at h'
   rcases List.mem_append.1 h' with h | h
   ·exact Nat.lt_succ_of_lt (f0f t c h)
   ·simp at h; omega
theorem e1A {n : Nat} {B : Nat → Nat → Rat} {t i : Nat} (h : i < (gproc n B t).cs.length) : (gproc n B t).cs.getD i 0 < t := by
 refine f0f (n := n) (B := B) t _ ?_
 rw [List.getD_eq_getElem?_getD, List.getElem?_eq_getElem h]
 exact List.getElem_mem h
end Go.Abs
namespace Go.Abs
structure Alt (n : Nat) (F : (Nat → Nat → Rat) → Rat) : Prop where
 congr : ∀ M N, (∀ r c, r < n → c < n → M r c = N r c) → F M = F N
 eq0 : ∀ M s t, s ≠ t → s < n → t < n → (∀ c, M s c = M t c) → F M = 0
 lin : ∀ M t (x y : Rat) (u w : Nat → Rat), t < n → F (a0z M t fun c => x * u c + y * w c) = x * F (a0z M t u) + y * F (a0z M t w)
section
variable {n : Nat} {F : (Nat → Nat → Rat) → Rat} (h : Alt n F)
include h
theorem Alt.add {M : Nat → Nat → Rat} {t : Nat} (u w : Nat → Rat) (ht : t < n) : F (a0z M t fun c => u c + w c) = F (a0z M t u) + F (a0z M t w) := by
 have := h.lin M t 1 1 u w ht
 have e : (fun c => (1 : Rat) * u c + 1 * w c) = fun c => u c + w c := by funext c; grind
 rw [e] at this
 grind
theorem Alt.swap {M : Nat → Nat → Rat} {s t : Nat} (hst : s ≠ t) (hs : s < n) (ht : t < n) : F (a0S s t M) = -F M := by
 let u := M s
 let w := M t
 have A : ∀ p q : Nat → Rat, (∀ c, p c = q c) → F (a0z (a0z M s p) t q) = 0 := fun p q hpq => h.eq0 _ s t hst hs ht fun c => by
  unfold a0z
  simp [hst, hpq c]
 have h0 := A (fun c => u c + w c) (fun c => u c + w c) fun _ => rfl
 rw [h.add _ _ ht, a1q hst, a1q hst, h.add _ _ hs, h.add _ _ hs, ← a1q hst, ← a1q hst, ← a1q hst, ← a1q hst, A u u fun _ => rfl, A w w fun _ => rfl] at h0
 have e1 : a0z (a0z M s u) t w = M := by
  show a0z (a0z M s (M s)) t (M t) = M
  rw [a4b]; exact a4b M t
 have e2 : a0z (a0z M s w) t u = a0S s t M := by
  funext r c; unfold a0z a0S
  by_cases h1 : r = s
  ·subst h1; simp [hst]; rfl
  ·by_cases h2 : r = t
   ·subst h2; simp [h1]; rfl
   ·simp [h1, h2]
 rw [e1, e2] at h0
 grind
theorem Alt.addrow {M : Nat → Nat → Rat} {s t : Nat} (x : Rat) (hst : s ≠ t) (hs : s < n) (ht : t < n) : F (a0z M t fun c => M t c + x * M s c) = F M := by
 have h1 := h.lin M t 1 x (M t) (M s) ht
 have e : (fun c => (1 : Rat) * M t c + x * M s c) = fun c => M t c + x * M s c := by funext c; grind
 rw [e, a4b] at h1
 have h0 : F (a0z M t (M s)) = 0 := h.eq0 _ s t hst hs ht fun c => by unfold a0z; simp [hst]
 rw [h1, h0]
 grind
theorem Alt.elim (M : Nat → Nat → Rat) : ∀ k, k < n → F (a6L M k) = F M
 | 0, _ => by congr 1; funext r c; unfold a6L; rw [if_neg (by omega)]
 | k + 1, hk => by
  rw [← Alt.elim M k (by omega), ← h.addrow (M := a6L M k) (s := 0) (t := k + 1) (-(M (k + 1) 0 / M 0 0)) (by omega) (by omega) hk]
  congr 1
  funext r c
  unfold a0z a6L
  by_cases e : r = k + 1
  ·subst e
   rw [if_pos ⟨by omega, Nat.le_refl _⟩, if_pos rfl]
   show _ = (if 0 < k + 1 ∧ k + 1 ≤ k then _ else _) + _ * (if 0 < 0 ∧ 0 ≤ k then _ else _)
   rw [if_neg (by omega), if_neg (by omega)]
  ·by_cases h2 : 0 < r ∧ r ≤ k
   ·rw [if_pos ⟨h2.1, by omega⟩, if_neg e, if_pos h2]
   ·rw [if_neg (by omega), if_neg e, if_neg h2]
end
end Go.Abs
namespace Go.Abs
theorem d8o : ∀ (r : Nat) (M : Nat → Nat → Rat) (i : Nat), ∃ l : Nat → Rat, ∀ k, SS r M i k = M (r + i) (r + k) + sumR (fun j => l j * M j (r + k)) r
 | 0, M, i => ⟨fun _ => 0, fun k => by simp only [SS, sumR, Nat.zero_add]; grind⟩
 | r + 1, M, i => by
  obtain ⟨l, hl⟩ := d8o r M (i + 1)
  obtain ⟨m, hm⟩ := d8o r M 0
  refine ⟨fun j => if j < r then l j - SS r M (i + 1) 0 / SS r M 0 0 * m j else -(SS r M (i + 1) 0 / SS r M 0 0), fun k => ?_⟩
  rw [d8n]
  unfold a4Z
  generalize SS r M (i + 1) 0 / SS r M 0 0 = c
  rw [hl, hm, sumR]
  show _ = M (r + 1 + i) (r + 1 + k) + (sumR (fun j => (if j < r then l j - c * m j else -c) * M j (r + 1 + k)) r + (if r < r then l r - c * m r else -c) * M r (r + 1 + k))
  rw [if_neg (Nat.lt_irrefl r)]
  have e : sumR (fun j => (if j < r then l j - c * m j else -c) * M j (r + 1 + k)) r = 1 * sumR (fun j => l j * M j (r + (k + 1))) r + (-c) * sumR (fun j => m j * M j (r + (k + 1))) r := by
   rw [← a6y]
   refine a1n fun j hj => ?_
   rw [if_pos hj, show r + 1 + k = r + (k + 1) by omega]; grind
  rw [e, show r + 1 + i = r + (i + 1) by omega, show r + 1 + k = r + (k + 1) by omega, Nat.add_zero]
  grind
theorem d5L {n t : Nat} {M : Nat → Nat → Rat} (ht : t < n) (l : Nat → Rat) : ∀ m, m ≤ t → det n (a0z M t fun c => sumR (fun j => l j * M j c) m) = 0
 | 0, _ => by
  have h := c7z (M := M) 0 0 (M t) (M t) ht
  have e : (fun c => (0 : Rat) * M t c + 0 * M t c) = fun c => sumR (fun j => l j * M j c) 0 := by funext c; simp only [sumR]; grind
  rw [e] at h
  rw [h]; grind
 | m + 1, hm => by
  have h := c7z (M := M) 1 (l m) (fun c => sumR (fun j => l j * M j c) m) (M m) ht
  have e : (fun c => (1 : Rat) * sumR (fun j => l j * M j c) m + l m * M m c) = fun c => sumR (fun j => l j * M j c) (m + 1) := by funext c; simp only [sumR]; grind
  have h0 : det n (a0z M t (M m)) = 0 := c7A (s := m) (t := t) (by omega) (by omega) ht fun c => by unfold a0z; rw [if_neg (by omega), if_pos rfl]
  rw [e, d5L ht l m (by omega), h0] at h
  rw [h]; grind
theorem e1w {n : Nat} {B : Nat → Nat → Rat} {cs : List Nat} {i : Nat} (hi : i < n) (hc : cs.length ≤ i) (h0 : ∀ k, k < n → a2R B cs i k = 0) : det n B = 0 := by
 obtain ⟨l, hl⟩ := d8o cs.length (a1j B cs) (i - cs.length)
 have hrow : ∀ k, k < n → B i k = sumR (fun j => -l j * B j k) cs.length := fun k hk => by
  have h1 := h0 k hk
  unfold a2R at h1
  rw [hl] at h1
  have e1 : a1j B cs (cs.length + (i - cs.length)) (cs.length + k) = B i k := by
   unfold a1j; rw [a2B, show cs.length + (i - cs.length) = i by omega]
  have e2 : sumR (fun j => l j * a1j B cs j (cs.length + k)) cs.length = -1 * sumR (fun j => -l j * B j k) cs.length + 0 * sumR (fun j => -l j * B j k) cs.length := by
   rw [← a6y]
   refine a1n fun j _ => ?_
   unfold a1j; rw [a2B]; grind
  rw [e1, e2] at h1
  grind
 rw [← d5L hi (fun j => -l j) cs.length hc]
 refine a1z fun r c hr hc => ?_
 unfold a0z
 by_cases e : r = i
 ·rw [if_pos e, e]; exact hrow c hc
 ·rw [if_neg e]
theorem d5n (n : Nat) (B : Nat → Nat → Rat) : ∀ t, det n (gproc n B t).B = if (gproc n B t).odd then -det n B else det n B
 | 0 => rfl
 | t + 1 => by
  have ih := d5n n B t
  rcases a1H (fun p => (gproc n B t).g p t) (gproc n B t).cs.length n with ⟨p, hf, h1, h2, h3, _⟩ | ⟨hf, h4⟩
  ·have e : gproc n B (t + 1) = _ := a1o hf
   rw [e]
   show det n (a0S p (gproc n B t).cs.length (gproc n B t).B) = if (if p = (gproc n B t).cs.length then (gproc n B t).odd else !(gproc n B t).odd) = true then -det n B else det n B
   by_cases hp : p = (gproc n B t).cs.length
   ·rw [if_pos hp, hp, d9Q]; exact ih
   ·rw [if_neg hp, d9f hp h2 (by omega), ih]
    cases (gproc n B t).odd <;> simp <;> grind
  ·have e : gproc n B (t + 1) = _ := a3u hf
   rw [e]; exact ih
theorem b9S {n : Nat} {B : Nat → Nat → Rat} : ∀ t, (gproc n B t).cs.length = t → ∀ b, b < t → (gproc n B t).cs.getD b 0 = b
 | 0, _, _, h => absurd h (by omega)
 | t + 1, hl, b, hb => by
  rcases a1H (fun p => (gproc n B t).g p t) (gproc n B t).cs.length n with ⟨p, hf, h1, h2, h3, _⟩ | ⟨hf, h4⟩
  ·have e : gproc n B (t + 1) = _ := a1o hf
   rw [e] at hl ⊢
   simp only [a2N] at hl
   show ((gproc n B t).cs ++ [t]).getD b 0 = b
   have ht : (gproc n B t).cs.length = t := by omega
   by_cases hbt : b = t
   ·subst hbt; simp [List.getD_eq_getElem?_getD, ht]
   ·have := b9S t ht b (by omega)
    rw [List.getD_eq_getElem?_getD, List.getElem?_append_left (by omega), ← List.getD_eq_getElem?_getD]; exact this
  ·have e : gproc n B (t + 1) = gproc n B t := a3u hf
   rw [e] at hl
   have := b1X n B t
   omega
theorem e7Y {n : Nat} {B : Nat → Nat → Rat} (hB : ∀ i k, ∃ z : Int, B i k = z) : dv n B n = det n B := by
 have hs := d5n n B n
 unfold dv
 by_cases h : (gproc n B n).cs.length = n
 ·rw [if_pos h]
  have e : (gproc n B n).last = det n (gproc n B n).B := by
   unfold GS.last a7q
   rw [h]
   refine a1z fun r c _ hc => ?_
   unfold a1j colm
   rw [if_pos (by omega), b9S n h c hc]
  rw [e, hs]
  cases (gproc n B n).odd <;> simp
 ·have hlt := b1X n B n
  rw [if_neg h]
  have h0 := e1w (n := n) (B := (gproc n B n).B) (cs := (gproc n B n).cs) (i := (gproc n B n).cs.length) (by omega) (Nat.le_refl _) fun k hk => d5u hB n _ k (Nat.le_refl _) (by omega) hk
  rw [h0] at hs
  cases hodd : (gproc n B n).odd <;> rw [hodd] at hs <;> simp at hs <;> grind
end Go.Abs

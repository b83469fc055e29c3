/- Part 3 of the proof of ElimNulls: A14, A15, A16, A17, A19, A21, A22, A23, A24, M1, D1, D2, D3, D4, D5, D6, D9, D10, D11, L1, L2, L3, L4, L5, L6, L7, L8, L9, L10. -/
import Derived.Test.YtkljokmnimblnaaElimNullsK2
set_option linter.unusedVariables false
set_option linter.unusedSimpArgs false
set_option linter.defProp false
namespace Go.Abs
section
variable (P : Program) (n0 : Nat) (K : Env → Heap → Prop) (env : Env) (H : Heap)
theorem e4M : dops P n0 [] K env H = K env H := rfl
theorem e2c (d : Option Nat) (o : AOp) (l : List AIns) : dops P n0 (⟨d, none, o⟩ :: l) K env H = b4J P n0 o d (dops P n0 l K) env H := rfl
theorem e2b (d : Option Nat) (t : Nat) (want : Bool) (o : AOp) (l : List AIns) :
    dops P n0 (⟨d, some (t, want), o⟩ :: l) K env H = b3u want (look env t) fun c => if c = want then b4J P n0 o d (dops P n0 l K) env H else dops P n0 l K (put d (.tup []) env) H := rfl
theorem e7w (o : POp) (d : Option Nat) : b4J P n0 (.p o) d K env H = c4F (pv o env H) fun v => K (put d v env) H := rfl
theorem e7x (o : EOp) (d : Option Nat) : b4J P n0 (.e o) d K env H = c3n (ev n0 o env H) fun v env' H' => K (put d v env') H' := rfl
/-- A call in a drawn region. -/
def dcall (P : Program) (f : FuncId) (args : List AV) (H : Heap) (K : AV → Prop) : Prop := ∃ r, (∀ L, a0k P f args (H ++ L) fun r' H' => r' = r ∧ H' = H ++ L) ∧ K r
def dres (K : Env → Heap → Prop) (d : Option Nat) (env : Env) (H : Heap) : AV → Prop := fun r => K (put d r env) H
theorem e7z (d : Option Nat) (r : AV) : dres K d env H r = K (put d r env) H := rfl
theorem d9C (f : FuncId) (args : List Src) (d : Option Nat) : b4J P n0 (.call f args) d K env H = dcall P f (args.map (·.ev env)) H (dres K d env H) := rfl
def d4e (P : Program) (g : AV) (args : List AV) (H : Heap) (K : AV → Prop) : Prop := match g with
  | .fn f caps => dcall P f (args ++ caps) H K
  | _ => False
theorem d6l (g : Src) (args : List Src) (d : Option Nat) : b4J P n0 (.callv g args) d K env H = d4e P (g.ev env) (args.map (·.ev env)) H (dres K d env H) := by
  simp only [b4J, d4e]; split <;> simp_all [dcall, dres]
theorem e2k (f : FuncId) (caps args : List AV) (K : AV → Prop) : d4e P (.fn f caps) args H K = dcall P f (args ++ caps) H K := rfl
end
@[congr] theorem e8h {P : Program} {n0 : Nat} {l : List AIns} {K : Env → Heap → Prop} {env env' : Env} {H H' : Heap} (h : env = env') (h' : H = H') : dops P n0 l K env H = dops P n0 l K env' H' := by rw [h, h']
@[congr] theorem e7y {P : Program} {n0 : Nat} {o : AOp} {d : Option Nat} {K : Env → Heap → Prop} {env env' : Env} {H H' : Heap} (h : env = env') (h' : H = H') : b4J P n0 o d K env H = b4J P n0 o d K env' H' := by rw [h, h']
@[congr] theorem e7B {P : Program} {f : FuncId} {as as' : List AV} {H H' : Heap} {K : AV → Prop} (h : as = as') (h' : H = H') : dcall P f as H K = dcall P f as' H' K := by rw [h, h']
@[congr] theorem e5P {P : Program} {g g' : AV} {as as' : List AV} {H H' : Heap} {K : AV → Prop} (h : g = g') (h2 : as = as') (h' : H = H') : d4e P g as H K = d4e P g' as' H' K := by rw [h, h2, h']
theorem a0d.acall {P : Program} {f : FuncId} {args : List AV} {H : Heap} {r : AV} {R : AV → Heap → Prop} (h : a0d P f args r) (k : R r H) : a0k P f args H R :=
  (h H).mono fun r' H' ⟨h1, h2⟩ => by subst h1; subst h2; exact k
theorem a0d.dcall {P : Program} {f : FuncId} {args : List AV} {H : Heap} {r : AV} {K : AV → Prop} (h : a0d P f args r) (k : K r) : dcall P f args H K := ⟨r, fun L => h (H ++ L), k⟩
theorem c6x {a : AV} (h : Cl a) : clb a = true := e2q.2 h
theorem a1z {id : Nat} {a : AV} (h : Cl a) : nref id a = true := a0B.2 h.ref
theorem e7H (k : IntKind) (n : Int) : clb (.int k n) = true := c6x (.int k n)
theorem c3E (b : Bool) : clb (.bool b) = true := c6x (.bool b)
theorem e7F (s : ByteArray) : clb (.str s) = true := c6x (.str s)
theorem e7G : clb .nil = true := c6x .nil
theorem e3N (id : Nat) : nref id .top = true := a1z .top
theorem d6W (id : Nat) (k : IntKind) (n : Int) : nref id (.int k n) = true := a1z (.int k n)
theorem e0K (id : Nat) (b : Bool) : nref id (.bool b) = true := a1z (.bool b)
theorem e3O (id : Nat) (s : ByteArray) : nref id (.str s) = true := a1z (.str s)
theorem e3P (id : Nat) : nref id .nil = true := a1z .nil
theorem e3R (id : Nat) (v : Value) : nref id (.lit v) = true := a1z (.lit v)
theorem e6K (id wd : Nat) (xs : List AV) : nref id (.sl wd xs) = true := a0B.2 (.sl wd xs)
theorem e6L (id off : Nat) (x : AV) : nref id (.ro x off) = true := a0B.2 (.ro x off)
theorem e3S (id : Nat) (cs : List AV) : nref id (.agg cs) = cs.all (nref id) := by
  rw [Bool.eq_iff_iff, a0B, List.all_eq_true]
  constructor
  · intro h c hc; cases h with | agg _ h => exact a0B.2 (h c hc)
  · intro h; exact .agg _ fun c hc => a0B.1 (h c hc)
theorem e3M (id : Nat) (cs : List AV) : nref id (.tup cs) = cs.all (nref id) := by
  rw [Bool.eq_iff_iff, a0B, List.all_eq_true]
  constructor
  · intro h c hc; cases h with | tup _ h => exact a0B.2 (h c hc)
  · intro h; exact .tup _ fun c hc => a0B.1 (h c hc)
theorem e6N (id : Nat) (f : FuncId) (cs : List AV) : nref id (.fn f cs) = cs.all (nref id) := by
  rw [Bool.eq_iff_iff, a0B, List.all_eq_true]
  constructor
  · intro h c hc; cases h with | fn _ _ h => exact a0B.2 (h c hc)
  · intro h; exact .fn _ _ fun c hc => a0B.1 (h c hc)
theorem e6M (H : Heap) (i j off len : Nat) (oc : Option Nat) : nref (lid H i) (.mu (lid H j) off len oc) = decide (j ≠ i) := by
  rw [Bool.eq_iff_iff, a0B, decide_eq_true_eq]
  constructor
  · intro h; cases h with | mu _ _ _ _ h => intro e; exact h (by rw [e])
  · intro h; exact .mu _ _ _ _ (by simp only [lid]; omega)
theorem e3Q (H : Heap) (i j k off : Nat) : nref (lid H i) (.loc (lid H j) k off) = decide (j ≠ i) := by
  rw [Bool.eq_iff_iff, a0B, decide_eq_true_eq]
  constructor
  · intro h; cases h with | loc _ _ _ h => intro e; exact h (by rw [e])
  · intro h; exact .loc _ _ _ (by simp only [lid]; omega)
theorem e0q (id : Nat) : scrub id [] = [] := rfl
theorem d8q (id t : Nat) (a : AV) (env : Env) : scrub id ((t, a) :: env) = (t, if nref id a then a else .top) :: scrub id env := rfl
theorem e7f (id : Nat) (b : Blk) (k : IntKind) (n : Int) : frz id b (.int k n) = .int k n := by simp only [frz]
theorem e4B (id : Nat) (b : Blk) (c : Bool) : frz id b (.bool c) = .bool c := by simp only [frz]
theorem e7c (id : Nat) (b : Blk) (s : ByteArray) : frz id b (.str s) = .str s := by simp only [frz]
theorem e7d (id : Nat) (b : Blk) : frz id b .nil = .nil := by simp only [frz]
theorem e7b (id : Nat) (b : Blk) : frz id b .top = .top := by simp only [frz]
theorem e7e (id : Nat) (b : Blk) (v : Value) : frz id b (.lit v) = .lit v := by simp only [frz]
theorem e9c (id : Nat) (b : Blk) (wd : Nat) (xs : List AV) : frz id b (.sl wd xs) = .sl wd xs := by simp only [frz]
theorem e9d (id : Nat) (b : Blk) (x : AV) (off : Nat) : frz id b (.ro x off) = .ro x off := by simp only [frz]
theorem e7g (id : Nat) (b : Blk) (cs : List AV) : frz id b (.agg cs) = .agg (cs.map (frz id b)) := by simp only [frz]
theorem e7a (id : Nat) (b : Blk) (cs : List AV) : frz id b (.tup cs) = .tup (cs.map (frz id b)) := by simp only [frz]
theorem e9f (id : Nat) (b : Blk) (f : FuncId) (cs : List AV) : frz id b (.fn f cs) = .fn f (cs.map (frz id b)) := by simp only [frz]
theorem a9j (H : Heap) (i : Nat) (b : Blk) (len : Nat) (oc : Option Nat) (h : len = b.xs.length) : frz (lid H i) b (.mu (lid H i) 0 len oc) = .sl b.wd b.xs := by
  simp [frz, h]
theorem b4I (H : Heap) (i : Nat) (b : Blk) (off len : Nat) (oc : Option Nat) (h : off + len ≤ b.xs.length) : frz (lid H i) b (.mu (lid H i) off len oc) = .sl b.wd ((b.xs.drop off).take len) := by
  simp [frz, h]
theorem a2x (H : Heap) (i j : Nat) (b : Blk) (off len : Nat) (oc : Option Nat) (h : j ≠ i) : frz (lid H i) b (.mu (lid H j) off len oc) = .mu (lid H j) off len oc := by
  have : lid H j ≠ lid H i := by simp only [lid]; omega
  simp [frz, this]
theorem a1O (H : Heap) (i j : Nat) (b : Blk) (k off : Nat) (h : j ≠ i) : frz (lid H i) b (.loc (lid H j) k off) = .loc (lid H j) k off := by
  have : lid H j ≠ lid H i := by simp only [lid]; omega
  simp [frz, this]
section
variable (n0 : Nat) (env : Env) (H L : Heap)
def a1L (n : Nat) (p v : AV) (env : Env) (H : Heap) : Option (AV × Env × Heap) := match p with
  | .loc id i off => (hrow H id).bind fun b =>
        if i < b.xs.length ∧ v.fit = true ∧ v.cells.length = n ∧ off + n ≤ b.wd then some (.top, env, H.set id (some ⟨b.wd, b.xs.set i (upd (b.xs.getD i .top) b.wd off n v)⟩)) else none
  | _ => none
theorem e4I (n : Nat) (a v : Src) : ev n0 (.store n a v) env H = a1L n (a.ev env) (v.ev env) env H := by simp only [ev, a1L]; split <;> simp_all
theorem a5q (n i k off : Nat) (v : AV) {b : Blk} (hl : L[i]? = some (some b)) (hk : k < b.xs.length) (hf : v.fit = true) (hn : v.cells.length = n) (ho : off + n ≤ b.wd) :
    a1L n (.loc (lid H i) k off) v env (hap H L) = some (.top, env, hap H (L.set i (some ⟨b.wd, b.xs.set k (upd (b.xs.getD k .top) b.wd off n v)⟩))) := by
  simp only [a1L, a1k, hl, Option.join_some, Option.bind_some, a3L]
  rw [if_pos ⟨hk, hf, hn, ho⟩]
theorem e9n (n : Nat) (v : Src) : ev n0 (.box n v) env H = if (v.ev env).fit = true ∧ (v.ev env).cells.length = n ∧ 0 < n then some (.loc H.length 0 0, env, H ++ [some ⟨n, [v.ev env]⟩]) else none := rfl
theorem e9m (wd : Nat) (ps : List Src) : ev n0 (.bsl wd ps) env H = if 0 < wd ∧ ps.all (fun s => (s.ev env).fit && decide ((s.ev env).cells.length = wd) && (s.ev env).cells.all clb) then some (.sl wd (ps.map (·.ev env)), env, H) else none := rfl
theorem e7t (wd : Nat) (ps : List Src) : ev n0 (.bslm wd ps) env H = if 0 < wd ∧ ps.all (fun s => (s.ev env).fit && decide ((s.ev env).cells.length = wd)) then
      some (.mu H.length 0 ps.length (some ps.length), env, H ++ [some ⟨wd, ps.map (·.ev env)⟩]) else none := rfl
def c5z (wd bytes : Nat) (z l c : AV) (env : Env) (H : Heap) : Option (AV × Env × Heap) := match l, c with
    | .int _ l, .int _ c => if 0 < wd ∧ 0 ≤ l ∧ l ≤ c ∧ (bytes : Int) * c ≤ 281474976710656 ∧ c ≤ 9223372036854775807 then
        some (.mu H.length 0 l.toNat (some c.toNat), env, H ++ [some ⟨wd, List.replicate l.toNat z⟩]) else none
    | _, _ => none
theorem e7s (wd bytes : Nat) (z : AV) (l c : Src) : ev n0 (.mksl wd bytes z l c) env H = c5z wd bytes z (l.ev env) (c.ev env) env H := by simp only [ev, c5z]; split <;> simp_all
theorem b7p (wd bytes : Nat) (z : AV) (k k' : IntKind) (l c : Nat) (h0 : 0 < wd) (h1 : l ≤ c) (h2 : bytes * c ≤ 281474976710656) (h3 : c ≤ 9223372036854775807) :
    c5z wd bytes z (.int k l) (.int k' c) env (hap H L) = some (.mu (lid H L.length) 0 l (some c), env, hap H (L ++ [some ⟨wd, List.replicate l z⟩])) := by
  simp only [c5z, b9p, b9J, Int.toNat_natCast]
  rw [if_pos ⟨h0, by omega, by omega, by rw [← Int.natCast_mul]; omega, by omega⟩]
noncomputable def appV (n0 wd bytes : Nat) (str : Bool) (x y : AV) (env : Env) (H : Heap) : Option (AV × Env × Heap) := (a0S H wd str y).bind fun ys =>
      match x with
      | .nil => if 0 < wd ∧ ys.length * bytes ≤ 140737488355328 ∧ ys.length ≤ 9223372036854775807 then some (.mu H.length 0 ys.length none, env, H ++ [some ⟨wd, ys⟩]) else none
      | .mu id off len oc => (hrow H id).bind fun r =>
          if r.wd = wd ∧ off = 0 ∧ len ≤ r.xs.length ∧ n0 ≤ id ∧ 0 < ys.length ∧ (oc.any fun c => decide (len + ys.length ≤ c)) = true then
            some (.mu id 0 (len + ys.length) oc, env, H.set id (some ⟨wd, r.xs.take len ++ ys⟩)) else
          if r.wd = wd ∧ off = 0 ∧ len ≤ r.xs.length ∧ n0 ≤ id ∧ free H id = true ∧ (ys.flatMap AV.cells).all (nref id) = true ∧ (r.xs.flatMap AV.cells).all (nref id) = true ∧
              (len + ys.length) * bytes ≤ 140737488355328 ∧ len + ys.length ≤ 9223372036854775807 then
            some (.mu id 0 (len + ys.length) (a1s oc (len + ys.length)), scrub id env, H.set id (some ⟨wd, r.xs.take len ++ ys⟩)) else
          if r.wd = wd ∧ off + len ≤ r.xs.length ∧ 0 < ys.length ∧ (oc.any fun c => decide (c < len + ys.length)) = true ∧ (len + ys.length) * bytes ≤ 140737488355328 ∧ len + ys.length ≤ 9223372036854775807 then
            some (.mu H.length 0 (len + ys.length) none, env, H ++ [some ⟨wd, (r.xs.drop off).take len ++ ys⟩]) else none
      | _ => none
theorem e9o (wd bytes : Nat) (str : Bool) (a b : Src) : ev n0 (.app wd bytes str a b) env H = appV n0 wd bytes str (a.ev env) (b.ev env) env H := by
  simp only [ev, appV]; cases a0S H wd str (b.ev env) <;> simp only [Option.bind_none, Option.bind_some]; split <;> simp_all
theorem e5q (wd bytes : Nat) (str : Bool) (y : AV) (ys : List AV) (hy : a0S (hap H L) wd str y = some ys) (h0 : 0 < wd) (h1 : ys.length * bytes ≤ 140737488355328) (h2 : ys.length ≤ 9223372036854775807) :
    appV n0 wd bytes str .nil y env (hap H L) = some (.mu (lid H L.length) 0 ys.length none, env, hap H (L ++ [some ⟨wd, ys⟩])) := by
  simp only [appV, hy, Option.bind_some, b9p, b9J]
  rw [if_pos ⟨h0, h1, h2⟩]
/-- No row of these names the i-th. -/
def e2X (H : Heap) (L : Heap) (i : Nat) : Prop := ∀ (j : Nat) b, L[j]? = some (some b) → ∀ a ∈ b.flat, Ref (· ≠ lid H i) a
theorem b1Y {H L : Heap} {i : Nat} (h : ∀ b, some b ∈ L → ∀ a ∈ b.flat, Cl a) : e2X H L i := fun j b hb a ha => (h b (List.mem_of_getElem? hb) a ha).ref
theorem d0O {H L : Heap} {i : Nat} (hH : a0F H) (h : e2X H L i) : free (hap H L) (lid H i) = true := by
  rw [d0N]
  intro j bj hj hb a ha
  rcases Nat.lt_or_ge j H.length with hlt | hge
  · simp only [hap] at hb
    rw [List.getElem?_append_left hlt] at hb
    exact (hH j bj hb a ha).mono fun k hk => by show k ≠ lid H i; simp only [lid]; omega
  · simp only [hap] at hb
    rw [List.getElem?_append_right hge] at hb
    exact h _ bj hb a ha
theorem b1Z (wd bytes : Nat) (str : Bool) (i len : Nat) (oc : Option Nat) (y : AV) (xs ys : List AV) (hH : a0F H) (hl : L[i]? = some (some ⟨wd, xs⟩)) (hlen : len = xs.length) (hn : n0 ≤ lid H i) (hy : a0S (hap H L) wd str y = some ys) (ha : e2X H L i)
    (hys : ∀ a ∈ ys.flatMap AV.cells, Ref (· ≠ lid H i) a) (h1 : (len + ys.length) * bytes ≤ 140737488355328) (h2 : len + ys.length ≤ 9223372036854775807) (hoc : (oc.any fun c => decide (len + ys.length ≤ c)) = false) :
    appV n0 wd bytes str (.mu (lid H i) 0 len oc) y env (hap H L) = some (.mu (lid H i) 0 (len + ys.length) (a1s oc (len + ys.length)), scrub (lid H i) env, hap H (L.set i (some ⟨wd, xs ++ ys⟩))) := by
  subst hlen
  simp only [appV, hy, Option.bind_some, a1k, hl, Option.join_some, a3L]
  rw [if_neg (fun h => by rw [hoc] at h; exact absurd h.2.2.2.2.2 (by decide)), if_pos]
  · simp
  · refine ⟨trivial, trivial, Nat.le_refl _, hn, d0O hH ha, ?_, ?_, h1, h2⟩
    · rw [List.all_eq_true]; intro a h; exact a0B.2 (hys a h)
    · rw [List.all_eq_true]; intro a h; exact a0B.2 (ha i _ hl a h)
/-- Where there is room, what else names the row stays. -/
theorem e2I (wd bytes : Nat) (str : Bool) (i len c : Nat) (y : AV) (xs ys : List AV) (hl : L[i]? = some (some ⟨wd, xs⟩)) (hlen : len = xs.length) (hn : n0 ≤ lid H i) (hy : a0S (hap H L) wd str y = some ys) (h0 : 0 < ys.length) (hc : len + ys.length ≤ c) :
    appV n0 wd bytes str (.mu (lid H i) 0 len (some c)) y env (hap H L) = some (.mu (lid H i) 0 (len + ys.length) (some c), env, hap H (L.set i (some ⟨wd, xs ++ ys⟩))) := by
  subst hlen
  simp only [appV, hy, Option.bind_some, a1k, hl, Option.join_some, a3L]
  rw [if_pos]
  · simp
  · exact ⟨trivial, trivial, Nat.le_refl _, hn, h0, by simpa using hc⟩
theorem a4v (wd : Nat) (xs : List AV) : a0S H wd false (.sl wd xs) = some xs := by simp [a0S]
theorem d1E (wd i off len : Nat) (oc : Option Nat) (xs : List AV) (hl : L[i]? = some (some ⟨wd, xs⟩)) (h : off + len ≤ xs.length) : a0S (hap H L) wd false (.mu (lid H i) off len oc) = some ((xs.drop off).take len) := by
  simp [a0S, a1k, hl, h]
end
theorem e7o (k : IntKind) (n : Int) : (AV.int k n).fit = true := rfl
theorem e4G (b : Bool) : (AV.bool b).fit = true := rfl
theorem e7l (s : ByteArray) : (AV.str s).fit = true := rfl
theorem e7p (cs : List AV) : (AV.agg cs).fit = true := rfl
theorem e9g (wd : Nat) (xs : List AV) : (AV.sl wd xs).fit = true := rfl
theorem e7m : AV.nil.fit = true := rfl
theorem e9i (id off len : Nat) (oc : Option Nat) : (AV.mu id off len oc).fit = true := rfl
theorem e7n (id i off : Nat) : (AV.loc id i off).fit = true := rfl
theorem e9j (f : FuncId) (cs : List AV) : (AV.fn f cs).fit = true := rfl
theorem e9h (x : AV) (off : Nat) : (AV.ro x off).fit = true := rfl
theorem a2o (x : AV) (wd : Nat) (v : AV) : upd x wd 0 wd v = v := by simp [upd]
theorem e3t (env : Env) (H : Heap) : resL env H [] = some [] := rfl
theorem e3s (env : Env) (H : Heap) (t : Nat) (r : List ResV) : resL env H (.tmp t :: r) = (resL env H r).map (look env t :: ·) := rfl
theorem e0x (env : Env) (H : Heap) (t : Nat) (n : Option Nat) (r : List ResV) : resL env H (.cell t n :: r) = (c5O H n (look env t)).bind fun a => (resL env H r).map (a :: ·) := rfl
theorem e0I (a : AV) : c3l [a] = a := rfl
theorem e0H (a b : AV) (r : List AV) : c3l (a :: b :: r) = .tup (a :: b :: r) := rfl
theorem e0J : c3l [] = .tup [] := rfl
/-- What a call answers with. -/
def gret (o : Option (List AV)) (k : AV → Prop) : Prop := match o with
  | some as => k (c3l as)
  | none => False
theorem e1L (as : List AV) (k : AV → Prop) : gret (some as) k = k (c3l as) := rfl
@[congr] theorem e8g {x y : Option (List AV)} {k : AV → Prop} (h : x = y) : gret x k = gret y k := by rw [h]
theorem Safe.retn {x : Cx} {todo : List AItem} {env : Env} {H : Heap} {R : AV → Heap → Prop} (h : gret (resL env H x.rs) fun r => R r H) : Safe x (.code .ret :: todo) env H R := by
  unfold gret at h
  split at h
  · rename_i as ha; exact Safe.ret ha h
  · exact h.elim
theorem d1x : (0 < 1) = True := by decide
/-- The evaluator. -/
def EV := And.intro (And.intro (And.intro (@d6b) (@d3O)) (And.intro (@e7S) (@e7z))) <| And.intro (And.intro (And.intro (And.intro (And.intro (And.intro (And.intro (@e5r) (@e2K)) (And.intro (@e2J) (And.intro (@e7P) (@e7Q)))) (And.intro (And.intro (@d9J) (@d6v)) (And.intro (@e2x) (And.intro (@e4M) (@e2c))))) (And.intro (And.intro (And.intro (@e2b) (@e7w)) (And.intro (@e7x) (And.intro (@d9C) (@d6l)))) (And.intro (And.intro (@e2k) (@d8C)) (And.intro (@d8D) (And.intro (@d9A) (@d9B)))))) (And.intro (And.intro (And.intro (And.intro (@d9t) (@e9O)) (And.intro (@e9P) (And.intro (@e1l) (@e4j)))) (And.intro (And.intro (@e3z) (@e3A)) (And.intro (@e1Z) (And.intro (@d9y) (@e9R))))) (And.intro (And.intro (And.intro (@e6v) (@d8A)) (And.intro (@d3e) (And.intro (@e3C) (@e8J)))) (And.intro (And.intro (@e6z) (@e4l)) (And.intro (@e8M) (And.intro (@e8N) (@e9u))))))) (And.intro (And.intro (And.intro (And.intro (And.intro (@e9t) (@e9Q)) (And.intro (@e6e) (And.intro (@e6d) (@e6D)))) (And.intro (And.intro (@e2l) (@e8K)) (And.intro (@e4H) (And.intro (@e6C) (@e7i))))) (And.intro (And.intro (And.intro (@e4D) (@e6B)) (And.intro (@e6A) (And.intro (@e4x) (@e6y)))) (And.intro (And.intro (@e8H) (@e6u)) (And.intro (@e8L) (And.intro (@e6w) (@e8I)))))) (And.intro (And.intro (And.intro (And.intro (@d6Z) (@e8O)) (And.intro (@e5m) (And.intro (@d5K) (@e4k)))) (And.intro (And.intro (@c5P) (@e5b)) (And.intro (@e5a) (And.intro (@d7J) (@e4Z))))) (And.intro (And.intro (And.intro (@e5d) (@e7L)) (And.intro (@e5j) (And.intro (@e4Y) (@e5i)))) (And.intro (And.intro (@e5c) (And.intro (@e5e) (@e5f))) (And.intro (@e5g) (And.intro (@e5h) (@e2B)))))))) (And.intro (And.intro (And.intro (And.intro (And.intro (And.intro (@e2A) (@e1n)) (And.intro (@e9z) (And.intro (@a9u) (@e2w)))) (And.intro (And.intro (@e2v) (@d9H)) (And.intro (@e2s) (And.intro (@e2t) (@e2u))))) (And.intro (And.intro (And.intro (@e4S) (@d7F)) (And.intro (@d4h) (And.intro (@e4T) (@a1k)))) (And.intro (And.intro (@b9p) (@a3L)) (And.intro (@b9J) (And.intro (@e8Y) (@d9I)))))) (And.intro (And.intro (And.intro (And.intro (@join_some) (@e4m)) (And.intro (@e1x) (And.intro (@e4I) (@e9n)))) (And.intro (And.intro (@e9m) (@e7t)) (And.intro (@e7s) (And.intro (@e9o) (@e7o))))) (And.intro (And.intro (And.intro (@e4G) (@e7l)) (And.intro (@e7p) (And.intro (@e9g) (@e7m)))) (And.intro (And.intro (@e9i) (@e7n)) (And.intro (@e9j) (And.intro (@e9h) (@e7H))))))) (And.intro (And.intro (And.intro (And.intro (And.intro (@c3E) (@e7F)) (And.intro (@e7G) (And.intro (@e3N) (@d6W)))) (And.intro (And.intro (@e0K) (@e3O)) (And.intro (@e3P) (And.intro (@e3R) (@e6K))))) (And.intro (And.intro (And.intro (@e6L) (@e3S)) (And.intro (@e3M) (And.intro (@e6N) (@e6M)))) (And.intro (And.intro (@e3Q) (@e0q)) (And.intro (@d8q) (And.intro (@e7f) (@e4B)))))) (And.intro (And.intro (And.intro (And.intro (@e7c) (@e7d)) (And.intro (@e7b) (And.intro (@e7e) (@e9c)))) (And.intro (And.intro (@e9d) (@e7g)) (And.intro (@e7a) (And.intro (@e9f) (@e4C))))) (And.intro (And.intro (And.intro (@e1S) (@d7t)) (And.intro (@d3T) (And.intro (@e1Q) (@a2o)))) (And.intro (And.intro (@e3t) (And.intro (@e3s) (@e0x))) (And.intro (@e0I) (And.intro (@e0H) (And.intro @e0J (And.intro @e1L @d1x)))))))))
def EVC := And.intro (And.intro (And.intro (And.intro (And.intro (@List.map_cons.{0,0}) (@List.map_nil.{0,0})) (And.intro (@List.length_cons.{0}) (And.intro (@List.length_nil.{0}) (@List.cons_append.{0})))) (And.intro (And.intro (@List.nil_append.{0}) (@List.all_cons.{0})) (And.intro (@List.all_nil.{0}) (And.intro (@Option.map_some.{0,0}) (@Option.map_none.{0,0}))))) (And.intro (And.intro (And.intro (@Option.bind_some.{0,0}) (@Option.bind_none.{0,0})) (And.intro (@Option.isSome_some.{0}) (And.intro (@List.getElem?_cons_zero.{0}) (@List.getElem?_cons_succ.{0})))) (And.intro (And.intro (@List.set_cons_zero.{0}) (@List.set_cons_succ.{0})) (And.intro (@Option.join_some.{0}) (And.intro (@List.getD_cons_zero.{0}) (@List.drop_zero.{0})))))) (And.intro (And.intro (And.intro (And.intro (And.intro (@if_true.{0}) (@if_true.{1})) (And.intro (@if_false.{0}) (@if_false.{1}))) (And.intro (@Bool.false_eq_true) (And.intro (@Bool.true_and) (@Bool.and_true)))) (And.intro (And.intro (@Bool.not_true) (@Bool.not_false)) (And.intro (@decide_true) (And.intro (@decide_false) (@Bool.and_self))))) (And.intro (And.intro (And.intro (@ne_eq.{1}) (@not_true_eq_false)) (And.intro (@not_false_eq_true) (And.intro (@and_self) (@and_true)))) (And.intro (And.intro (@true_and) (@Nat.zero_add)) (And.intro (@Nat.add_zero) (And.intro (@Option.some.injEq.{0}) (@Nat.lt_add_one))))))
end Go.Abs
namespace Go.Abs
/-- Whatever is the one is the other. -/
def Le (a b : AV) : Prop := ∀ E v, Rep E v a → Rep E v b
theorem Le.refl (a : AV) : Le a a := fun _ _ h => h
theorem Le.trans {a b c : AV} (h : Le a b) (k : Le b c) : Le a c := fun E v r => k E v (h E v r)
theorem Le.nil (wd : Nat) (h : 0 < wd) : Le .nil (.sl wd []) := fun E v r => b8P wd h r
theorem Le.top (a : AV) : Le a .top := fun E v r => .top v
theorem Le.agg {as bs : List AV} (hl : as.length = bs.length) (h : ∀ (k : Nat) a b, as[k]? = some a → bs[k]? = some b → Le a b) : Le (.agg as) (.agg bs) := by
  intro E v r
  cases r with
  | agg vs _ hlen h1 hrep =>
    refine .agg vs bs (by omega) h1 fun k v b hv hb => ?_
    have hk := a0e hb
    exact h k _ b (List.getElem?_eq_getElem (by omega)) hb E v (hrep k v _ hv (List.getElem?_eq_getElem (by omega)))
  | dead v a id hr hd h1 => simp [AV.ref] at hr
theorem Le.tup {as bs : List AV} (hl : as.length = bs.length) (h : ∀ (k : Nat) a b, as[k]? = some a → bs[k]? = some b → Le a b) : Le (.tup as) (.tup bs) := by
  intro E v r
  cases r with
  | tup vs _ hlen hrep =>
    refine .tup vs bs (by omega) fun k v b hv hb => ?_
    have hk := a0e hb
    exact h k _ b (List.getElem?_eq_getElem (by omega)) hb E v (hrep k v _ hv (List.getElem?_eq_getElem (by omega)))
  | dead v a id hr hd h1 => simp [AV.ref] at hr
theorem Le.agg2 {a b c d : AV} (h : Le a c) (k : Le b d) : Le (.agg [a, b]) (.agg [c, d]) := Le.agg rfl fun i x y hx hy => by
  match i with
  | 0 => cases hx; cases hy; exact h
  | 1 => cases hx; cases hy; exact k
theorem Le.tup2 {a b c d : AV} (h : Le a c) (k : Le b d) : Le (.tup [a, b]) (.tup [c, d]) := Le.tup rfl fun i x y hx hy => by
  match i with
  | 0 => cases hx; cases hy; exact h
  | 1 => cases hx; cases hy; exact k
theorem Le.tup3 {a b e c d f : AV} (h : Le a c) (k : Le b d) (l : Le e f) : Le (.tup [a, b, e]) (.tup [c, d, f]) := Le.tup rfl fun i x y hx hy => by
  match i with
  | 0 => cases hx; cases hy; exact h
  | 1 => cases hx; cases hy; exact k
  | 2 => cases hx; cases hy; exact l
theorem a0k.cutL {P : Program} {f : FuncId} {args : List AV} {H : Heap} {r : AV} (hr : Ref (· < H.length) r) (h : a0k P f args H fun r' H' => Le r' r ∧ ∃ L, H' = hap H L) : a0k P f args H fun r' H' => r' = r ∧ H' = H := by
  refine ⟨h.1, fun φ w vs hok hl hrep => (h.2 φ w vs hok hl hrep).mono ?_⟩
  rintro e w' ⟨v, r', φ', H', rfl, ⟨hle, L, rfl⟩, q1, q2, q3, q4⟩
  have hfree : ∀ (j : Nat) bj, j < H.length → (hap H L)[j]? = some (some bj) → ∀ a ∈ bj.flat, Ref (· < H.length) a := by
    intro j bj hj hb
    simp only [hap] at hb
    rw [List.getElem?_append_left hj] at hb
    exact hok.refs hb
  have hcut := HOk.cut q1 H.length hfree
  have ht : (hap H L).take H.length = H := by simp [hap]
  simp only [ht] at hcut
  exact ⟨v, r, φ', H, rfl, ⟨rfl, rfl⟩, hcut.1, (hle _ _ q2).mono hcut.2 hr, Nat.le_refl _, q4.trans hcut.2⟩
theorem a0d.introL {P : Program} {mu : Nat → Nat → Bool} {f : FuncId} {fn : Func} (hf : P.funcs[f]? = some fn) {ac : ACode} {rs : List ResV} {nt : Nat} (hc : fchk P mu fn = some (ac, rs, nt))
    {args : List AV} {r : AV} (ha : args.length ≤ nt) (hr : Cl r) (h : ∀ H, a0F H → Safe ⟨P, mu, f, nt, rs, H.length⟩ [.code ac] (c3m 0 args) (hap H []) fun r' H' => Le r' r ∧ ∃ L, H' = hap H L) : a0d P f args r := by
  intro H
  refine a0k.cutL hr.ref (a0k.intro hf hc ha fun hH => ?_)
  have := h H hH
  rw [a1F] at this
  exact this
/-- A row's elements told as others that tell less. -/
theorem Safe.toldRow (i : Nat) {x : Cx} {todo : List AItem} {env : Env} {H L : Heap} {R : AV → Heap → Prop} {b b' : Blk} (hl : L[i]? = some (some b)) (hw : b'.wd = b.wd) (hx : ∀ y ∈ b'.xs, y.cells.length = b.wd) (hlen : b'.flat.length = b.flat.length) (hemp : b.xs = [] → b'.xs = [])
    (hle : ∀ (k : Nat) a c, b.flat[k]? = some a → b'.flat[k]? = some c → Le a c) (h : Safe x todo env (hap H (L.set i (some b'))) R) (hpos : 0 < b.wd := by exact Nat.zero_lt_succ _) : Safe x todo env (hap H L) R := by
  intro φ w tmps bf k cs hg hn hb hk htd hsz hok he
  have hl' : (hap H L)[lid H i]? = some (some b) := by
    unfold hap lid
    rw [List.getElem?_append_right (by omega), Nat.add_sub_cancel_left]; exact hl
  have hget : ∀ (j : Nat), (hap H (L.set i (some b')))[j]? = if lid H i = j then some (some b') else (hap H L)[j]? := by
    intro j
    rw [← a3L]
    exact a6M _ _ _ (a0h hl') j
  have hx2 : ∀ w : World, Ext All ⟨φ, hap H L, w⟩ ⟨φ, hap H (L.set i (some b')), w⟩ := by
    intro w
    refine ⟨rfl, rfl, rfl, Nat.le_refl _, by simp [hap], fun _ _ _ => rfl, ?_, fun _ _ _ _ _ _ _ => rfl, ?_, fun _ _ _ => rfl⟩
    · intro j blk' _ _ hb'
      rw [hget] at hb'
      split at hb'
      · rename_i hj; subst hj; simp at hb'; subst hb'; exact ⟨b, hl', hw.symm⟩
      · exact ⟨blk', hb', rfl⟩
    · rintro b0 _ ⟨j, blk', hb', hp⟩
      simp only [hget] at hb'
      split at hb'
      · rename_i hj; subst hj; exact ⟨_, b, hl', hp⟩
      · exact ⟨j, blk', hb', hp⟩
  have live : ∀ (j : Nat) blk', (hap H (L.set i (some b')))[j]? = some (some blk') → (j = lid H i ∧ blk' = b') ∨ (j ≠ lid H i ∧ (hap H L)[j]? = some (some blk')) := by
    intro j blk' hb'
    rw [hget] at hb'
    split at hb'
    · rename_i hj; simp at hb'; exact .inl ⟨hj.symm, hb'.symm⟩
    · rename_i hj; exact .inr ⟨fun e => hj e.symm, hb'⟩
  have hok' : HOk ⟨φ, hap H (L.set i (some b')), w⟩ := by
    refine ⟨fun j x bl h h0 hp => ?_, fun j x h => ?_, fun j x bl h hp => ?_, fun j x h hp => ?_, fun j1 j2 x y bl h1 h2 p1 p2 => ?_⟩
    · rcases live j x h with ⟨rfl, rfl⟩ | ⟨_, h'⟩
      · omega
      · rcases hok.obj j x bl h' h0 hp with ⟨L, q1, q2⟩ | ⟨mid, n, seen, m, q1, q2, q3, q4⟩
        · exact .inl ⟨L, q1, q2⟩
        · refine .inr ⟨mid, n, seen, m, q1, q2, q3, fun blk hb => ?_⟩
          rcases live mid blk hb with ⟨rfl, rfl⟩ | ⟨_, hb'⟩
          · exact absurd (q4 b hl').1 (by omega)
          · exact q4 blk hb'
    · rcases live j x h with ⟨rfl, rfl⟩ | ⟨_, h'⟩
      · rw [hw]; exact hx
      · exact hok.wids j x h'
    · have mv : ∀ {v a}, Rep ⟨φ, hap H L, w⟩ v a → Rep ⟨φ, hap H (L.set i (some b')), w⟩ v a := fun r => r.mono (hx2 w) (r.ref.mono fun _ _ => trivial)
      rcases live j x h with ⟨rfl, rfl⟩ | ⟨_, h'⟩
      · obtain ⟨c, e, r⟩ := hok.row _ b bl hl' hp
        refine ⟨c, e, fun h0 => r.heap hpos, by rw [hlen]; exact r.fits, fun k v hk hv => r.one k v (by rw [← hlen]; exact hk) hv, fun k v a hv ha => ?_⟩
        have hk := a0e ha
        have ha' : b.flat[k]? = some (b.flat[k]'(by omega)) := List.getElem?_eq_getElem (by omega)
        exact mv (hle k _ a ha' ha _ _ (r.rep k v _ hv ha'))
      · obtain ⟨c, e, r⟩ := hok.row j x bl h' hp
        exact ⟨c, e, r.heap, r.fits, r.one, fun k v a hv ha => mv (r.rep k v a hv ha)⟩
    · rcases live j x h with ⟨rfl, rfl⟩ | ⟨_, h'⟩
      · exact hemp (hok.emp _ b hl' hp)
      · exact hok.emp j x h' hp
    · have g1 : ∃ z, (hap H L)[j1]? = some (some z) := by rcases live j1 x h1 with ⟨rfl, _⟩ | ⟨_, h'⟩; exact ⟨b, hl'⟩; exact ⟨x, h'⟩
      have g2 : ∃ z, (hap H L)[j2]? = some (some z) := by rcases live j2 y h2 with ⟨rfl, _⟩ | ⟨_, h'⟩; exact ⟨b, hl'⟩; exact ⟨y, h'⟩
      obtain ⟨_, g1⟩ := g1
      obtain ⟨_, g2⟩ := g2
      exact hok.inj j1 j2 _ _ bl g1 g2 p1 p2
  obtain ⟨v, w', fr, r, φ', H', q1, q2, q3, q4, q5, q6⟩ := h φ w tmps bf k cs hg (by simpa [hap] using hn) hb hk htd hsz hok' (fun t => (he t).mono (hx2 w) ((he t).ref.mono fun _ _ => trivial))
  exact ⟨v, w', fr, r, φ', H', q1, q2, q3, q4, ((hx2 w).sub fun _ _ => trivial).trans q5, q6⟩
theorem e6h (n i off : Nat) (v : AV) (env : Env) (H L : Heap) : a1L n (.loc (lid H i) 0 off) v env (hap H L) = (L[i]?).join.bind fun b =>
    if 0 < b.xs.length ∧ v.fit = true ∧ v.cells.length = n ∧ off + n ≤ b.wd then some (.top, env, hap H (L.set i (some ⟨b.wd, b.xs.set 0 (upd (b.xs.getD 0 .top) b.wd off n v)⟩))) else none := by
  simp only [a1L, a1k, a3L]
theorem e4X (env : Env) (cs : List AV) : bldV env cs [] = some cs := rfl
theorem e2y (env : Env) (cs : List AV) (off n : Nat) (s : Src) (r : List (Nat × Nat × Src)) :
    bldV env cs ((off, n, s) :: r) = if (s.ev env).cells.length = n ∧ off + n ≤ cs.length ∧ (s.ev env).fit = true then bldV env (a2p cs off (s.ev env).cells) r else none := rfl
theorem e0e (cs : List AV) (off : Nat) (as : List AV) : a2p cs off as = cs.take off ++ as ++ cs.drop (off + as.length) := rfl
def EV2 := And.intro (And.intro @e6h (And.intro @e4X (And.intro @e2y @e0e))) (And.intro (And.intro (And.intro (@List.drop_succ_cons.{0}) (@List.take_succ_cons.{0})) (And.intro (@List.take_zero.{0}) (@List.take_nil.{0}))) (And.intro (And.intro (@List.drop_nil.{0}) (@List.append_nil.{0})) (And.intro (@Nat.le_refl) (@Nat.lt_irrefl))))
end Go.Abs
namespace Go.Abs
section
variable {x : Cx} {l : ACode} {todo : List AItem} {R : AV → Heap → Prop}
/-- The structural steps. -/
def stl : Nat → List AItem → List AItem
  | 0, k => k
  | n + 1, .code (.seq a b) :: k => stl n (.code a :: .code b :: k)
  | n + 1, .code .skip :: k => stl n k
  | n + 1, .code (.block id a) :: k => stl n (.code a :: .inBlock id :: k)
  | n + 1, .inBlock _ :: k => stl n k
  | n + 1, .code (.scope a) :: k => stl n (.code a :: .inScope a :: k)
  | n + 1, .inScope _ :: k => stl n k
  | n + 1, .code (.exit id) :: k => match c7g id k with
    | some k' => stl n k'
    | none => .code (.exit id) :: k
  | n + 1, .code (.label _) :: k => stl n k
  | n + 1, .code (.goto l) :: k => match c7e l k with
    | some k' => stl n k'
    | none => .code (.goto l) :: k
  | _, k => k
theorem Safe.stl {env : Env} {H : Heap} : ∀ (n : Nat) (k : List AItem), Safe x (stl n k) env H R → Safe x k env H R := by
  intro n
  induction n with
  | zero => intro k h; cases k <;> exact h
  | succ n ih =>
    intro k h
    unfold Abs.stl at h
    split at h
    · rename_i h0; cases h0
    · rename_i h0; cases h0; exact Safe.seq (ih _ h)
    · rename_i h0; cases h0; exact Safe.skip (ih _ h)
    · rename_i h0; cases h0; exact Safe.block (ih _ h)
    · rename_i h0; cases h0; exact Safe.inBlock (ih _ h)
    · rename_i h0; cases h0; exact Safe.scope (ih _ h)
    · rename_i h0; cases h0; exact Safe.inScope (ih _ h)
    · rename_i h0; cases h0
      split at h
      · rename_i he; exact Safe.exit he (ih _ h)
      · exact h
    · rename_i h0; cases h0; exact Safe.label (ih _ h)
    · rename_i h0; cases h0
      split at h
      · rename_i he; exact Safe.goto he (ih _ h)
      · exact h
    · exact h
theorem Safe.rg {env : Env} {H : Heap} {k k' : List AItem} {b : Bool} {l : List AIns} (e : Abs.stl 40 k = .code (.region l b) :: k')
    (h : if b = true then dops x.P x.n0 l (fun env' H' => Safe x k' env' H' R) env H else aops x.P x.n0 l (fun env' H' => Safe x k' env' H' R) env H) : Safe x k env H R := by
  refine Safe.stl 40 k ?_
  rw [e]
  cases b
  · exact Safe.region h
  · exact Safe.regionD h
theorem Safe.rx {env : Env} {H : Heap} {k k' : List AItem} {p s1 s2 : List AIns} {sd : List (Nat × Nat)} (e : Abs.stl 40 k = .code (.regionX p s1 s2 sd) :: k') (hs : sdOk sd env)
    (h : dops x.P x.n0 p (fun env' H' => dops x.P x.n0 s1 (fun env' H' => Safe x k' env' H' R) env' H' ∧ dops x.P x.n0 s2 (fun env' H' => Safe x k' env' H' R) env' H') env H) : Safe x k env H R := by
  refine Safe.stl 40 k ?_
  rw [e]
  exact Safe.regionX hs h
theorem Safe.cd {env : Env} {H : Heap} {k k' : List AItem} {s : Src} {a b : ACode} (e : Abs.stl 40 k = .code (.cond s a b) :: k')
    (h : d9u (s.ev env) fun c => if c then Safe x (.code a :: k') env H R else Safe x (.code b :: k') env H R) : Safe x k env H R := by
  refine Safe.stl 40 k ?_
  rw [e]
  exact Safe.cond h
theorem Safe.lp {env : Env} {H : Heap} {k k' : List AItem} {a : ACode} (e : Abs.stl 40 k = .code (.loop a) :: k') (h : Safe x (.inLoop a :: k') env H R) : Safe x k env H R := by
  refine Safe.stl 40 k ?_
  rw [e]
  exact Safe.loop h
theorem Safe.rt {env : Env} {H : Heap} {k k' : List AItem} (e : Abs.stl 40 k = .code .ret :: k') (h : gret (resL env H x.rs) fun r => R r H) : Safe x k env H R := by
  refine Safe.stl 40 k ?_
  rw [e]
  exact Safe.retn h
theorem Safe.loopP (n : Nat) (E : Nat → Env) (G : Nat → Heap) (P : Nat → Prop) {env : Env} {H : Heap} (he : env = E 0) (hG : H = G 0) (h0 : P 0)
    (step : ∀ i, i < n → P i → (P (i + 1) → Safe x (.inLoop l :: todo) (E (i + 1)) (G (i + 1)) R) → Safe x (.inLoop l :: todo) (E i) (G i) R)
    (last : P n → Safe x (.inLoop l :: todo) (E n) (G n) R) : Safe x (.inLoop l :: todo) env H R := by
  subst he; subst hG
  have key : ∀ k i, i + k = n → P i → Safe x (.inLoop l :: todo) (E i) (G i) R := by
    intro k
    induction k with
    | zero => intro i hi hp; rw [show i = n by omega] at hp ⊢; exact last hp
    | succ k ih => intro i hi hp; exact step i (by omega) hp fun hp' => ih (i + 1) (by omega) hp'
  exact key n 0 (by omega) h0
theorem Safe.loopN (n : Nat) (E : Nat → Env) (G : Nat → Heap) {env : Env} {H : Heap} (he : env = E 0) (hG : H = G 0)
    (step : ∀ i, i < n → Safe x (.inLoop l :: todo) (E (i + 1)) (G (i + 1)) R → Safe x (.inLoop l :: todo) (E i) (G i) R)
    (last : Safe x (.inLoop l :: todo) (E n) (G n) R) : Safe x (.inLoop l :: todo) env H R :=
  Safe.loopP n E G (fun _ => True) he hG trivial (fun i hi _ ih => step i hi (ih trivial)) fun _ => last
/-- A loop that counts down. -/
theorem Safe.loopD (n : Nat) (E : Nat → Env) (G : Nat → Heap) {env : Env} {H : Heap} (he : env = E n) (hG : H = G n)
    (step : ∀ i, i < n → Safe x (.inLoop l :: todo) (E i) (G i) R → Safe x (.inLoop l :: todo) (E (i + 1)) (G (i + 1)) R)
    (last : Safe x (.inLoop l :: todo) (E 0) (G 0) R) : Safe x (.inLoop l :: todo) env H R := by
  subst he; subst hG
  have key : ∀ i, i ≤ n → Safe x (.inLoop l :: todo) (E i) (G i) R := by
    intro i
    induction i with
    | zero => intro _; exact last
    | succ i ih => intro hi; exact step i (by omega) (ih (by omega))
  exact key n (Nat.le_refl _)
/-- A loop with a measure. -/
theorem Safe.loopW {α : Type} (μ : α → Nat) (E : α → Env) (G : α → Heap) (P : α → Prop) (a0 : α) {env : Env} {H : Heap} (he : env = E a0) (hG : H = G a0) (h0 : P a0)
    (step : ∀ a, P a → (∀ b, P b → μ b < μ a → Safe x (.inLoop l :: todo) (E b) (G b) R) → Safe x (.inLoop l :: todo) (E a) (G a) R) : Safe x (.inLoop l :: todo) env H R := by
  subst he; subst hG
  have key : ∀ k a, μ a ≤ k → P a → Safe x (.inLoop l :: todo) (E a) (G a) R := by
    intro k
    induction k with
    | zero => intro a ha hp; exact step a hp fun b hb hlt => absurd hlt (by omega)
    | succ k ih => intro a ha hp; exact step a hp fun b hb hlt => ih b (by omega) hb
  exact key (μ a0) a0 (Nat.le_refl _) h0
theorem a7Y {α β : Type} (f : α → β) (l : List α) {i : Nat} (h : i < l.length) : (l.take (i + 1)).map f = (l.take i).map f ++ [f l[i]] := by
  rw [List.take_succ_eq_append_getElem h, List.map_append]; rfl
theorem c4e {α : Type} (l : List α) {i : Nat} (h : i < l.length) : l.take (i + 1) = l.take i ++ [l[i]] := List.take_succ_eq_append_getElem h
end
end Go.Abs
namespace Go.Abs
theorem Ref.both {S T : Nat → Prop} {a : AV} (h : Ref S a) (k : Ref T a) : Ref (fun i => S i ∧ T i) a := by
  induction h with
  | top => exact .top
  | int => exact .int _ _
  | bool => exact .bool _
  | str => exact .str _
  | nil => exact .nil
  | lit => exact .lit _
  | sl => exact .sl _ _
  | ro => exact .ro _ _
  | mu i off len oc h => cases k with | mu _ _ _ _ h' => exact .mu i off len oc ⟨h, h'⟩
  | mp b i h => cases k with | mp _ _ h' => exact .mp b i ⟨h, h'⟩
  | mo l => exact .mo l
  | io i n seen => exact .io i n seen
  | loc i k off h => cases k with | loc _ _ _ h' => exact .loc i _ off ⟨h, h'⟩
  | agg cs h ih => cases k with | agg _ h' => exact .agg cs fun c hc => ih c hc (h' c hc)
  | tup cs h ih => cases k with | tup _ h' => exact .tup cs fun c hc => ih c hc (h' c hc)
  | fn f cs h ih => cases k with | fn _ _ h' => exact .fn f cs fun c hc => ih c hc (h' c hc)
  | bfn f cs h ih => cases k with | bfn _ _ h' => exact .bfn f cs fun c hc => ih c hc (h' c hc)
theorem d3s {env : Env} {id : Nat} (h : env.all (fun p => nref id p.2) = true) (t : Nat) : Ref (· ≠ id) (look env t) := by
  induction env with
  | nil => exact .top
  | cons p env ih =>
    simp only [List.all_cons, Bool.and_eq_true] at h
    simp only [look]
    split
    · exact a0B.1 h.1
    · exact ih h.2
theorem Safe.drop {x : Cx} {todo : List AItem} {env : Env} {H L : Heap} {R : AV → Heap → Prop} {o : Option Blk} (hH : a0F H) (hx : x.n0 = H.length) (he : env.all (fun p => nref (lid H L.length) p.2) = true)
    (hL : ∀ b, some b ∈ L → ∀ a ∈ b.flat, nref (lid H L.length) a = true) (h : Safe x todo env (hap H L) R) : Safe x todo env (hap H (L ++ [o])) R := by
  intro φ w tmps b k cs hg hn hb hk htd hsz hok hrep
  have hlen : (hap H (L ++ [o])).length = lid H L.length + 1 := by simp [hap, lid, Nat.add_assoc]
  have lt : ∀ {a}, Ref (· < (hap H (L ++ [o])).length) a → Ref (· ≠ lid H L.length) a → Ref (· < lid H L.length) a := fun h1 h2 => (h1.both h2).mono fun i ⟨q1, q2⟩ => by rw [hlen] at q1; show i < _; omega
  have htake : (hap H (L ++ [o])).take (lid H L.length) = hap H L := by
    simp only [hap, lid, ← List.append_assoc]
    rw [show H.length + L.length = (H ++ L).length by simp, List.take_left']
    rfl
  have hcut := HOk.cut (E := ⟨φ, hap H (L ++ [o]), w⟩) hok (lid H L.length) (by
    intro j bj hj hbj a ha
    refine lt (hok.refs hbj a ha) ?_
    simp only [hap] at hbj
    rcases Nat.lt_or_ge j H.length with hlt | hge
    · rw [List.getElem?_append_left hlt] at hbj
      exact (hH j bj hbj a ha).mono fun i hi => by show i ≠ H.length + L.length; have : i < H.length := hi; omega
    · rw [List.getElem?_append_right hge] at hbj
      have hj2 : j - H.length < L.length := by simp only [lid] at hj; omega
      rw [List.getElem?_append_left hj2] at hbj
      exact a0B.1 (hL bj (List.mem_of_getElem? hbj) a ha))
  simp only [htake] at hcut
  obtain ⟨v, w', fr, r, φ', H', q1, q2, q3, q4, q5, q6⟩ := h φ w tmps b k cs hg (by rw [hx]; simp [hap]) hb hk htd hsz hcut.1 (fun t => (hrep t).mono hcut.2 (lt (hrep t).ref (d3s he t)))
  exact ⟨v, w', fr, r, φ', H', q1, q2, q3, q4, (hcut.2.sub fun i hi => by rw [hx] at hi; show i < H.length + L.length; have : i < H.length := hi; omega).trans q5, q6⟩
/-- The same where the other rows are closed. -/
theorem Safe.dropC {x : Cx} {todo : List AItem} {env : Env} {H L : Heap} {R : AV → Heap → Prop} {o : Option Blk} (hH : a0F H) (hx : x.n0 = H.length) (he : env.all (fun p => nref (lid H L.length) p.2) = true)
    (hL : ∀ b, some b ∈ L → ∀ a ∈ b.flat, Cl a) (h : Safe x todo env (hap H L) R) : Safe x todo env (hap H (L ++ [o])) R :=
  Safe.drop hH hx he (fun b hb a ha => a1z (hL b hb a ha)) h
end Go.Abs
namespace Go.Abs
theorem a0F.set {H : Heap} (h : a0F H) (id : Nat) {b : Blk} (hb : ∀ a ∈ b.flat, Ref (· < H.length) a) : a0F (H.set id (some b)) := by
  intro j bj hj a ha
  rw [List.length_set]
  rw [List.getElem?_set] at hj
  split at hj
  · split at hj
    · cases hj; exact hb a ha
    · cases hj
  · exact h j bj hj a ha
/-- A function's rows of its own are forgotten; what it wrote below stays. -/
theorem a0k.eff {P : Program} {mu : Nat → Nat → Bool} {f : FuncId} {fn : Func} (hf : P.funcs[f]? = some fn) {ac : ACode} {rs : List ResV} {nt : Nat} (hc : fchk P mu fn = some (ac, rs, nt))
    {args : List AV} {H : Heap} {R : AV → Heap → Prop} (ha : args.length ≤ nt)
    (h : a0F H → Safe ⟨P, mu, f, nt, rs, H.length⟩ [.code ac] (c3m 0 args) (hap H []) fun r' H' => ∃ H1 L, H' = hap H1 L ∧ H1.length = H.length ∧ a0F H1 ∧ Ref (· < H.length) r' ∧ R r' H1) : a0k P f args H R := by
  have h0 : a0k P f args H fun r' H' => ∃ H1 L, H' = hap H1 L ∧ H1.length = H.length ∧ a0F H1 ∧ Ref (· < H.length) r' ∧ R r' H1 := a0k.intro hf hc ha fun hH => by
    have := h hH
    rw [a1F] at this
    exact this
  refine ⟨h0.1, fun φ w vs hok hl hrep => (h0.2 φ w vs hok hl hrep).mono ?_⟩
  rintro e w' ⟨v, r', φ', H', rfl, ⟨H1, L, rfl, hlen, hrefs, hcl, hR⟩, q1, q2, q3, q4⟩
  have hfree : ∀ (j : Nat) bj, j < H.length → (hap H1 L)[j]? = some (some bj) → ∀ a ∈ bj.flat, Ref (· < H.length) a := by
    intro j bj hj hb
    simp only [hap] at hb
    rw [List.getElem?_append_left (by omega)] at hb
    have := hrefs j bj hb
    rwa [hlen] at this
  have hcut := HOk.cut q1 H.length hfree
  have ht : (hap H1 L).take H.length = H1 := by simp [hap, ← hlen]
  simp only [ht] at hcut
  exact ⟨v, r', φ', H1, rfl, hR, hcut.1, q2.mono hcut.2 hcl, by omega, q4.trans hcut.2⟩
section
variable {H L : Heap} {id : Nat} (hid : id < H.length)
include hid
theorem d5n (b : Blk) : hrow (hap (H.set id (some b)) L) id = some b := by
  rw [a6B _ _ _ (by simpa using hid)]
  simp [hrow, hid]
theorem e6H (b : Option Blk) (b' : Option Blk) : (hap (H.set id b) L).set id b' = hap (H.set id b') L := by
  unfold hap
  rw [List.set_append_left _ _ (by simpa using hid), List.set_set]
theorem b8U (wd : Nat) (X : List AV) (off len j : Nat) (oc : Option Nat) (k : IntKind) (h : j < len) : idxV (hap (H.set id (some ⟨wd, X⟩)) L) wd (.mu id off len oc) (.int k j) = some (.loc id (off + j) 0) := by
  rw [b4H _ _ _ _ _ _ _ _ (by omega) (by omega), d5n hid]
  simp
theorem e8S (b : Blk) (j : Nat) (h : j < b.xs.length) : atV (hap (H.set id (some b)) L) (.loc id j 0) = some (b.xs.getD j .top).cells := by
  rw [a9u, d5n hid]; simp [h]
theorem e8R (env : Env) (b : Blk) (n j : Nat) (v : AV) (h : j < b.xs.length) (hf : v.fit = true) (hn : v.cells.length = n) (ho : n ≤ b.wd) :
    a1L n (.loc id j 0) v env (hap (H.set id (some b)) L) = some (.top, env, hap (H.set id (some ⟨b.wd, b.xs.set j (upd (b.xs.getD j .top) b.wd 0 n v)⟩)) L) := by
  simp only [a1L, d5n hid, Option.bind_some, e6H hid]
  rw [if_pos ⟨h, hf, hn, by omega⟩]
end
theorem e3o {H : Heap} {id : Nat} {b : Option Blk} (h : H[id]? = some b) : H.set id b = H := by
  apply List.ext_getElem?
  intro j
  rw [List.getElem?_set]
  split
  · rename_i e; subst e
    have := (List.getElem?_eq_some_iff.1 h).1
    rw [if_pos this, h]
  · rfl
end Go.Abs
namespace Go.Abs
theorem a0d.consume {P : Program} {f : FuncId} {args : List AV} {r : AV} {H : Heap} {id : Nat} {b : Blk} (hl : H[id]? = some (some b)) (hcl : ∀ c ∈ b.flat, Cl c)
    (h : a0d P f (args.map (frz id b)) r) (hpos : 0 < b.wd := by exact Nat.zero_lt_succ _) : a0k P f args H fun r' H' => r' = r ∧ H' = frzH id b H := by
  have h0 := h (frzH id b H)
  refine ⟨h0.1, fun φ w vs hok hlen hrep => ?_⟩
  have hok' := d7s hok hpos hl hcl
  refine (h0.2 φ w vs hok' (by simpa using hlen) fun k v a hv ha => ?_).mono ?_
  · rw [List.getElem?_map, Option.map_eq_some_iff] at ha
    obtain ⟨a0, ha, rfl⟩ := ha
    exact c6g hok hpos hl hcl (hrep k v a0 hv ha)
  · rintro e w' ⟨v, r', φ', H', rfl, hr, q1, q2, q3, q4⟩
    have hlen2 : (frzH id b H).length = H.length := by simp [frzH]
    rw [hlen2] at q3 q4
    exact ⟨v, r', φ', H', rfl, hr, q1, q2, q3, (c6h.sub fun _ _ => trivial).trans q4⟩
/-- The i-th of the call's own rows. -/
theorem a0d.consumeL {P : Program} {f : FuncId} {args : List AV} {r : AV} {H L : Heap} {R : AV → Heap → Prop} (hH : a0F H) (i : Nat) {b : Blk} (hl : L[i]? = some (some b)) (hcl : ∀ c ∈ b.flat, Cl c)
    (h : a0d P f (args.map (frz (lid H i) b)) r) (k : R r (hap H ((frzL (lid H i) b L).set i none))) (hpos : 0 < b.wd := by exact Nat.zero_lt_succ _) : a0k P f args (hap H L) R := by
  have hl' : (hap H L)[lid H i]? = some (some b) := by
    unfold hap lid
    rw [List.getElem?_append_right (by omega), Nat.add_sub_cancel_left]; exact hl
  refine (a0d.consume hl' hcl h hpos).mono ?_
  rintro r' H' ⟨rfl, rfl⟩
  rw [b1S hH]; exact k
end Go.Abs
namespace Go.Abs
def fr (n : Nat) (f : Nat → AV) : List AV := (List.range n).map f
theorem b7O (n : Nat) (f : Nat → AV) : (fr n f).length = n := by simp [fr]
theorem e1T {n : Nat} {f : Nat → AV} {i : Nat} (h : i < n) : (fr n f).getD i .top = f i := by simp [fr, List.getD_eq_getElem?_getD, h]
theorem a2L {n : Nat} {f g : Nat → AV} (h : ∀ i, i < n → f i = g i) : fr n f = fr n g := List.map_congr_left fun i hi => h i (List.mem_range.1 hi)
theorem d7v (n : Nat) (f : Nat → AV) (i : Nat) (v : AV) : (fr n f).set i v = fr n fun j => if j = i then v else f j := by
  apply List.ext_getElem?
  intro j
  rw [List.getElem?_set]
  simp only [fr, List.getElem?_map, List.length_map, List.length_range]
  rcases Nat.lt_or_ge j n with h | h
  · rw [List.getElem?_range h]
    by_cases e : i = j
    · subst e; simp [h]
    · simp [e, Ne.symm e]
  · by_cases e : i = j
    · subst e; simp [h]
    · simp [e, h]
theorem d7w {n : Nat} {f : Nat → AV} {a : AV} (h : a ∈ fr n f) : ∃ i, i < n ∧ a = f i := by
  obtain ⟨i, hi, rfl⟩ := List.mem_map.1 h
  exact ⟨i, List.mem_range.1 hi, rfl⟩
theorem e7h (n : Nat) (f : Nat → AV) : fr (n + 1) f = fr n f ++ [f n] := by simp [fr, List.range_succ]
theorem e4Q {a : AV} (h : Cl a) : ∀ c ∈ a.cells, Cl c := by
  cases h with
  | agg cs h => exact h
  | top => intro c hc; simp [AV.cells] at hc; subst hc; exact .top
  | int k n => intro c hc; simp [AV.cells] at hc; subst hc; exact .int k n
  | bool b => intro c hc; simp [AV.cells] at hc; subst hc; exact .bool b
  | str b => intro c hc; simp [AV.cells] at hc; subst hc; exact .str b
  | nil => intro c hc; simp [AV.cells] at hc; subst hc; exact .nil
  | lit v => intro c hc; simp [AV.cells] at hc; subst hc; exact .lit v
  | sl wd xs h => intro c hc; simp [AV.cells] at hc; subst hc; exact .sl wd xs h
  | ro x off h => intro c hc; simp [AV.cells] at hc; subst hc; exact .ro x off h
  | tup cs h => intro c hc; simp [AV.cells] at hc; subst hc; exact .tup cs h
  | fn f cs h => intro c hc; simp [AV.cells] at hc; subst hc; exact .fn f cs h
  | bfn f cs h => intro c hc; simp [AV.cells] at hc; subst hc; exact .bfn f cs h
/-- Rows bound anew: the outer one, and n inner ones behind it. -/
def hm (G : Heap) (β n : Nat) (O : List AV) (R : Nat → Option Blk) : Heap := G.mapIdx fun j o => if j = β then some ⟨1, O⟩ else if β < j ∧ j ≤ β + n then R (j - (β + 1)) else o
theorem a1N (G : Heap) (β n : Nat) (O : List AV) (R : Nat → Option Blk) : (hm G β n O R).length = G.length := by simp [hm]
theorem a1R (G : Heap) (β n : Nat) (O : List AV) (R : Nat → Option Blk) (j : Nat) (hj : j < G.length) : (hm G β n O R)[j]? = if j = β then some (some ⟨1, O⟩) else if β < j ∧ j ≤ β + n then some (R (j - (β + 1))) else G[j]? := by
  simp only [hm, List.getElem?_mapIdx, List.getElem?_eq_getElem hj, Option.map_some]
  split
  · rfl
  · split <;> rfl
theorem e1H {G : Heap} {β n : Nat} {O : List AV} {R : Nat → Option Blk} (ho : G[β]? = some (some ⟨1, O⟩)) (hr : ∀ j, j < n → G[β + 1 + j]? = some (R j)) : hm G β n O R = G := by
  apply List.ext_getElem?
  intro j
  rcases Nat.lt_or_ge j G.length with hj | hj
  · rw [a1R _ _ _ _ _ _ hj]
    split
    · rename_i e; subst e; exact ho.symm
    · split
      · rename_i e1 e2
        have := hr (j - (β + 1)) (by omega)
        rw [show β + 1 + (j - (β + 1)) = j by omega] at this
        exact this.symm
      · rfl
  · rw [List.getElem?_eq_none (by rw [a1N]; exact hj), List.getElem?_eq_none hj]
theorem a9h {G : Heap} {β n : Nat} {O O' : List AV} {R R' : Nat → Option Blk} (ho : O = O') (hr : ∀ j, j < n → R j = R' j) : hm G β n O R = hm G β n O' R' := by
  subst ho
  apply List.ext_getElem?
  intro j
  rcases Nat.lt_or_ge j G.length with hj | hj
  · rw [a1R _ _ _ _ _ _ hj, a1R _ _ _ _ _ _ hj]
    split
    · rfl
    · split
      · rw [hr _ (by omega)]
      · rfl
  · rw [List.getElem?_eq_none (by rw [a1N]; exact hj), List.getElem?_eq_none (by rw [a1N]; exact hj)]
theorem b8M (A B : Heap) (id : Nat) (b : Option Blk) (h : id < A.length) : (hap A B).set id b = hap (A.set id b) B := by
  unfold hap; exact List.set_append_left _ _ h
theorem d7e (G : Heap) (β n : Nat) (O : List AV) (R : Nat → Option Blk) (i : Nat) : lid (hm G β n O R) i = lid G i := by unfold lid; rw [a1N]
section
variable {G L : Heap} {β n : Nat} {O : List AV} {R : Nat → Option Blk}
/-- Local rows behind. -/
theorem d7m (i : Nat) : hrow (hap (hm G β n O R) L) (lid G i) = (L[i]?).join := by
  rw [← d7e G β n O R, a1k]
theorem e0o (i : Nat) (x : Option Blk) : (hap (hm G β n O R) L).set (lid G i) x = hap (hm G β n O R) (L.set i x) := by
  rw [← d7e G β n O R, a3L]
variable (hG : β + n < G.length)
include hG
theorem d7k : hrow (hap (hm G β n O R) L) β = some ⟨1, O⟩ := by
  rw [a6B _ _ _ (by rw [a1N]; omega)]
  simp only [hrow]
  rw [a1R _ _ _ _ _ _ (by omega), if_pos rfl]; rfl
theorem e6X {j : Nat} (hj : j < n) : hrow (hap (hm G β n O R) L) (β + 1 + j) = R j := by
  rw [a6B _ _ _ (by rw [a1N]; omega)]
  simp only [hrow]
  rw [a1R _ _ _ _ _ _ (by omega), if_neg (by omega), if_pos (by omega), show β + 1 + j - (β + 1) = j by omega]; rfl
theorem e0m (O' : List AV) : (hap (hm G β n O R) L).set β (some ⟨1, O'⟩) = hap (hm G β n O' R) L := by
  rw [b8M _ _ _ _ (by rw [a1N]; omega)]
  congr 1
  apply List.ext_getElem?
  intro j
  rw [List.getElem?_set]
  rcases Nat.lt_or_ge j G.length with hj | hj
  · rw [a1R _ _ _ _ _ _ hj, a1R _ _ _ _ _ _ hj, a1N]
    by_cases h : β = j
    · subst h; simp [hj]
    · rw [if_neg h, if_neg (Ne.symm h), if_neg (Ne.symm h)]
  · rw [List.getElem?_eq_none (by rw [a1N]; exact hj), List.getElem?_eq_none (by rw [a1N]; exact hj), if_neg (by omega)]
theorem e8y {j : Nat} (hj : j < n) (b : Option Blk) : (hap (hm G β n O R) L).set (β + 1 + j) b = hap (hm G β n O fun t => if t = j then b else R t) L := by
  rw [b8M _ _ _ _ (by rw [a1N]; omega)]
  congr 1
  apply List.ext_getElem?
  intro i
  rw [List.getElem?_set]
  rcases Nat.lt_or_ge i G.length with hi | hi
  · rw [a1R _ _ _ _ _ _ hi, a1R _ _ _ _ _ _ hi, a1N]
    by_cases h : β + 1 + j = i
    · subst h
      rw [if_pos rfl, if_pos (by omega), if_neg (by omega), if_pos (by omega), if_pos (by omega)]
    · rw [if_neg h]
      by_cases h1 : i = β
      · rw [if_pos h1, if_pos h1]
      · rw [if_neg h1, if_neg h1]
        by_cases h2 : β < i ∧ i ≤ β + n
        · rw [if_pos h2, if_pos h2, if_neg (by omega)]
        · rw [if_neg h2, if_neg h2]
  · rw [List.getElem?_eq_none (by rw [a1N]; exact hi), List.getElem?_eq_none (by rw [a1N]; exact hi), if_neg (by omega)]
end
/-- A matrix: inner rows of c elements of w cells; logical row i lies at π i. -/
def orow (β n c : Nat) (oc : Option Nat) (π : Nat → Nat) : List AV := fr n fun i => .mu (β + 1 + π i) 0 c oc
def hM (G : Heap) (β n w c : Nat) (oc : Option Nat) (π : Nat → Nat) (S : Nat → Nat → AV) : Heap := hm G β n (orow β n c oc π) fun j => some ⟨w, fr c (S j)⟩
def upd2 (S : Nat → Nat → AV) (j k : Nat) (v : AV) : Nat → Nat → AV := fun a b => if a = j then (if b = k then v else S a b) else S a b
def swp (π : Nat → Nat) (p r : Nat) : Nat → Nat := fun i => if i = p then π r else if i = r then π p else π i
theorem a7K (G : Heap) (β n w c : Nat) (oc : Option Nat) (π : Nat → Nat) (S : Nat → Nat → AV) : (hM G β n w c oc π S).length = G.length := a1N _ _ _ _ _
theorem a1B (G : Heap) (β n w c : Nat) (oc : Option Nat) (π : Nat → Nat) (S : Nat → Nat → AV) (i : Nat) : lid (hM G β n w c oc π S) i = lid G i := d7e _ _ _ _ _ _
theorem e4z {G : Heap} {β n w c : Nat} {oc : Option Nat} {π : Nat → Nat} {S S' : Nat → Nat → AV} (h : ∀ j k, j < n → k < c → S j k = S' j k) : hM G β n w c oc π S = hM G β n w c oc π S' :=
  a9h rfl fun j hj => by rw [a2L fun k hk => h j k hj hk]
section
variable {G L : Heap} {β n w c : Nat} {oc : Option Nat} {π : Nat → Nat} {S : Nat → Nat → AV}
theorem a0y (i : Nat) : hrow (hap (hM G β n w c oc π S) L) (lid G i) = (L[i]?).join := d7m i
theorem a0J (i : Nat) (x : Option Blk) : (hap (hM G β n w c oc π S) L).set (lid G i) x = hap (hM G β n w c oc π S) (L.set i x) := e0o i x
variable (hG : β + n < G.length)
include hG
theorem b1d : hrow (hap (hM G β n w c oc π S) L) β = some ⟨1, orow β n c oc π⟩ := d7k hG
theorem c3A {j : Nat} (hj : j < n) : hrow (hap (hM G β n w c oc π S) L) (β + 1 + j) = some ⟨w, fr c (S j)⟩ := e6X hG hj
/-- A row of the matrix. -/
theorem a4f {i : Nat} (hi : i < n) (oc' : Option Nat) (k : IntKind) : idxV (hap (hM G β n w c oc π S) L) 1 (.mu β 0 n oc') (.int k i) = some (.loc β i 0) := by
  rw [b4H _ _ _ _ _ _ _ _ (by omega) (by omega), b1d hG]; simp
theorem M_at {i : Nat} (hi : i < n) : atV (hap (hM G β n w c oc π S) L) (.loc β i 0) = some [.mu (β + 1 + π i) 0 c oc] := by
  rw [a9u, b1d hG]
  simp only [Option.bind_some, orow, b7O]
  rw [if_pos hi, e1T hi]; rfl
theorem b2c (len : Nat) (oc' : Option Nat) : lenV (hap (hM G β n w c oc π S) L) (.mu β 0 len oc') = some (.int .i64 len) := by
  rw [c5P, b1d hG]; rfl
theorem e2V {j : Nat} (hj : j < n) (len : Nat) (oc' : Option Nat) : lenV (hap (hM G β n w c oc π S) L) (.mu (β + 1 + j) 0 len oc') = some (.int .i64 len) := by
  rw [c5P, c3A hG hj]; rfl
/-- An entry. -/
theorem a6a {j k : Nat} (hj : j < n) (hk : k < c) (oc' : Option Nat) (ki : IntKind) : idxV (hap (hM G β n w c oc π S) L) w (.mu (β + 1 + j) 0 c oc') (.int ki k) = some (.loc (β + 1 + j) k 0) := by
  rw [b4H _ _ _ _ _ _ _ _ (by omega) (by omega), c3A hG hj]; simp
theorem E_at {j k : Nat} (hj : j < n) (hk : k < c) : atV (hap (hM G β n w c oc π S) L) (.loc (β + 1 + j) k 0) = some (S j k).cells := by
  rw [a9u, c3A hG hj]
  simp only [Option.bind_some, b7O]
  rw [if_pos hk, e1T hk]; rfl
theorem E_st {j k : Nat} (hj : j < n) (hk : k < c) {v : AV} (hf : v.fit = true) (hw : v.cells.length = w) (env : Env) : a1L w (.loc (β + 1 + j) k 0) v env (hap (hM G β n w c oc π S) L) = some (.top, env, hap (hM G β n w c oc π (upd2 S j k v)) L) := by
  simp only [a1L, c3A hG hj, Option.bind_some, b7O]
  rw [if_pos ⟨hk, hf, hw, by omega⟩]
  rw [a2o, d7v]
  unfold hM
  rw [e8y hG hj]
  refine congrArg (fun x => some (AV.top, env, hap x L)) (a9h rfl fun t ht => ?_)
  split
  · rename_i e; subst e
    congr 2; exact a2L fun a _ => by simp [upd2]
  · rename_i e
    congr 2; exact a2L fun a _ => by simp [upd2, e]
/-- A row put at another place. -/
theorem M_st {i j : Nat} (hi : i < n) (env : Env) : a1L 1 (.loc β i 0) (.mu (β + 1 + j) 0 c oc) env (hap (hM G β n w c oc π S) L) = some (.top, env, hap (hM G β n w c oc (fun t => if t = i then j else π t) S) L) := by
  simp only [a1L, b1d hG, Option.bind_some, orow, b7O]
  rw [if_pos ⟨hi, rfl, rfl, by omega⟩, a2o, d7v]
  unfold hM
  rw [e0m hG]
  refine congrArg (fun x => some (AV.top, env, hap x L)) (a9h (a2L fun t _ => ?_) fun _ _ => rfl)
  by_cases e : t = i <;> simp [e]
end
theorem Safe.dropG {x : Cx} {todo : List AItem} {env : Env} {H L : Heap} {R : AV → Heap → Prop} {o : Option Blk} (hH : a0F H) (hx : x.n0 ≤ H.length) (he : env.all (fun p => nref (lid H L.length) p.2) = true)
    (hL : ∀ b, some b ∈ L → ∀ a ∈ b.flat, nref (lid H L.length) a = true) (h : Safe x todo env (hap H L) R) : Safe x todo env (hap H (L ++ [o])) R := by
  intro φ w tmps b k cs hg hn hb hk htd hsz hok hrep
  have hlen : (hap H (L ++ [o])).length = lid H L.length + 1 := by simp [hap, lid, Nat.add_assoc]
  have lt : ∀ {a}, Ref (· < (hap H (L ++ [o])).length) a → Ref (· ≠ lid H L.length) a → Ref (· < lid H L.length) a := fun h1 h2 => (h1.both h2).mono fun i ⟨q1, q2⟩ => by rw [hlen] at q1; show i < _; omega
  have htake : (hap H (L ++ [o])).take (lid H L.length) = hap H L := by
    simp only [hap, lid, ← List.append_assoc]
    rw [show H.length + L.length = (H ++ L).length by simp, List.take_left']
    rfl
  have hcut := HOk.cut (E := ⟨φ, hap H (L ++ [o]), w⟩) hok (lid H L.length) (by
    intro j bj hj hbj a ha
    refine lt (hok.refs hbj a ha) ?_
    simp only [hap] at hbj
    rcases Nat.lt_or_ge j H.length with hlt | hge
    · rw [List.getElem?_append_left hlt] at hbj
      exact (hH j bj hbj a ha).mono fun i hi => by show i ≠ H.length + L.length; have : i < H.length := hi; omega
    · rw [List.getElem?_append_right hge] at hbj
      have hj2 : j - H.length < L.length := by simp only [lid] at hj; omega
      rw [List.getElem?_append_left hj2] at hbj
      exact a0B.1 (hL bj (List.mem_of_getElem? hbj) a ha))
  simp only [htake] at hcut
  obtain ⟨v, w', fr, r, φ', H', q1, q2, q3, q4, q5, q6⟩ := h φ w tmps b k cs hg (by simp [hap]; omega) hb hk htd hsz hcut.1 (fun t => (hrep t).mono hcut.2 (lt (hrep t).ref (d3s he t)))
  exact ⟨v, w', fr, r, φ', H', q1, q2, q3, q4, (hcut.2.sub fun i hi => by show i < H.length + L.length; have : i < x.n0 := hi; omega).trans q5, q6⟩
theorem Safe.freezeB {x : Cx} {todo : List AItem} {env : Env} {H : Heap} {R : AV → Heap → Prop} (i : Nat) {L : Heap} {b : Blk} (hH : a0F H) (hx : x.n0 ≤ H.length) (hl : L[i]? = some (some b)) (hcl : ∀ c ∈ b.flat, Cl c)
    (h : Safe x todo (frzE (lid H i) b env) (hap H ((frzL (lid H i) b L).set i none)) R) (hpos : 0 < b.wd := by exact Nat.zero_lt_succ _) : Safe x todo env (hap H L) R := by
  refine Safe.freezeG (id := lid H i) (b := b) (Nat.le_trans hx (a1q H i)) ?_ hcl ?_ hpos
  · unfold hap lid
    rw [List.getElem?_append_right (by omega), Nat.add_sub_cancel_left]; exact hl
  · rw [b1S hH]; exact h
/-- Behind a row of old. -/
theorem e2G {G L : Heap} {n0 wd bytes id len : Nat} {xs ys : List AV} {y : AV} {env : Env} (hl : G[id]? = some (some ⟨wd, xs⟩)) (hn : n0 ≤ id) (hlen : len = xs.length) (hy : a0S (hap G L) wd false y = some ys) (hyl : 0 < ys.length)
    (hfree : Free (hap G L) id) (hys : ∀ a ∈ ys.flatMap AV.cells, Ref (· ≠ id) a) (hxs : ∀ a ∈ xs.flatMap AV.cells, Ref (· ≠ id) a) (hb : (len + ys.length) * bytes ≤ 140737488355328) (h63 : len + ys.length ≤ 9223372036854775807) :
    appV n0 wd bytes false (.mu id 0 len none) y env (hap G L) = some (.mu id 0 (len + ys.length) none, scrub id env, hap (G.set id (some ⟨wd, xs ++ ys⟩)) L) := by
  have hid := a0h hl
  have hr : hrow (hap G L) id = some ⟨wd, xs⟩ := by rw [a6B _ _ _ hid]; simp [hrow, hl]
  simp only [appV, hy, Option.bind_some, hr, Option.any_none]
  rw [if_neg (by simp), if_pos ⟨trivial, trivial, by omega, hn, d0N.2 hfree, List.all_eq_true.2 fun a ha => a0B.2 (hys a ha), List.all_eq_true.2 fun a ha => a0B.2 (hxs a ha), hb, h63⟩]
  subst hlen
  rw [List.take_length, b8M _ _ _ _ hid]
  rfl
/-- A matrix as it comes out of a function: the outer row, the inner ones behind it. -/
def a0R (β n w c : Nat) (oc : Option Nat) (S : Nat → Nat → AV) : Heap := some ⟨1, orow β n c oc fun i => i⟩ :: (List.range n).map fun j => some ⟨w, fr c (S j)⟩
theorem a3u (β n w c : Nat) (oc : Option Nat) (S : Nat → Nat → AV) : (a0R β n w c oc S).length = n + 1 := by simp [a0R]
theorem c5x {β n w c : Nat} {oc : Option Nat} {S : Nat → Nat → AV} {j : Nat} (h : j < n) : (a0R β n w c oc S)[j + 1]? = some (some ⟨w, fr c (S j)⟩) := by simp [a0R, h]
theorem d6a (H X : Heap) (n w c : Nat) (oc : Option Nat) (S : Nat → Nat → AV) : hM (hap H (X ++ a0R (lid H X.length) n w c oc S)) (lid H X.length) n w c oc (fun i => i) S = hap H (X ++ a0R (lid H X.length) n w c oc S) := by
  refine e1H ?_ fun j hj => ?_
  · simp only [hap, lid, ← List.append_assoc]
    rw [List.getElem?_append_right (by simp)]
    simp [a0R, lid]
  · simp only [hap, lid, ← List.append_assoc]
    rw [List.getElem?_append_right (by simp; omega)]
    have : H.length + X.length + 1 + j - (H ++ X).length = j + 1 := by simp; omega
    rw [this]; exact c5x hj
theorem d0v (H X : Heap) (n w c : Nat) (oc : Option Nat) (S : Nat → Nat → AV) : lid H X.length + n < (hap H (X ++ a0R (lid H X.length) n w c oc S)).length := by
  simp [hap, lid, a3u]; omega
/-- One row more. -/
theorem c8M (H : Heap) (n w c : Nat) (oc : Option Nat) (S : Nat → Nat → AV) :
    hap ((hap H (a0R (lid H 0) n w c oc S)).set (lid H 0) (some ⟨1, orow (lid H 0) n c oc (fun i => i) ++ [.mu (lid (hap H (a0R (lid H 0) n w c oc S)) 0) 0 c oc]⟩)) [some ⟨w, fr c (S n)⟩] = hap H (a0R (lid H 0) (n + 1) w c oc S) := by
  have e : lid (hap H (a0R (lid H 0) n w c oc S)) 0 = lid H 0 + 1 + n := by simp [hap, lid, a3u]; omega
  have e2 : orow (lid H 0) n c oc (fun i => i) ++ [.mu (lid H 0 + 1 + n) 0 c oc] = orow (lid H 0) (n + 1) c oc fun i => i := by
    unfold orow; rw [e7h]
  rw [e, e2]
  simp only [hap, lid, Nat.add_zero]
  rw [List.set_append_right _ _ (Nat.le_refl _), Nat.sub_self]
  simp only [a0R, List.set_cons_zero, List.append_assoc, List.cons_append]
  congr 2
  rw [List.range_succ, List.map_append]; rfl
theorem b7f {β n c : Nat} {oc : Option Nat} {π : Nat → Nat} {P : Nat → Prop} (h : ∀ i, i < n → P (β + 1 + π i)) : ∀ a ∈ (Blk.mk 1 (orow β n c oc π)).flat, Ref P a := by
  intro a ha
  obtain ⟨y, hy, hya⟩ := List.mem_flatMap.1 ha
  obtain ⟨i, hi, rfl⟩ := d7w hy
  simp [AV.cells] at hya
  subst hya
  exact .mu _ _ _ _ (h i hi)
theorem a4d {w c : Nat} {f : Nat → AV} (h : ∀ k, k < c → Cl (f k)) : ∀ a ∈ (Blk.mk w (fr c f)).flat, Cl a := by
  intro a ha
  obtain ⟨y, hy, hya⟩ := List.mem_flatMap.1 ha
  obtain ⟨k, hk, rfl⟩ := d7w hy
  exact e4Q (h k hk) a hya
theorem a5r {H X : Heap} (hH : a0F H) (hX : ∀ b, some b ∈ X → ∀ a ∈ b.flat, Cl a) {n w c : Nat} {oc : Option Nat} {S : Nat → Nat → AV} (hS : ∀ j k, j < n → k < c → Cl (S j k)) : a0F (hap H (X ++ a0R (lid H X.length) n w c oc S)) := by
  have hlen : (hap H (X ++ a0R (lid H X.length) n w c oc S)).length = lid H X.length + 1 + n := by simp [hap, lid, a3u]; omega
  intro id b hb a ha
  rw [hlen]
  simp only [hap] at hb
  rcases Nat.lt_or_ge id H.length with h1 | h1
  · rw [List.getElem?_append_left h1] at hb
    exact (hH id b hb a ha).mono fun i hi => by have : i < H.length := hi; show i < _; unfold lid; omega
  · rw [List.getElem?_append_right h1] at hb
    rcases Nat.lt_or_ge (id - H.length) X.length with h2 | h2
    · rw [List.getElem?_append_left h2] at hb
      exact (hX b (List.mem_of_getElem? hb) a ha).ref
    · rw [List.getElem?_append_right h2] at hb
      generalize id - H.length - X.length = j at hb
      cases j with
      | zero =>
        simp [a0R] at hb; subst hb
        exact b7f (fun i hi => by show _ < _; omega) a ha
      | succ j =>
        have hj := a0e hb
        rw [a3u] at hj
        rw [c5x (by omega)] at hb
        cases hb
        exact (a4d (fun k hk => hS j k (by omega) hk) a ha).ref
theorem c6a {G : Heap} {β n w c : Nat} {oc : Option Nat} {π π' : Nat → Nat} {S S' : Nat → Nat → AV} (hG : β + n < G.length) (h : a0F (hM G β n w c oc π S)) (hπ : ∀ i, i < n → π' i < n) (hS : ∀ j k, j < n → k < c → Cl (S' j k)) : a0F (hM G β n w c oc π' S') := by
  intro id b hb a ha
  rw [a7K]
  have hid := a0h hb
  rw [a7K] at hid
  unfold hM at hb
  rw [a1R _ _ _ _ _ _ hid] at hb
  split at hb
  · cases hb
    exact b7f (fun i hi => by show _ < _; have := hπ i hi; omega) a ha
  · split at hb
    · cases hb
      exact (a4d (fun k hk => hS _ k (by omega) hk) a ha).ref
    · rename_i h1 h2
      have := h id b (by unfold hM; rw [a1R _ _ _ _ _ _ hid, if_neg h1, if_neg h2]; exact hb) a ha
      rwa [a7K] at this
theorem e9b (G L : Heap) (β n : Nat) (O : List AV) (R : Nat → Option Blk) (hG : β + n < G.length) : hap (hm G β n O R) L = hm (hap G L) β n O R := by
  apply List.ext_getElem?
  intro j
  have hl : (hap G L).length = G.length + L.length := by simp [hap]
  rcases Nat.lt_or_ge j (G.length + L.length) with hj | hj
  · rw [a1R _ _ _ _ _ _ (by omega)]
    unfold hap
    rcases Nat.lt_or_ge j G.length with h1 | h1
    · rw [List.getElem?_append_left (by rw [a1N]; exact h1), a1R _ _ _ _ _ _ h1, List.getElem?_append_left h1]
    · rw [List.getElem?_append_right (by rw [a1N]; exact h1), List.getElem?_append_right h1, if_neg (by omega), if_neg (by omega), a1N]
  · rw [List.getElem?_eq_none (by simp [hap, a1N]; omega), List.getElem?_eq_none (by rw [a1N]; omega)]
theorem e1J (G L : Heap) (β n w c : Nat) (oc : Option Nat) (π : Nat → Nat) (S : Nat → Nat → AV) (hG : β + n < G.length) : hap (hM G β n w c oc π S) L = hM (hap G L) β n w c oc π S := e9b G L β n _ _ hG
/-- No row beside names the outer one. -/
theorem c8N {H X : Heap} (hH : a0F H) (hX : ∀ b, some b ∈ X → ∀ a ∈ b.flat, Cl a) {n w c : Nat} {oc : Option Nat} {S : Nat → Nat → AV} (hS : ∀ j k, j < n → k < c → Cl (S j k)) : Free (hap H (X ++ a0R (lid H X.length) n w c oc S)) (lid H X.length) := by
  intro id b hne hb a ha
  simp only [hap] at hb
  rcases Nat.lt_or_ge id H.length with h1 | h1
  · rw [List.getElem?_append_left h1] at hb
    exact (hH id b hb a ha).mono fun i hi => by have : i < H.length := hi; show i ≠ _; unfold lid; omega
  · rw [List.getElem?_append_right h1] at hb
    rcases Nat.lt_or_ge (id - H.length) X.length with h2 | h2
    · rw [List.getElem?_append_left h2] at hb
      exact (hX b (List.mem_of_getElem? hb) a ha).ref
    · rw [List.getElem?_append_right h2] at hb
      generalize hj0 : id - H.length - X.length = j at hb
      cases j with
      | zero => exact absurd (show id = lid H X.length by unfold lid; omega) hne
      | succ j =>
        have hj := a0e hb
        rw [a3u] at hj
        rw [c5x (by omega)] at hb
        cases hb
        exact (a4d (fun k hk => hS j k (by omega) hk) a ha).ref
theorem d7u {G L : Heap} {id : Nat} (hG : Free G id) (hL : ∀ b, some b ∈ L → ∀ a ∈ b.flat, Ref (· ≠ id) a) : Free (hap G L) id := by
  intro j b hne hb a ha
  simp only [hap] at hb
  rcases Nat.lt_or_ge j G.length with h1 | h1
  · rw [List.getElem?_append_left h1] at hb; exact hG j b hne hb a ha
  · rw [List.getElem?_append_right h1] at hb; exact hL b (List.mem_of_getElem? hb) a ha
theorem a0L {G L : Heap} {β n w c : Nat} {oc : Option Nat} {π : Nat → Nat} {S : Nat → Nat → AV} (m i off : Nat) (v : AV) (env : Env) : a1L m (.loc (lid G i) 0 off) v env (hap (hM G β n w c oc π S) L) = (L[i]?).join.bind fun b =>
    if 0 < b.xs.length ∧ v.fit = true ∧ v.cells.length = m ∧ off + m ≤ b.wd then some (.top, env, hap (hM G β n w c oc π S) (L.set i (some ⟨b.wd, b.xs.set 0 (upd (b.xs.getD 0 .top) b.wd off m v)⟩))) else none := by
  simp only [a1L, a0y, a0J]
theorem e9Z {G L : Heap} {β n w c : Nat} {oc : Option Nat} {π : Nat → Nat} {S : Nat → Nat → AV} (hG : β + n < G.length) {r m : Nat} (hr : r ≤ m) (k : IntKind) : slcV (hap (hM G β n w c oc π S) L) 1 (.mu β 0 m none) none (some (.int k r)) none = some (.mu β 0 r none) := by
  simp only [slcV, b1d hG, Option.bind_some, a3C]
  rw [if_pos ⟨trivial, by omega, by omega, by omega⟩]
  simp
theorem Safe.dropM {G : Heap} {β n w c : Nat} {oc : Option Nat} {π : Nat → Nat} {S : Nat → Nat → AV} {x : Cx} {todo : List AItem} {env : Env} {R : AV → Heap → Prop} (L : Heap) {o : Option Blk} (hH : a0F (hM G β n w c oc π S)) (hx : x.n0 ≤ G.length)
    (he : env.all (fun p => nref (lid G L.length) p.2) = true) (hL : ∀ b, some b ∈ L → ∀ a ∈ b.flat, Cl a) (h : Safe x todo env (hap (hM G β n w c oc π S) L) R) : Safe x todo env (hap (hM G β n w c oc π S) (L ++ [o])) R :=
  Safe.dropG hH (by rw [a7K]; exact hx) (by rw [a1B]; exact he) (fun b hb a ha => a1z (hL b hb a ha)) h
theorem Safe.freezeM {G : Heap} {β n w c : Nat} {oc : Option Nat} {π : Nat → Nat} {S : Nat → Nat → AV} {x : Cx} {todo : List AItem} {env : Env} {R : AV → Heap → Prop} (i : Nat) {L : Heap} {b : Blk} (hH : a0F (hM G β n w c oc π S)) (hx : x.n0 ≤ G.length) (hl : L[i]? = some (some b)) (hcl : ∀ c ∈ b.flat, Cl c)
    (h : Safe x todo (frzE (lid G i) b env) (hap (hM G β n w c oc π S) ((frzL (lid G i) b L).set i none)) R) (hpos : 0 < b.wd := by exact Nat.zero_lt_succ _) : Safe x todo env (hap (hM G β n w c oc π S) L) R :=
  Safe.freezeB i hH (by rw [a7K]; exact hx) hl hcl (by rw [a1B]; exact h) hpos
theorem d6D : Cl (.agg [.bool false, .nil, .bool false, .nil]) := .agg _ fun c hc => by
  simp only [List.mem_cons, List.not_mem_nil, or_false] at hc
  rcases hc with rfl | rfl | rfl | rfl
  · exact .bool _
  · exact .nil
  · exact .bool _
  · exact .nil
theorem b1Q (H L M : Heap) : hap (hap H L) M = hap H (L ++ M) := by simp [hap]
theorem d7l {G L : Heap} {β n id : Nat} {O : List AV} {R : Nat → Option Blk} (hG : β + n < G.length) (hid : id < β) : hrow (hap (hm G β n O R) L) id = hrow G id := by
  rw [a6B _ _ _ (by rw [a1N]; omega)]
  simp only [hrow]
  rw [a1R _ _ _ _ _ _ (by omega), if_neg (by omega), if_neg (by omega)]
theorem e0n {G L : Heap} {β n id : Nat} {O : List AV} {R : Nat → Option Blk} (hG : β + n < G.length) (hid : id < β) (b : Option Blk) : (hap (hm G β n O R) L).set id b = hap (hm (G.set id b) β n O R) L := by
  rw [b8M _ _ _ _ (by rw [a1N]; omega)]
  congr 1
  apply List.ext_getElem?
  intro j
  rcases Nat.lt_or_ge j G.length with hj | hj
  · rw [List.getElem?_set, a1R _ _ _ _ _ _ hj, a1R _ _ _ _ _ _ (by rw [List.length_set]; exact hj), a1N, List.getElem?_set]
    by_cases h : id = j
    · subst h
      rw [if_pos rfl, if_pos (by omega), if_neg (by omega), if_neg (by omega), if_pos rfl]
    · rw [if_neg h, if_neg h]
  · rw [List.getElem?_eq_none (by rw [List.length_set, a1N]; exact hj), List.getElem?_eq_none (by rw [a1N, List.length_set]; exact hj)]
theorem e8r {G L : Heap} {β n w c id m : Nat} {oc : Option Nat} {π : Nat → Nat} {S : Nat → Nat → AV} (hG : β + n < G.length) (hid : id < β) {x v : AV} (h : G[id]? = some (some ⟨m, [x]⟩)) (hf : v.fit = true) (hv : v.cells.length = m) (env : Env) :
    a1L m (.loc id 0 0) v env (hap (hM G β n w c oc π S) L) = some (.top, env, hap (hM (G.set id (some ⟨m, [v]⟩)) β n w c oc π S) L) := by
  have hr : hrow (hap (hM G β n w c oc π S) L) id = some ⟨m, [x]⟩ := by unfold hM; rw [d7l hG hid]; simp [hrow, h]
  simp only [a1L, hr, Option.bind_some]
  rw [if_pos ⟨by simp, hf, hv, by omega⟩, a2o, List.set_cons_zero]
  unfold hM
  rw [e0n hG hid]
theorem e9x {G L : Heap} {β n w c id m : Nat} {oc : Option Nat} {π : Nat → Nat} {S : Nat → Nat → AV} (hG : β + n < G.length) (hid : id < β) {x : AV} (h : G[id]? = some (some ⟨m, [x]⟩)) : atV (hap (hM G β n w c oc π S) L) (.loc id 0 0) = some x.cells := by
  have hr : hrow (hap (hM G β n w c oc π S) L) id = some ⟨m, [x]⟩ := by unfold hM; rw [d7l hG hid]; simp [hrow, h]
  rw [a9u, hr]; rfl
end Go.Abs
namespace Go.Abs
theorem HOk.hrefs {φ : Nat → Option Nat} {H : Heap} {w : World} (h : HOk ⟨φ, H, w⟩) : a0F H := fun id b hb a ha => h.refs (E := ⟨φ, H, w⟩) hb a ha
/-- A row of what is handed out is no longer written. -/
theorem a0k.frz {P : Program} {f : FuncId} {args : List AV} {H : Heap} {R R2 : AV → Heap → Prop} (h : a0k P f args H R)
    (hR : a0F H → ∀ r H', R r H' → ∃ id b, H'[id]? = some (some b) ∧ (0 < b.wd ∧ ∀ c ∈ b.flat, Cl c) ∧ R2 (Abs.frz id b r) (frzH id b H')) : a0k P f args H R2 := by
  refine ⟨h.1, fun φ w vs hok hl hrep => (h.2 φ w vs hok hl hrep).mono ?_⟩
  rintro e w' ⟨v, r, φ', H', rfl, hr, q1, q2, q3, q4⟩
  obtain ⟨id, b, h1, ⟨h0, h2⟩, h3⟩ := hR hok.hrefs r H' hr
  exact ⟨v, _, φ', _, rfl, h3, d7s q1 h0 h1 h2, c6g q1 h0 h1 h2 q2, by simpa [frzH] using q3, q4.trans ((c6h (E := ⟨φ', H', w'⟩)).sub fun _ _ => trivial)⟩
theorem e4A {P : Nat → Prop} {id : Nat} {b : Blk} {a : AV} (h : Ref P a) : Ref P (frz id b a) := by
  induction h with
  | top => simp only [frz]; exact .top
  | int k n => simp only [frz]; exact .int k n
  | bool b' => simp only [frz]; exact .bool b'
  | str s => simp only [frz]; exact .str s
  | nil => simp only [frz]; exact .nil
  | lit v => simp only [frz]; exact .lit v
  | sl wd xs => simp only [frz]; exact .sl wd xs
  | ro x off => simp only [frz]; exact .ro x off
  | mu i off len oc h =>
    simp only [frz]; split
    · split
      · exact .sl _ _
      · exact .top
    · exact .mu i off len oc h
  | loc i k off h =>
    simp only [frz]; split
    · split
      · exact .ro _ _
      · exact .top
    · exact .loc i k off h
  | mp k i h =>
    simp only [frz]; split
    · exact .top
    · exact .mp k i h
  | mo l => simp only [frz]; exact .mo l
  | io i n seen => simp only [frz]; exact .io i n seen
  | agg cs h ih => simp only [frz]; exact .agg _ fun c hc => by obtain ⟨d, hd, rfl⟩ := List.mem_map.1 hc; exact ih d hd
  | tup cs h ih => simp only [frz]; exact .tup _ fun c hc => by obtain ⟨d, hd, rfl⟩ := List.mem_map.1 hc; exact ih d hd
  | fn f cs h ih => simp only [frz]; exact .fn f _ fun c hc => by obtain ⟨d, hd, rfl⟩ := List.mem_map.1 hc; exact ih d hd
  | bfn f cs h ih => simp only [frz]; exact .bfn f _ fun c hc => by obtain ⟨d, hd, rfl⟩ := List.mem_map.1 hc; exact ih d hd
theorem d3N {H : Heap} (h : a0F H) (id : Nat) (b : Blk) : a0F (frzH id b H) := by
  intro j x hx a ha
  obtain ⟨_, y, hy, rfl⟩ := a2y hx
  rw [b7N] at ha
  obtain ⟨c, hc, rfl⟩ := List.mem_map.1 ha
  have := e4A (id := id) (b := b) (h j y hy c hc)
  simpa [frzH] using this
theorem e1R {G : Heap} {β n m : Nat} {O : List AV} {R : Nat → Option Blk} (hG : β + n < G.length) (hm' : m < n) (b : Blk) : frzH (β + 1 + m) b (hm G β n O R) = hm (frzH (β + 1 + m) b G) β n (O.map (frz (β + 1 + m) b)) (fun t => if t = m then none else (R t).map (frzB (β + 1 + m) b)) := by
  apply List.ext_getElem?
  intro j
  have hl : (frzH (β + 1 + m) b G).length = G.length := by simp [frzH]
  rcases Nat.lt_or_ge j G.length with hj | hj
  · rw [d0M, a1R G _ _ _ _ j hj, a1R (frzH (β + 1 + m) b G) _ _ _ _ j (by omega), a1N, d0M]
    by_cases h1 : j = β
    · rw [if_neg (by omega), if_pos h1, if_pos h1]; rfl
    · rw [if_neg h1, if_neg h1]
      by_cases h2 : β < j ∧ j ≤ β + n
      · rw [if_pos h2, if_pos h2]
        by_cases h3 : j = β + 1 + m
        · rw [if_pos h3, if_pos (by omega), if_pos (by omega)]
        · rw [if_neg h3, if_neg (by omega)]; rfl
      · rw [if_neg h2, if_neg h2, if_neg (by omega)]
  · rw [List.getElem?_eq_none (by simp [frzH, a1N]; exact hj), List.getElem?_eq_none (by rw [a1N, hl]; exact hj)]
end Go.Abs
namespace Go.Abs
section
variable (n0 : Nat) (env : Env) (H L : Heap)
theorem e4K : ev n0 .mkmap env H = some (.mp true H.length, env, H ++ [some ⟨0, [.mo []]⟩]) := rfl
def e3Z (m k v : AV) (env : Env) (H : Heap) : Option (AV × Env × Heap) := match m, k, v with
    | .mp true id, .int .i64 x, .int .i64 y => (a5G H (.mp true id)).bind fun L =>
        if mget L x = none then some (.top, env, H.set id (some ⟨0, [.mo (L ++ [(x, y)])]⟩)) else none
    | _, _, _ => none
theorem e7q (m k v : Src) : ev n0 (.mset m k v) env H = e3Z (m.ev env) (k.ev env) (v.ev env) env H := rfl
def e6P (m : AV) (env : Env) (H : Heap) : Option (AV × Env × Heap) := match m with
    | .mp true id => (a5G H (.mp true id)).bind fun L => some (.mp false H.length, env, H ++ [some ⟨0, [.io id L.length []]⟩])
    | _ => none
theorem e7r (m : Src) : ev n0 (.mrng m) env H = e6P (m.ev env) env H := rfl
def e0Z (H : Heap) (m k : AV) : Option AV := match a5G H m, k with
    | some L, .int .i64 x => some (.tup [.int .i64 ((mget L x).getD 0), .bool (mget L x).isSome])
    | _, _ => none
theorem e3x (m k : Src) : pv (.mlook m k) env H = e0Z H (m.ev env) (k.ev env) := rfl
def e6Q (H : Heap) (a : AV) : Option AV := match b0c H a with
    | some (mid, n, seen) => match a5G H (.mp true mid), seen.getLast? with
      | some L, some i => if L.length = n then (L[i]?).map fun p => .tup [.int .i64 p.1, .int .i64 p.2] else none
      | _, _ => none
    | none => none
theorem e6x (a : Src) : pv (.ment a) env H = e6Q H (a.ev env) := rfl
theorem e2F (P : Program) (a : Src) (d : Option Nat) (K : Env → Heap → Prop) : a5m P n0 (.nxt a) d K env H = d8G (a.ev env) H (ares K d env) := rfl
variable {H L}
theorem b0Z {i : Nat} {l : List (Int × Int)} (hl : L[i]? = some (some ⟨0, [.mo l]⟩)) : a5G (hap H L) (.mp true (lid H i)) = some l := by
  simp [a5G, a1k, hl]
theorem c8V {i m n : Nat} {seen : List Nat} (hl : L[i]? = some (some ⟨0, [.io m n seen]⟩)) : b0c (hap H L) (.mp false (lid H i)) = some (m, n, seen) := by
  simp [b0c, a1k, hl]
theorem e3Y {i : Nat} {l : List (Int × Int)} (hl : L[i]? = some (some ⟨0, [.mo l]⟩)) {x y : Int} (hx : mget l x = none) :
    e3Z (.mp true (lid H i)) (.int .i64 x) (.int .i64 y) env (hap H L) = some (.top, env, hap H (L.set i (some ⟨0, [.mo (l ++ [(x, y)])]⟩))) := by
  simp only [e3Z, b0Z hl, Option.bind_some, a3L]
  rw [if_pos hx]
theorem e4a {i : Nat} {l : List (Int × Int)} (hl : L[i]? = some (some ⟨0, [.mo l]⟩)) :
    e6P (.mp true (lid H i)) env (hap H L) = some (.mp false (lid H L.length), env, hap H (L ++ [some ⟨0, [.io (lid H i) l.length []]⟩])) := by
  simp only [e6P, b0Z hl, Option.bind_some, b9p, b9J]
theorem e0Y {i : Nat} {l : List (Int × Int)} (hl : L[i]? = some (some ⟨0, [.mo l]⟩)) (x : Int) :
    e0Z (hap H L) (.mp true (lid H i)) (.int .i64 x) = some (.tup [.int .i64 ((mget l x).getD 0), .bool (mget l x).isSome]) := by
  simp only [e0Z, b0Z hl]
theorem e4d {i mi : Nat} {l : List (Int × Int)} {seen : List Nat} {j : Nat} {p : Int × Int} (hl : L[i]? = some (some ⟨0, [.io (lid H mi) l.length (seen ++ [j])]⟩)) (hm : L[mi]? = some (some ⟨0, [.mo l]⟩)) (hp : l[j]? = some p) :
    e6Q (hap H L) (.mp false (lid H i)) = some (.tup [.int .i64 p.1, .int .i64 p.2]) := by
  simp [e6Q, c8V hl, b0Z hm, hp]
theorem e3U {i mi : Nat} {l : List (Int × Int)} {seen : List Nat} (hl : L[i]? = some (some ⟨0, [.io (lid H mi) l.length seen]⟩)) (hm : L[mi]? = some (some ⟨0, [.mo l]⟩)) {K : AV → Heap → Prop}
    (h1 : ∀ j p, j ∉ seen → l[j]? = some p → K (.tup [.bool true, .int .i64 p.1, .int .i64 p.2]) (hap H (L.set i (some ⟨0, [.io (lid H mi) l.length (seen ++ [j])]⟩))))
    (h2 : (∀ j, j < l.length → j ∈ seen) → K (.tup [.bool false]) (hap H L)) : d8G (.mp false (lid H i)) (hap H L) K := by
  simp only [d8G, c8V hl, b0Z hm, a3L]
  exact ⟨trivial, h1, h2⟩
end
theorem a3t (H : Heap) (i j : Nat) (k : Bool) (h : j ≠ i) : nref (lid H i) (.mp k (lid H j)) = true :=
  a0B.2 (.mp _ _ (by simp only [lid]; omega))
theorem d3Q (H : Heap) (i j : Nat) (b : Blk) (k : Bool) (h : j ≠ i) : frz (lid H i) b (.mp k (lid H j)) = .mp k (lid H j) := by
  have : lid H j ≠ lid H i := by simp only [lid]; omega
  simp [frz, this]
theorem e5L (id : Nat) (b : Blk) (l : List (Int × Int)) : frz id b (.mo l) = .mo l := by simp [frz]
theorem e9e (id : Nat) (b : Blk) (i n : Nat) (s : List Nat) : frz id b (.io i n s) = .io i n s := by simp [frz]
theorem d3p {l : List (Int × Int)} {x : Int} (h : ∀ p ∈ l, x ≠ p.1) : mget l x = none := by
  induction l with
  | nil => rfl
  | cons p l ih => simp only [mget, if_neg (h p (by simp))]; exact ih fun q hq => h q (by simp [hq])
theorem e1b {l : List (Int × Int)} {x : Int} (h : ∃ p ∈ l, x = p.1) : (mget l x).isSome = true := by
  induction l with
  | nil => obtain ⟨p, hp, _⟩ := h; simp at hp
  | cons p l ih =>
    simp only [mget]
    split
    · rfl
    · rename_i hne
      refine ih ?_
      obtain ⟨q, hq, e⟩ := h
      rcases List.mem_cons.1 hq with rfl | hq
      · exact absurd e hne
      · exact ⟨q, hq, e⟩
/-- How many places were not met yet. -/
def d3w (r : Nat) (seen : List Nat) : Nat := ((List.range r).filter fun i => decide (i ∉ seen)).length
theorem b1O (r : Nat) (seen : List Nat) : d3w (r + 1) seen = d3w r seen + if r ∈ seen then 0 else 1 := by
  unfold d3w
  rw [List.range_succ, List.filter_append, List.length_append]
  by_cases h : r ∈ seen <;> simp [h]
theorem d7g (seen : List Nat) (j : Nat) : ∀ r, d3w r (seen ++ [j]) ≤ d3w r seen
  | 0 => Nat.le_refl _
  | r + 1 => by
    have ih := d7g seen j r
    rw [b1O, b1O]
    by_cases h : r ∈ seen
    · rw [if_pos h, if_pos (by simp [h])]; omega
    · rw [if_neg h]; split <;> omega
theorem d7f {seen : List Nat} {j : Nat} (h : j ∉ seen) : ∀ {r}, j < r → d3w r (seen ++ [j]) < d3w r seen
  | 0, hj => absurd hj (by omega)
  | r + 1, hj => by
    rw [b1O, b1O]
    by_cases e : j = r
    · subst e
      have := d7g seen j j
      rw [if_pos (by simp), if_neg h]; omega
    · have ih := d7f h (r := r) (by omega)
      by_cases h2 : r ∈ seen
      · rw [if_pos h2, if_pos (by simp [h2])]; omega
      · rw [if_neg h2]; split <;> omega
/-- A row handed to any function: it is a value from there on. -/
theorem a0k.consume {P : Program} {f : FuncId} {args : List AV} {H : Heap} {R : AV → Heap → Prop} {id : Nat} {b : Blk} (hpos : 0 < b.wd) (hl : H[id]? = some (some b)) (hcl : ∀ c ∈ b.flat, Cl c)
    (h0 : a0k P f (args.map (Abs.frz id b)) (frzH id b H) R) : a0k P f args H R := by
  refine ⟨h0.1, fun φ w vs hok hlen hrep => ?_⟩
  have hok' := d7s hok hpos hl hcl
  refine (h0.2 φ w vs hok' (by simpa using hlen) fun k v a hv ha => ?_).mono ?_
  · rw [List.getElem?_map, Option.map_eq_some_iff] at ha
    obtain ⟨a0, ha, rfl⟩ := ha
    exact c6g hok hpos hl hcl (hrep k v a0 hv ha)
  · rintro e w' ⟨v, r', φ', H', rfl, hr, q1, q2, q3, q4⟩
    have hlen2 : (frzH id b H).length = H.length := by simp [frzH]
    rw [hlen2] at q3 q4
    exact ⟨v, r', φ', H', rfl, hr, q1, q2, q3, (c6h.sub fun _ _ => trivial).trans q4⟩
theorem a0k.consumeL {P : Program} {f : FuncId} {args : List AV} {H L : Heap} {R : AV → Heap → Prop} (hH : a0F H) (i : Nat) {b : Blk} (hpos : 0 < b.wd) (hl : L[i]? = some (some b)) (hcl : ∀ c ∈ b.flat, Cl c)
    (h : a0k P f (args.map (Abs.frz (lid H i) b)) (hap H ((frzL (lid H i) b L).set i none)) R) : a0k P f args (hap H L) R := by
  have hl' : (hap H L)[lid H i]? = some (some b) := by
    unfold hap lid
    rw [List.getElem?_append_right (by omega), Nat.add_sub_cancel_left]; exact hl
  refine a0k.consume hpos hl' hcl ?_
  rw [b1S hH]; exact h
/-- What is handed in may be told by less. -/
theorem a0k.argsLe {P : Program} {f : FuncId} {args args' : List AV} {H : Heap} {R : AV → Heap → Prop} (hlen : args.length = args'.length) (hle : ∀ (k : Nat) a c, args[k]? = some a → args'[k]? = some c → Le a c)
    (h : a0k P f args' H R) : a0k P f args H R := by
  refine ⟨h.1, fun φ w vs hok hl hrep => h.2 φ w vs hok (hl.trans hlen) fun k v c hv hc => ?_⟩
  have hk : k < args.length := by rw [hlen]; exact a0e hc
  exact hle k _ c (List.getElem?_eq_getElem hk) hc _ _ (hrep k v _ hv (List.getElem?_eq_getElem hk))
/-- A row of nils, as a value. -/
theorem Le.nils (n wd : Nat) (hwd : 0 < wd) : Le (.sl 1 (List.replicate n .nil)) (.sl 1 (List.replicate n (.sl wd []))) := by
  have fl : ∀ (x : AV), x.cells = [x] → (List.replicate n x).flatMap AV.cells = List.replicate n x := by
    intro x hx
    induction n with
    | zero => rfl
    | succ n ih => rw [List.replicate_succ, List.flatMap_cons, hx, ih]; rfl
  have f1 := fl .nil rfl
  have f2 := fl (.sl wd []) rfl
  intro E v r
  generalize hx : List.replicate n AV.nil = xs at r
  have hlx : xs.length = n := by rw [← hx]; simp
  cases r with
  | sl base cap _ _ vs b o hcap hpos hw hcl hbase hlen hcell hrep =>
    have e1 : xs.length = (List.replicate n (AV.sl wd [])).length := by rw [hlx]; simp
    rw [e1] at hcap ⊢
    refine .sl base cap 1 _ vs b o hcap hpos (fun x hx2 => by rw [List.eq_of_mem_replicate hx2]; rfl) ?_ ?_ ?_ hcell ?_
    · rw [f2]; intro c hc; rw [List.eq_of_mem_replicate hc]; exact .sl wd [] (by simp)
    · rcases hbase with h | h
      · left; rw [h] at hlx; simp at hlx; subst hlx; rfl
      · exact .inr h
    · rw [hlen, ← hx, f1, f2]; simp
    · intro k u a hu ha
      rw [f2] at ha
      have hk : k < n := by have := a0e ha; simpa using this
      have : a = .sl wd [] := by rw [List.getElem?_replicate, if_pos hk] at ha; exact (Option.some.inj ha).symm
      rw [this]
      exact Le.nil wd hwd _ _ (hrep k u .nil hu (by rw [← hx, f1, List.getElem?_replicate, if_pos hk]))
  | dead v a id hr hd h1 => simp [AV.ref] at hr
end Go.Abs
namespace Go.Abs
abbrev LB : Nat := 4294967296
def val : List Nat → Nat
  | [] => 0
  | d :: l => d + LB * val l
def Lim (l : List Nat) : Prop := ∀ d ∈ l, d < LB
/-- The limbs of a number, no nought at the end. -/
def limbs (n : Nat) : List Nat := if h : n = 0 then [] else n % LB :: limbs (n / LB)
termination_by n
decreasing_by exact Nat.div_lt_self (by omega) (by decide)
theorem a0I : limbs 0 = [] := by rw [limbs]; simp
theorem a5H {n : Nat} (h : n ≠ 0) : limbs n = n % LB :: limbs (n / LB) := by rw [limbs]; simp [h]
theorem a0b (n : Nat) : val (limbs n) = n := by
  induction n using Nat.strongRecOn with
  | _ n ih =>
    by_cases h : n = 0
    · subst h; rw [a0I]; rfl
    · rw [a5H h, val, ih (n / LB) (Nat.div_lt_self (by omega) (by decide))]
      exact Nat.mod_add_div n LB
theorem a0c (n : Nat) : Lim (limbs n) := by
  induction n using Nat.strongRecOn with
  | _ n ih =>
    by_cases h : n = 0
    · subst h; rw [a0I]; intro d hd; simp at hd
    · rw [a5H h]
      intro d hd
      rcases List.mem_cons.1 hd with rfl | hd
      · exact Nat.mod_lt _ (by decide)
      · exact ih (n / LB) (Nat.div_lt_self (by omega) (by decide)) d hd
theorem b9m : Lim [] := fun d hd => by simp at hd
theorem d0A {d : Nat} {l : List Nat} : Lim (d :: l) ↔ d < LB ∧ Lim l := by
  constructor
  · intro h; exact ⟨h d (by simp), fun e he => h e (by simp [he])⟩
  · rintro ⟨h1, h2⟩ e he
    rcases List.mem_cons.1 he with rfl | he
    · exact h1
    · exact h2 e he
theorem b9o {a b : List Nat} : Lim (a ++ b) ↔ Lim a ∧ Lim b := by
  constructor
  · intro h; exact ⟨fun d hd => h d (by simp [hd]), fun d hd => h d (by simp [hd])⟩
  · rintro ⟨h1, h2⟩ d hd
    rcases List.mem_append.1 hd with hd | hd
    · exact h1 d hd
    · exact h2 d hd
theorem Lim.take {l : List Nat} (h : Lim l) (n : Nat) : Lim (l.take n) := fun d hd => h d (List.mem_of_mem_take hd)
theorem Lim.drop {l : List Nat} (h : Lim l) (n : Nat) : Lim (l.drop n) := fun d hd => h d (List.mem_of_mem_drop hd)
theorem a7o (a b : List Nat) : val (a ++ b) = val a + LB ^ a.length * val b := by
  induction a with
  | nil => simp [val]
  | cons d a ih =>
    simp only [List.cons_append, val, ih, List.length_cons]
    rw [Nat.mul_add, ← Nat.mul_assoc, ← Nat.pow_succ', Nat.add_assoc]
theorem a1e {l : List Nat} (h : Lim l) : val l < LB ^ l.length := by
  induction l with
  | nil => simp [val]
  | cons d l ih =>
    have h' := d0A.1 h
    have := ih h'.2
    simp only [val, List.length_cons, Nat.pow_succ']
    have h1 : LB * (val l + 1) ≤ LB * LB ^ l.length := Nat.mul_le_mul_left _ this
    rw [Nat.mul_add, Nat.mul_one] at h1
    have := h'.1
    omega
theorem b5h (n : Nat) : val (List.replicate n 0) = 0 := by
  induction n with
  | zero => rfl
  | succ n ih => simp [List.replicate_succ, val, ih]
/-- A row without a nought at its end is the limbs of its number. -/
theorem a7F : ∀ {l : List Nat}, Lim l → (l.getLast?).getD 1 ≠ 0 → limbs (val l) = l
  | [], _, _ => a0I
  | d :: l, h, hl => by
    obtain ⟨h1, h2⟩ := d0A.1 h
    have hl' : (l.getLast?).getD 1 ≠ 0 := by
      cases l with
      | nil => simp
      | cons e l => simpa [List.getLast?_cons_cons] using hl
    have hne : val (d :: l) ≠ 0 := by
      intro h0
      simp only [val] at h0
      have hd : d = 0 := by omega
      have hv : val l = 0 := by
        have : LB * val l = 0 := by omega
        rcases Nat.mul_eq_zero.1 this with h | h
        · exact absurd h (by decide)
        · exact h
      have := a7F h2 hl'
      rw [hv, a0I] at this
      subst this
      subst hd
      simp at hl
    rw [a5H hne]
    simp only [val]
    rw [Nat.add_mul_mod_self_left, Nat.mod_eq_of_lt h1, Nat.add_mul_div_left _ _ (by decide), Nat.div_eq_of_lt h1, Nat.zero_add, a7F h2 hl']
theorem a5s (n : Nat) : ((limbs n).getLast?).getD 1 ≠ 0 := by
  induction n using Nat.strongRecOn with
  | _ n ih =>
    by_cases h : n = 0
    · subst h; rw [a0I]; simp
    · rw [a5H h]
      have := ih (n / LB) (Nat.div_lt_self (by omega) (by decide))
      cases hq : limbs (n / LB) with
      | nil =>
        have h0 : n / LB = 0 := by
          have := a0b (n / LB)
          rw [hq] at this
          exact this.symm
        have : n % LB = n := Nat.mod_eq_of_lt (by
          rcases Nat.lt_or_ge n LB with h' | h'
          · exact h'
          · have := Nat.div_pos h' (by decide); omega)
        simp [this, h]
      | cons e l =>
        rw [hq] at this
        simpa [List.getLast?_cons_cons] using this
theorem a0j {n k : Nat} (h : n < LB ^ k) : (limbs n).length ≤ k := by
  induction k generalizing n with
  | zero =>
    have : n = 0 := by simpa using h
    subst this; rw [a0I]; simp
  | succ k ih =>
    by_cases h0 : n = 0
    · subst h0; rw [a0I]; simp
    · rw [a5H h0, List.length_cons]
      have : n / LB < LB ^ k := by
        rw [Nat.div_lt_iff_lt_mul (by decide)]
        rwa [Nat.pow_succ] at h
      have := ih this
      omega
theorem d3u {n : Nat} (h : limbs n ≠ []) : LB ^ ((limbs n).length - 1) ≤ n := by
  induction n using Nat.strongRecOn with
  | _ n ih =>
    by_cases h0 : n = 0
    · subst h0; rw [a0I] at h; simp at h
    · rw [a5H h0, List.length_cons, Nat.add_sub_cancel]
      by_cases hq : limbs (n / LB) = []
      · rw [hq]; simp; omega
      · have := ih (n / LB) (Nat.div_lt_self (by omega) (by decide)) hq
        have hl : 0 < (limbs (n / LB)).length := List.length_pos_iff.2 hq
        have h1 : LB ^ (limbs (n / LB)).length = LB ^ ((limbs (n / LB)).length - 1) * LB := by
          rw [← Nat.pow_succ]; congr 1; omega
        rw [h1]
        exact Nat.le_trans (Nat.mul_le_mul_right _ this) (Nat.div_mul_le_self n LB)
theorem d9U (l : List Nat) : val (l ++ [0]) = val l := by rw [a7o]; simp [val]
theorem a2F (l : List Nat) (d : Nat) : val (l ++ [d]) = val l + LB ^ l.length * d := by rw [a7o]; simp [val]
theorem c9m {l : List Nat} {i : Nat} (h : i < l.length) : val (l.take (i + 1)) = val (l.take i) + LB ^ i * l[i] := by
  rw [List.take_succ_eq_append_getElem h, a2F, List.length_take, Nat.min_eq_left (by omega)]
theorem a0O {l : List Nat} (h : Lim l) (i : Nat) : l.getD i 0 < LB := by
  rw [List.getD_eq_getElem?_getD]
  rcases Nat.lt_or_ge i l.length with hi | hi
  · rw [List.getElem?_eq_getElem hi, Option.getD_some]; exact h _ (List.getElem_mem hi)
  · rw [List.getElem?_eq_none hi]; decide
/-- Up to a place; behind the end nothing comes. -/
theorem a0i (l : List Nat) (i : Nat) : val (l.take (i + 1)) = val (l.take i) + LB ^ i * l.getD i 0 := by
  rcases Nat.lt_or_ge i l.length with h | h
  · rw [c9m h, List.getD_eq_getElem?_getD, List.getElem?_eq_getElem h, Option.getD_some]
  · rw [List.take_of_length_le (by omega), List.take_of_length_le h, List.getD_eq_getElem?_getD, List.getElem?_eq_none h]; simp
theorem a5e (i : Nat) : 0 < LB ^ i := Nat.pow_pos (by decide)
/-- Which of two is greater is told from the top. -/
theorem b5i {a b : List Nat} {i : Nat} (ha : Lim a) (hb : Lim b) (h : a.drop (i + 1) = b.drop (i + 1)) (hi : i < a.length) (hi' : i < b.length) (hl : a.length = b.length) (hlt : a.getD i 0 < b.getD i 0) : val a < val b := by
  have e1 : a = a.take (i + 1) ++ a.drop (i + 1) := (List.take_append_drop _ _).symm
  have e2 : b = b.take (i + 1) ++ b.drop (i + 1) := (List.take_append_drop _ _).symm
  rw [e1, e2, a7o, a7o, h, a0i, a0i]
  have l1 : (a.take (i + 1)).length = i + 1 := by rw [List.length_take]; omega
  have l2 : (b.take (i + 1)).length = i + 1 := by rw [List.length_take]; omega
  rw [l1, l2]
  have h1 := a1e (ha.take i)
  rw [List.length_take, Nat.min_eq_left (by omega)] at h1
  have h2 : LB ^ i * (a.getD i 0 + 1) ≤ LB ^ i * b.getD i 0 := Nat.mul_le_mul_left _ hlt
  rw [Nat.mul_add] at h2
  omega
def blen (n : Nat) : Nat := if n = 0 then 0 else Nat.log2 n + 1
theorem d4j : blen 0 = 0 := rfl
theorem d1i (n : Nat) : n < 2 ^ blen n := by
  unfold blen
  split
  · rename_i h; subst h; decide
  · exact Nat.lt_log2_self
theorem b9I {n : Nat} (h : n ≠ 0) : 2 ^ (blen n - 1) ≤ n := by
  unfold blen
  rw [if_neg h, Nat.add_sub_cancel]
  exact Nat.log2_self_le h
theorem e7K {n k : Nat} (h1 : n < 2 ^ k) (h2 : k = 0 ∨ 2 ^ (k - 1) ≤ n) : blen n = k := by
  by_cases h0 : n = 0
  · subst h0
    rcases h2 with h2 | h2
    · rw [h2]; rfl
    · have := Nat.pow_pos (n := k - 1) (show 0 < 2 by decide); omega
  · have a := d1i n
    have b := b9I h0
    have c : 0 < blen n := by unfold blen; rw [if_neg h0]; omega
    have d : blen n - 1 < k := (Nat.pow_lt_pow_iff_right (by decide)).1 (Nat.lt_of_le_of_lt b h1)
    have e : k - 1 < blen n := by
      rcases h2 with h2 | h2
      · omega
      · exact (Nat.pow_lt_pow_iff_right (by decide)).1 (Nat.lt_of_le_of_lt h2 a)
    omega
/-- The lowest k bits do not count where others stand above them. -/
theorem d7I {h k r : Nat} (hh : h ≠ 0) (hr : r < 2 ^ k) : blen (r + 2 ^ k * h) = k + blen h := by
  have a := d1i h
  have b := b9I hh
  have c : 0 < blen h := by unfold blen; rw [if_neg hh]; omega
  refine e7K ?_ (.inr ?_)
  · rw [Nat.pow_add]
    have : 2 ^ k * (h + 1) ≤ 2 ^ k * 2 ^ blen h := Nat.mul_le_mul_left _ a
    rw [Nat.mul_add] at this
    omega
  · rw [show k + blen h - 1 = k + (blen h - 1) by omega, Nat.pow_add]
    have : 2 ^ k * 2 ^ (blen h - 1) ≤ 2 ^ k * h := Nat.mul_le_mul_left _ b
    omega
theorem d1j {n k : Nat} (h : 2 ^ k ≤ n) : blen n = k + blen (n / 2 ^ k) := by
  have hp : 0 < 2 ^ k := Nat.pow_pos (by decide)
  have h0 : n / 2 ^ k ≠ 0 := by
    have := Nat.div_pos h hp; omega
  have := d7I (r := n % 2 ^ k) h0 (Nat.mod_lt _ hp)
  rwa [Nat.mod_add_div] at this
theorem e1q (i : Nat) : LB ^ i = 2 ^ (32 * i) := by rw [Nat.pow_mul]
theorem b9H {l : List Nat} {d : Nat} (hl : Lim l) (hd : d ≠ 0) : blen (val (l ++ [d])) = 32 * l.length + blen d := by
  rw [a2F, e1q]
  exact d7I hd (by rw [← e1q]; exact a1e hl)
theorem a0Y {l : List Nat} (h : Lim l) : (limbs (val l)).length ≤ l.length := a0j (a1e h)
/-- A row that may be handed round. -/
structure Nt (l : List Nat) : Prop where
  lim : Lim l
  len : l.length ≤ 17592186044416
theorem Nt.limbs {l : List Nat} (h : Nt l) : Nt (limbs (val l)) := ⟨a0c _, Nat.le_trans (a0Y h.lim) h.len⟩
theorem c4l (x : List Nat) (k d : Nat) : (x ++ List.replicate (k + 1) 0).set x.length d = (x ++ [d]) ++ List.replicate k 0 := by
  rw [List.set_append_right _ _ (Nat.le_refl _), Nat.sub_self, List.replicate_succ, List.set_cons_zero]; simp
/-- One place of a sum. -/
theorem c9q {vd pa pb B c x y i : Nat} (h : vd + B * c = pa + pb) : (vd + B * ((c + x + y) % LB)) + (B * LB) * ((c + x + y) / LB) = (pa + B * x) + (pb + B * y) := by
  have e : (c + x + y) % LB + LB * ((c + x + y) / LB) = c + x + y := Nat.mod_add_div _ _
  have e2 : B * ((c + x + y) % LB) + (B * LB) * ((c + x + y) / LB) = B * (c + x + y) := by rw [Nat.mul_assoc, ← Nat.mul_add, e]
  have e3 : B * (c + x + y) = B * c + B * x + B * y := by rw [Nat.mul_add, Nat.mul_add]
  omega
theorem a1A {x : List Nat} {d : Nat} (h : Lim x) (hd : d < LB) : Lim (x ++ [d]) := b9o.2 ⟨h, by intro e he; simp at he; omega⟩
theorem d9V {w : List Nat} {k d : Nat} (h : k < w.length) : val (w.set k d) + LB ^ k * w.getD k 0 = val w + LB ^ k * d := by
  induction w generalizing k with
  | nil => simp at h
  | cons e w ih =>
    cases k with
    | zero => simp only [List.set_cons_zero, val, Nat.pow_zero, Nat.one_mul, List.getD_cons_zero]; omega
    | succ k =>
      simp only [List.set_cons_succ, val, List.getD_cons_succ, Nat.pow_succ']
      have := ih (k := k) (by simpa using h)
      have e1 : LB * (val (w.set k d) + LB ^ k * w.getD k 0) = LB * (val w + LB ^ k * d) := by rw [this]
      rw [Nat.mul_add, Nat.mul_add, ← Nat.mul_assoc, ← Nat.mul_assoc] at e1
      omega
theorem e1o {w : List Nat} {k d : Nat} (h : Lim w) (hd : d < LB) : Lim (w.set k d) := by
  intro e he
  rcases List.mem_or_eq_of_mem_set he with h' | h'
  · exact h e h'
  · rw [h']; exact hd
/-- One place of a difference. -/
theorem d3v {vx va vb B bo bo' d x y : Nat} (h : va + B * bo = vx + vb) (hd : x + LB * bo' = d + bo + y) : (va + B * x) + (B * LB) * bo' = (vx + B * d) + (vb + B * y) := by
  have e : B * (x + LB * bo') = B * (d + bo + y) := by rw [hd]
  rw [Nat.mul_add, Nat.mul_add, Nat.mul_add, ← Nat.mul_assoc] at e
  omega
/-- One place of a product. -/
theorem d6X {vw vx A B C c x y q vb vs t : Nat} (hC : C = A * B) (h : vw + C * c = vx + A * (x * vb)) (hs : vs + C * q = vw + C * (t % LB)) (ht : t = c + x * y + q) :
    vs + (C * LB) * (t / LB) = vx + A * (x * (vb + B * y)) := by
  have e : t % LB + LB * (t / LB) = t := Nat.mod_add_div _ _
  have e1 : C * (t % LB) + (C * LB) * (t / LB) = C * t := by rw [Nat.mul_assoc, ← Nat.mul_add, e]
  have e2 : C * t = C * c + C * (x * y) + C * q := by rw [ht, Nat.mul_add, Nat.mul_add]
  have e3 : A * (x * (vb + B * y)) = A * (x * vb) + C * (x * y) := by
    rw [hC, Nat.mul_add, Nat.mul_add, Nat.mul_assoc A B, Nat.mul_left_comm B x y]
  omega
theorem d6Y {c x y q : Nat} (hc : c < LB) (hx : x < LB) (hy : y < LB) (hq : q < LB) : c + x * y + q < LB * LB := by
  have : x * y ≤ (LB - 1) * (LB - 1) := Nat.mul_le_mul (by omega) (by omega)
  have e : (LB - 1) * (LB - 1) + (LB - 1) + (LB - 1) < LB * LB := by decide
  omega
theorem c4c : ∀ {a b : List Nat}, (∀ i, a.getD i 0 = b.getD i 0) → val a = val b
  | [], [], _ => rfl
  | [], e :: b, h => by
    have h0 : 0 = e := by simpa using h 0
    have := c4c (a := []) (b := b) fun i => by simpa using h (i + 1)
    simp only [val] at this ⊢
    rw [← h0, ← this, Nat.mul_zero]
  | d :: a, [], h => by
    have h0 : d = 0 := by simpa using h 0
    have := c4c (a := a) (b := []) fun i => by simpa using h (i + 1)
    simp only [val] at this ⊢
    rw [h0, this, Nat.mul_zero]
  | d :: a, e :: b, h => by
    have h0 : d = e := by simpa using h 0
    have := c4c (a := a) (b := b) fun i => by simpa using h (i + 1)
    simp only [val, h0, this]
theorem c6b (a : List Nat) (n i : Nat) : (a.drop n).getD i 0 = a.getD (n + i) 0 := by simp [List.getD_eq_getElem?_getD, List.getElem?_drop]
theorem a3m (a : List Nat) (n : Nat) : val a = val (a.take n) + LB ^ n * val (a.drop n) := by
  rcases Nat.lt_or_ge a.length n with h | h
  · rw [List.take_of_length_le (by omega), List.drop_of_length_le (by omega)]; simp [val]
  · have := a7o (a.take n) (a.drop n)
    rwa [List.take_append_drop, List.length_take, Nat.min_eq_left h] at this
theorem a2X {a : List Nat} (h : Lim a) (n : Nat) : val (a.take n) < LB ^ n := by
  have h1 := a1e (h.take n)
  have h2 : LB ^ (a.take n).length ≤ LB ^ n := Nat.pow_le_pow_right (by decide) (by rw [List.length_take]; omega)
  omega
theorem b0n {a b : List Nat} {i : Nat} (ha : Lim a) (hb : Lim b) (h : ∀ j, i < j → a.getD j 0 = b.getD j 0) (hlt : a.getD i 0 < b.getD i 0) : val a < val b := by
  have e : val (a.drop (i + 1)) = val (b.drop (i + 1)) := c4c fun j => by rw [c6b, c6b]; exact h _ (by omega)
  rw [a3m a (i + 1), a3m b (i + 1), e, a0i, a0i]
  have h1 := a2X ha i
  have h2 : LB ^ i * (a.getD i 0 + 1) ≤ LB ^ i * b.getD i 0 := Nat.mul_le_mul_left _ hlt
  rw [Nat.mul_add] at h2
  omega
theorem a6D {a : List Nat} {i : Nat} (h : a.length ≤ i) : a.getD i 0 = 0 := by rw [List.getD_eq_getElem?_getD, List.getElem?_eq_none h]; rfl
theorem a7p {l : List Nat} {i : Nat} (h : i < l.length) : l.take (i + 1) = l.take i ++ [l.getD i 0] := by
  rw [List.take_succ_eq_append_getElem h, List.getD_eq_getElem?_getD, List.getElem?_eq_getElem h, Option.getD_some]
end Go.Abs
namespace Go.Abs
def u32s (l : List Nat) : List AV := l.map fun n : Nat => .int .u32 (n : Int)
def natV (l : List Nat) : AV := .sl 1 (u32s l)
theorem a0x (l : List Nat) : (u32s l).length = l.length := by simp [u32s]
theorem b4f (a b : List Nat) : u32s (a ++ b) = u32s a ++ u32s b := by simp [u32s]
theorem e3g : u32s [] = [] := rfl
theorem c4d (d : Nat) (l : List Nat) : u32s (d :: l) = .int .u32 (d : Int) :: u32s l := rfl
theorem b5j (l : List Nat) (n : Nat) : (u32s l).take n = u32s (l.take n) := by simp [u32s, List.map_take]
theorem c3q (l : List Nat) (i d : Nat) : (u32s l).set i (.int .u32 (d : Int)) = u32s (l.set i d) := by simp [u32s, List.map_set]
theorem b0o {l : List Nat} {i : Nat} (h : i < l.length) : (u32s l).getD i .top = .int .u32 (l.getD i 0 : Nat) := by
  simp [u32s, h]
theorem d9X (l : List Nat) : (u32s l).flatMap AV.cells = u32s l := by
  induction l with
  | nil => rfl
  | cons d l ih => rw [c4d, List.flatMap_cons, ih]; rfl
theorem e3f (n : Nat) : List.replicate n (AV.int .u32 0) = u32s (List.replicate n 0) := by simp [u32s]
theorem d9Y {l : List Nat} {a : AV} (h : a ∈ u32s l) : Cl a := by
  obtain ⟨n, _, rfl⟩ := List.mem_map.1 h; exact .int _ _
theorem a7W {l : List Nat} {a : AV} (h : a ∈ (u32s l).flatMap AV.cells) : Cl a := by rw [d9X] at h; exact d9Y h
theorem a0r (l : List Nat) : ∀ a ∈ (Blk.mk 1 (u32s l)).flat, Cl a := fun a h => a7W h
theorem a0X (l : List Nat) : Cl (natV l) := .sl 1 _ fun c h => a7W h
theorem d9h (l : List Nat) : (natV l).cells = [natV l] := rfl
theorem e3X (l : List Nat) : (natV l).fit = true := rfl
theorem d3o (id : Nat) (l : List Nat) : nref id (natV l) = true := a1z (a0X l)
theorem c3x (l : List Nat) : clb (natV l) = true := c6x (a0X l)
theorem e3W (id : Nat) (b : Blk) (l : List Nat) : frz id b (natV l) = natV l := a3I (a0X l)
theorem e0U (id : Nat) (b : Blk) (l : List Nat) : (u32s l).map (frz id b) = u32s l := by
  rw [List.map_congr_left (g := fun x => x) fun a h => a3I (d9Y h)]; simp
theorem a6o (H : Heap) (l : List Nat) : lenV H (natV l) = some (.int .i64 l.length) := by simp [natV, d5K, a0x]
theorem b7o (H : Heap) (l : List Nat) : a0S H 1 false (natV l) = some (u32s l) := a4v H 1 _
theorem a0C (H : Heap) (l : List Nat) (k : IntKind) (i : Nat) (h : i < l.length) : idxV H 1 (natV l) (.int k i) = some (.ro (.int .u32 (l.getD i 0 : Nat)) 0) := by
  rw [natV, e1F _ _ _ _ _ (by omega) (by rw [a0x]; omega)]
  rw [Int.toNat_natCast, b0o h]
theorem e3V (H : Heap) (l : List Nat) (k : IntKind) (n : Nat) (h : n ≤ l.length) : slcV H 1 (natV l) none (some (.int k n)) none = some (natV (l.take n)) := by
  simp only [natV, slcV, a3C, Option.bind_some, a0x]
  rw [if_pos ⟨trivial, by omega, by omega, by omega⟩]
  simp [b5j]
theorem e8V (H L : Heap) (i off len : Nat) (oc : Option Nat) {b : Blk} (h : L[i]? = some (some b)) : lenV (hap H L) (.mu (lid H i) off len oc) = some (.int .i64 len) := by
  rw [c5P, a1k, h]; simp
theorem c8K (H L : Heap) (wd i off len : Nat) (oc : Option Nat) (k : IntKind) (j : Nat) {b : Blk} (h : L[i]? = some (some b)) (hw : b.wd = wd) (hj : j < len) :
    idxV (hap H L) wd (.mu (lid H i) off len oc) (.int k j) = some (.loc (lid H i) (off + j) 0) := by
  rw [b4H _ _ _ _ _ _ _ _ (by omega) (by omega), a1k, h]; simp [hw]
theorem d0z (H L : Heap) (i k : Nat) {b : Blk} (h : L[i]? = some (some b)) (hk : k < b.xs.length) : atV (hap H L) (.loc (lid H i) k 0) = some (b.xs.getD k .top).cells := by
  rw [a9u, a1k, h]; simp [hk]
theorem a3l {n : Int} (h0 : 0 ≤ n) (h1 : n < 4294967296) : IntKind.wrap .u32 n = n := by
  simp [IntKind.wrap, IntKind.bits, IntKind.signed]; omega
theorem a0G {n : Int} (h0 : 0 ≤ n) (h1 : n < 18446744073709551616) : IntKind.wrap .u64 n = n := by
  simp [IntKind.wrap, IntKind.bits, IntKind.signed]; omega
theorem a0a {n : Int} (h0 : -9223372036854775808 ≤ n) (h1 : n < 9223372036854775808) : IntKind.wrap .i64 n = n := by
  simp [IntKind.wrap, IntKind.bits, IntKind.signed]; omega
theorem a1Y (n : Nat) : IntKind.wrap .u32 (n : Int) = ((n % LB : Nat) : Int) := by
  simp [IntKind.wrap, IntKind.bits, IntKind.signed]
theorem a1l (n : Int) : IntKind.wrap .u64 n = n % 18446744073709551616 := by
  simp [IntKind.wrap, IntKind.bits, IntKind.signed]
theorem b4M (n0 : Nat) (env : Env) (H L : Heap) (l : List Nat) (h : l.length ≤ 17592186044416) :
    appV n0 1 4 false .nil (natV l) env (hap H L) = some (.mu (lid H L.length) 0 l.length none, env, hap H (L ++ [some ⟨1, u32s l⟩])) := by
  have := e5q n0 env H L 1 4 false (natV l) (u32s l) (b7o _ l) (by decide) (by rw [a0x]; omega) (by rw [a0x]; omega)
  rwa [a0x] at this
theorem c6A (n0 : Nat) (env : Env) (H L : Heap) (i len : Nat) (oc : Option Nat) (y : AV) (xs l : List Nat) (hH : a0F H) (hl : L[i]? = some (some ⟨1, u32s xs⟩)) (hlen : len = xs.length) (hn : n0 ≤ lid H i) (ha : e2X H L i)
    (hy : a0S (hap H L) 1 false y = some (u32s l)) (hb : xs.length + l.length ≤ 35184372088832) (hoc : (oc.any fun c => decide (len + l.length ≤ c)) = false := by rfl) :
    appV n0 1 4 false (.mu (lid H i) 0 len oc) y env (hap H L) = some (.mu (lid H i) 0 (len + l.length) (a1s oc (len + l.length)), scrub (lid H i) env, hap H (L.set i (some ⟨1, u32s (xs ++ l)⟩))) := by
  have := b1Z n0 env H L 1 4 false i len oc y (u32s xs) (u32s l) hH hl (by rw [a0x]; exact hlen) hn hy ha (fun a h => (a7W h).ref) (by rw [a0x]; omega) (by rw [a0x]; omega) (by rw [a0x]; exact hoc)
  rwa [a0x, ← b4f] at this
theorem a7M (H : Heap) (i : Nat) (l : List Nat) (oc : Option Nat) : frz (lid H i) ⟨1, u32s l⟩ (.mu (lid H i) 0 l.length oc) = natV l := by
  rw [a9j _ _ _ _ _ (by rw [a0x])]; rfl
/-- The rules for numbers. -/
def EN := And.intro @a6o (And.intro @a7M (And.intro @e0U (And.intro @d3o (And.intro @c3x (And.intro @d9h (And.intro @e3X (And.intro @e3W (And.intro @b7o @a0x))))))))
theorem e6G (H : Heap) (X : Blk) (len : Nat) (oc : Option Nat) : lenV (hap H [some X]) (.mu (lid H 0) 0 len oc) = some (.int .i64 len) := e8V H [some X] 0 0 len oc rfl
theorem a8J (H : Heap) (X : List AV) (wd len : Nat) (oc : Option Nat) (k : IntKind) (j : Nat) (h : j < len) : idxV (hap H [some ⟨wd, X⟩]) wd (.mu (lid H 0) 0 len oc) (.int k j) = some (.loc (lid H 0) j 0) := by
  rw [c8K H [some ⟨wd, X⟩] wd 0 0 len oc k j rfl rfl h, Nat.zero_add]
theorem e5F (H : Heap) (x : List Nat) (j : Nat) (h : j < x.length) : atV (hap H [some ⟨1, u32s x⟩]) (.loc (lid H 0) j 0) = some [.int .u32 (x.getD j 0 : Nat)] := by
  rw [d0z H [some ⟨1, u32s x⟩] 0 j rfl (by simpa [a0x] using h)]
  simp only [b0o h, AV.cells]
theorem c4D (H : Heap) (env : Env) (x : List Nat) (j d : Nat) (h : j < x.length) : a1L 1 (.loc (lid H 0) j 0) (.int .u32 (d : Int)) env (hap H [some ⟨1, u32s x⟩]) = some (.top, env, hap H [some ⟨1, u32s (x.set j d)⟩]) := by
  rw [a5q env H [some ⟨1, u32s x⟩] 1 0 j 0 _ rfl (by simpa [a0x] using h) rfl rfl (Nat.le_refl 1)]
  simp only [a2o, c3q, List.set_cons_zero]
theorem b1N (env : Env) (H L : Heap) (k k' : IntKind) (n : Nat) (h : n ≤ 35184372088832) : c5z 1 4 (.int .u32 0) (.int k n) (.int k' n) env (hap H L) = some (.mu (lid H L.length) 0 n (some n), env, hap H (L ++ [some ⟨1, u32s (List.replicate n 0)⟩])) := by
  rw [b7p env H L 1 4 _ k k' n n (by decide) (Nat.le_refl _) (by omega) (by omega), e3f]
theorem b5g (n : Int) : IntKind.wrap .u32 n = n % 4294967296 := by
  simp [IntKind.wrap, IntKind.bits, IntKind.signed]
theorem e6l (t : Nat) : Int.fdiv (t : Int) (2 ^ min (Int.toNat 32) IntKind.u64.bits) = ((t / LB : Nat) : Int) := by
  rw [show (2 : Int) ^ min (Int.toNat 32) IntKind.u64.bits = (LB : Int) by decide, Int.fdiv_eq_ediv_of_nonneg _ (by decide)]; rfl
theorem c4E (H : Heap) (hH : a0F H) (n0 : Nat) (hn : n0 ≤ lid H 0) (env : Env) (x : List Nat) (d : Nat) (hb : x.length < 35184372088832) :
    appV n0 1 4 false (.mu (lid H 0) 0 x.length none) (.sl 1 [.int .u32 (d : Int)]) env (hap H [some ⟨1, u32s x⟩]) = some (.mu (lid H 0) 0 (x.length + 1) none, scrub (lid H 0) env, hap H [some ⟨1, u32s (x ++ [d])⟩]) := by
  have := c6A n0 env H [some ⟨1, u32s x⟩] 0 x.length none (.sl 1 [.int .u32 (d : Int)]) x [d] hH rfl rfl hn (b1Y fun b hb a ha => by
    simp at hb; subst hb; exact a0r x a ha) (a4v _ 1 _) (by simp; omega)
  simpa [a1s] using this
theorem e0z (t : Nat) : binV .rem (.int .u64 (t : Int)) (.int .u64 4294967296) = some (.int .u64 ((t % LB : Nat) : Int)) := by
  rw [d1k _ _ _ (by decide), Int.tmod_eq_emod_of_nonneg (by omega)]; rfl
theorem e5E (t : Nat) (h : t < 18446744073709551616) : binV .quo (.int .u64 (t : Int)) (.int .u64 4294967296) = some (.int .u64 ((t / LB : Nat) : Int)) := by
  have hLB : LB = 4294967296 := rfl
  rw [c3G _ _ _ (by decide), Int.tdiv_eq_ediv_of_nonneg (by omega)]
  have : (t : Int) / 4294967296 = ((t / LB : Nat) : Int) := rfl
  rw [this, a0G (by omega) (by omega)]
def E1 := And.intro EV (And.intro EVC EN)
end Go.Abs
namespace Go.Abs
def sgn (neg : Bool) (n : Nat) : Int := if neg then -(n : Int) else n
/-- A number as it is handed round: a sign, limbs. -/
structure ZI where
  neg : Bool
  mag : List Nat
def ZI.av (x : ZI) : AV := .agg [.bool x.neg, natV x.mag]
def ZI.z (x : ZI) : Int := sgn x.neg (val x.mag)
/-- The number in its one form. -/
def canZ (z : Int) : ZI := ⟨decide (z < 0), limbs z.natAbs⟩
def Z (z : Int) : AV := .agg [.bool (decide (z < 0)), natV (limbs z.natAbs)]
theorem a2A (z : Int) : (canZ z).av = Z z := rfl
theorem a0o (z : Int) : (canZ z).z = z := by
  unfold canZ ZI.z sgn
  simp only [a0b, decide_eq_true_eq]
  split <;> omega
theorem e7V (neg : Bool) (n : Nat) : .agg [.bool (neg && decide (0 < n)), natV (limbs n)] = Z (sgn neg n) := by
  unfold Z sgn
  cases neg
  · simp <;> omega
  · rcases Nat.eq_zero_or_pos n with h | h
    · subst h; simp
    · simp [h]
theorem a4Y (neg : Bool) : sgn neg 0 = 0 := by cases neg <;> rfl
theorem b8L (neg : Bool) (n : Nat) : (sgn neg n).natAbs = n := by cases neg <;> simp [sgn]
theorem Z_cl (z : Int) : Cl (Z z) := .agg _ (by intro c hc; simp at hc; rcases hc with rfl | rfl; exact .bool _; exact a0X _)
theorem ZI.cl (x : ZI) : Cl x.av := .agg _ (by intro c hc; simp at hc; rcases hc with rfl | rfl; exact .bool _; exact a0X _)
theorem e2P : Z 0 = .agg [.bool false, natV []] := by unfold Z; simp [a0I]
theorem le_zero : Le (.agg [.bool false, .nil]) (Z 0) := by rw [e2P]; exact Le.agg2 (Le.refl _) (Le.nil 1 (by decide))
/-- The number's limbs. -/
structure Zok (k : Nat) (x : ZI) : Prop where
  lim : Lim x.mag
  len : x.mag.length ≤ k
theorem Zok.mono {k m : Nat} {x : ZI} (h : Zok k x) (hk : k ≤ m) : Zok m x := ⟨h.lim, Nat.le_trans h.len hk⟩
theorem Zok.lt {k : Nat} {x : ZI} (h : Zok k x) : val x.mag < LB ^ k := by
  have h1 := a1e h.lim
  have h2 : LB ^ x.mag.length ≤ LB ^ k := Nat.pow_le_pow_right (by decide) h.len
  omega
theorem Zok.abs {k : Nat} {x : ZI} (h : Zok k x) : x.z.natAbs < LB ^ k := by unfold ZI.z; rw [b8L]; exact h.lt
theorem a0l {k : Nat} {z : Int} (h : z.natAbs < LB ^ k) : Zok k (canZ z) := ⟨a0c _, a0j h⟩
section
variable (n0 : Nat) (env : Env) (H L : Heap)
def cpyV (wd : Nat) (x y : AV) (env : Env) (H : Heap) : Option (AV × Env × Heap) := (a0S H wd false y).bind fun ys => match x with
      | .mu id off len _ => (hrow H id).bind fun r =>
          if r.wd = wd ∧ off + len ≤ r.xs.length then
            some (.int .i64 (min ys.length len : Nat), env, H.set id (some ⟨wd, r.xs.take off ++ ys.take (min ys.length len) ++ r.xs.drop (off + min ys.length len)⟩)) else none
      | _ => none
theorem e9l (wd : Nat) (a b : Src) : ev n0 (.cpy wd a b) env H = cpyV wd (a.ev env) (b.ev env) env H := by
  simp only [ev, cpyV]; cases a0S H wd false (b.ev env) <;> simp only [Option.bind_none, Option.bind_some]; split <;> simp_all
theorem d7D (wd i len : Nat) (oc : Option Nat) (y : AV) (xs ys : List AV) (hl : L[i]? = some (some ⟨wd, xs⟩)) (hlen : len = xs.length) (hy : a0S (hap H L) wd false y = some ys) (hle : len ≤ ys.length) :
    cpyV wd (.mu (lid H i) 0 len oc) y env (hap H L) = some (.int .i64 len, env, hap H (L.set i (some ⟨wd, ys.take len⟩))) := by
  subst hlen
  simp only [cpyV, hy, Option.bind_some, a1k, hl, Option.join_some, a3L]
  rw [if_pos ⟨trivial, by omega⟩]
  simp [Nat.min_eq_right hle]
end
def EI := @e9l
def E2 := And.intro @EV2 (And.intro @EI @E1)
end Go.Abs
namespace Go.Abs
theorem ZI.av_fit (x : ZI) : x.av.fit = true := rfl
theorem ZI.av_cells (x : ZI) : x.av.cells = [.bool x.neg, natV x.mag] := rfl
theorem ZI.av_nref (id : Nat) (x : ZI) : nref id x.av = true := a1z x.cl
theorem ZI.av_frz (id : Nat) (b : Blk) (x : ZI) : frz id b x.av = x.av := a3I x.cl
theorem e7W (z : Int) : (Z z).cells = [.bool (decide (z < 0)), natV (limbs z.natAbs)] := rfl
theorem e9B (z : Int) : (Z z).fit = true := rfl
theorem e9A (id : Nat) (z : Int) : nref id (Z z) = true := a1z (Z_cl z)
theorem e9W (id : Nat) (b : Blk) (z : Int) : frz id b (Z z) = Z z := a3I (Z_cl z)
def vecV (v : List ZI) : AV := .sl 2 (v.map ZI.av)
def matV (b : List (List ZI)) : AV := .sl 1 (b.map vecV)
theorem a9t {a : AV} (h : Cl a) : ∀ c ∈ a.cells, Cl c := by
  intro c hc
  cases a with
  | agg cs => cases h with | agg _ h => exact h c hc
  | mo l => cases h
  | io i n s => cases h
  | _ => simp [AV.cells] at hc; subst hc; exact h
theorem e4R {α : Type} (wd : Nat) (f : α → AV) (l : List α) (h : ∀ x, Cl (f x)) : Cl (.sl wd (l.map f)) := by
  refine .sl wd _ fun c hc => ?_
  obtain ⟨x, hx, hc⟩ := List.mem_flatMap.1 hc
  obtain ⟨y, _, rfl⟩ := List.mem_map.1 hx
  exact a9t (h y) c hc
theorem a0g (v : List ZI) : Cl (vecV v) := e4R 2 _ v ZI.cl
theorem a5E (b : List (List ZI)) : Cl (matV b) := e4R 1 _ b a0g
theorem d8c (v : List ZI) : (vecV v).cells = [vecV v] := rfl
theorem e3b (v : List ZI) : (vecV v).fit = true := rfl
theorem d9T (id : Nat) (v : List ZI) : nref id (vecV v) = true := a1z (a0g v)
theorem e3c (v : List ZI) : clb (vecV v) = true := c6x (a0g v)
theorem e3a (id : Nat) (b : Blk) (v : List ZI) : frz id b (vecV v) = vecV v := a3I (a0g v)
theorem d9n (v : List (List ZI)) : (matV v).cells = [matV v] := rfl
theorem e4f (v : List (List ZI)) : (matV v).fit = true := rfl
theorem e1g (id : Nat) (v : List (List ZI)) : nref id (matV v) = true := a1z (a5E v)
theorem e4g (v : List (List ZI)) : clb (matV v) = true := c6x (a5E v)
theorem e4e (id : Nat) (b : Blk) (v : List (List ZI)) : frz id b (matV v) = matV v := a3I (a5E v)
section
variable (H : Heap)
theorem d6I {α : Type} (wd : Nat) (f : α → AV) (l : List α) : lenV H (.sl wd (l.map f)) = some (.int .i64 l.length) := by rw [d5K, List.length_map]
theorem d6J {α : Type} (wd : Nat) (f : α → AV) (l : List α) (k : IntKind) (i : Nat) (h : i < l.length) : idxV H wd (.sl wd (l.map f)) (.int k i) = some (.ro (f l[i]) 0) := by
  rw [e1F _ _ _ _ _ (by omega) (by rw [List.length_map]; omega)]
  simp [h]
theorem d9S (v : List ZI) : lenV H (vecV v) = some (.int .i64 v.length) := d6I H 2 _ v
theorem a1h (v : List ZI) (k : IntKind) (i : Nat) (h : i < v.length) : idxV H 2 (vecV v) (.int k i) = some (.ro v[i].av 0) := d6J H 2 _ v k i h
theorem e6R (v : List (List ZI)) : lenV H (matV v) = some (.int .i64 v.length) := d6I H 1 _ v
theorem a1W (v : List (List ZI)) (k : IntKind) (i : Nat) (h : i < v.length) : idxV H 1 (matV v) (.int k i) = some (.ro (vecV v[i]) 0) := d6J H 1 _ v k i h
/-- The elements of a row of the call's own, each closed. -/
theorem a1H {α : Type} (wd : Nat) (f : α → AV) (l : List α) (h : ∀ x, Cl (f x)) : ∀ a ∈ (Blk.mk wd (l.map f)).flat, Cl a := by
  intro a ha
  obtain ⟨x, hx, hc⟩ := List.mem_flatMap.1 ha
  obtain ⟨y, _, rfl⟩ := List.mem_map.1 hx
  exact a9t (h y) a hc
theorem e1P {α : Type} (id : Nat) (b : Blk) (f : α → AV) (l : List α) (h : ∀ x, Cl (f x)) : (l.map f).map (frz id b) = l.map f := by
  rw [List.map_map]
  exact List.map_congr_left fun x _ => a3I (h x)
theorem a5t {α : Type} (i : Nat) (wd : Nat) (f : α → AV) (l : List α) (oc : Option Nat) : frz (lid H i) ⟨wd, l.map f⟩ (.mu (lid H i) 0 l.length oc) = .sl wd (l.map f) := by
  rw [a9j _ _ _ _ _ (by rw [List.length_map])]
theorem e2H {α : Type} (hH : a0F H) (L : Heap) (i : Nat) (n0 : Nat) (hn : n0 ≤ lid H i) (env : Env) (wd bytes : Nat) (f : α → AV) (hf : ∀ x, Cl (f x)) (l : List α) (x : α) (hl : L[i]? = some (some ⟨wd, l.map f⟩)) (hL : ∀ b, some b ∈ L → ∀ a ∈ b.flat, Cl a)
    (hb : (l.length + 1) * bytes ≤ 140737488355328) (hb' : l.length + 1 ≤ 9223372036854775807) :
    appV n0 wd bytes false (.mu (lid H i) 0 l.length none) (.sl wd [f x]) env (hap H L) = some (.mu (lid H i) 0 (l.length + 1) none, scrub (lid H i) env, hap H (L.set i (some ⟨wd, (l ++ [x]).map f⟩))) := by
  have := b1Z n0 env H L wd bytes false i l.length none (.sl wd [f x]) (l.map f) [f x] hH hl (by rw [List.length_map]) hn (a4v _ wd _) (b1Y hL) (by
    intro a ha
    simp at ha
    exact (a9t (hf x) a ha).ref) (by simpa using hb) (by simpa using hb') rfl
  simpa [a1s] using this
/-- One row alone. -/
theorem d7M {α : Type} (hH : a0F H) (n0 : Nat) (hn : n0 ≤ lid H 0) (env : Env) (wd bytes : Nat) (f : α → AV) (hf : ∀ x, Cl (f x)) (l : List α) (x : α) (hb : (l.length + 1) * bytes ≤ 140737488355328) (hb' : l.length + 1 ≤ 9223372036854775807) :
    appV n0 wd bytes false (.mu (lid H 0) 0 l.length none) (.sl wd [f x]) env (hap H [some ⟨wd, l.map f⟩]) = some (.mu (lid H 0) 0 (l.length + 1) none, scrub (lid H 0) env, hap H [some ⟨wd, (l ++ [x]).map f⟩]) := by
  have := e2H H hH [some ⟨wd, l.map f⟩] 0 n0 hn env wd bytes f hf l x rfl (by intro b hb; simp at hb; subst hb; exact a1H wd f l hf) hb hb'
  simpa using this
end
structure Vok (k : Nat) (v : List ZI) : Prop where
  len : v.length ≤ 2097152
  el : ∀ x ∈ v, Zok k x
structure Mok (k : Nat) (b : List (List ZI)) : Prop where
  len : b.length ≤ 2097152
  el : ∀ v ∈ b, Vok k v
theorem Vok.mono {k m : Nat} {v : List ZI} (h : Vok k v) (hk : k ≤ m) : Vok m v := ⟨h.len, fun x hx => (h.el x hx).mono hk⟩
theorem Mok.mono {k m : Nat} {b : List (List ZI)} (h : Mok k b) (hk : k ≤ m) : Mok m b := ⟨h.len, fun x hx => (h.el x hx).mono hk⟩
theorem Vok.get {k : Nat} {v : List ZI} (h : Vok k v) {i : Nat} (hi : i < v.length) : Zok k v[i] := h.el _ (List.getElem_mem hi)
theorem Mok.get {k : Nat} {v : List (List ZI)} (h : Mok k v) {i : Nat} (hi : i < v.length) : Vok k v[i] := h.el _ (List.getElem_mem hi)
theorem d1w : (0 < 2) = True := by decide
/-- The rules for vectors. -/
def EM := And.intro d1w <| And.intro @d9S (And.intro @e6R (And.intro @d8c (And.intro @e3b (And.intro @d9T (And.intro @e3c (And.intro @e3a (And.intro @d9n (And.intro @e4f (And.intro @e1g (And.intro @e4g (And.intro @e4e
  (And.intro @ZI.av_fit (And.intro @ZI.av_cells (And.intro @ZI.av_nref (And.intro @ZI.av_frz (And.intro @e7W (And.intro @e9B (And.intro @e9A @e9W))))))))))))))))))
def zs (v : List ZI) : List Int := v.map ZI.z
def E3 := And.intro EM @E2
end Go.Abs
namespace Go.Abs
/-- The i-th entry of a vector, a matrix. -/
def zg (v : List ZI) (i : Nat) : Int := (v.getD i ⟨false, []⟩).z
def mg (b : List (List ZI)) (i : Nat) : List ZI := b.getD i []
theorem b0k {v : List ZI} {i : Nat} (h : i < v.length) : zg v i = v[i].z := by simp [zg, h]
theorem a3v {b : List (List ZI)} {i : Nat} (h : i < b.length) : mg b i = b[i] := by simp [mg, h]
/-- The vector in the one form of these entries. -/
def vec (n : Nat) (f : Nat → Int) : List ZI := (List.range n).map fun i => canZ (f i)
def mat (n : Nat) (f : Nat → List ZI) : List (List ZI) := (List.range n).map f
theorem a0f (n : Nat) (f : Nat → Int) : (vec n f).length = n := by simp [vec]
theorem a0n (n : Nat) (f : Nat → List ZI) : (mat n f).length = n := by simp [mat]
theorem c3p (n : Nat) (f : Nat → Int) : vec (n + 1) f = vec n f ++ [canZ (f n)] := by simp [vec, List.range_succ]
theorem b7s (n : Nat) (f : Nat → List ZI) : mat (n + 1) f = mat n f ++ [f n] := by simp [mat, List.range_succ]
theorem a3K {n : Nat} {f : Nat → Int} {i : Nat} (h : i < (vec n f).length) : (vec n f)[i] = canZ (f i) := by simp [vec]
theorem a8W {n : Nat} {f : Nat → List ZI} {i : Nat} (h : i < (mat n f).length) : (mat n f)[i] = f i := by simp [mat]
theorem a4u {n : Nat} {f g : Nat → Int} (h : ∀ i, i < n → f i = g i) : vec n f = vec n g :=
  List.map_congr_left fun i hi => by rw [h i (List.mem_range.1 hi)]
theorem e1f {n : Nat} {f g : Nat → List ZI} (h : ∀ i, i < n → f i = g i) : mat n f = mat n g :=
  List.map_congr_left fun i hi => h i (List.mem_range.1 hi)
theorem c7l {n : Nat} {f : Nat → Int} {i : Nat} (h : i < n) : zg (vec n f) i = f i := by
  rw [b0k (by rw [a0f]; exact h), a3K, a0o]
theorem e1e {n : Nat} {f : Nat → List ZI} {i : Nat} (h : i < n) : mg (mat n f) i = f i := by
  rw [a3v (by rw [a0n]; exact h), a8W]
theorem c3J {k n : Nat} {f : Nat → Int} (hn : n ≤ 2097152) (h : ∀ i, i < n → (f i).natAbs < LB ^ k) : Vok k (vec n f) := by
  refine ⟨by rw [a0f]; exact hn, fun x hx => ?_⟩
  obtain ⟨i, hi, rfl⟩ := List.mem_map.1 hx
  exact a0l (h i (List.mem_range.1 hi))
theorem d5z {k n : Nat} {f : Nat → List ZI} (hn : n ≤ 2097152) (h : ∀ i, i < n → Vok k (f i)) : Mok k (mat n f) := by
  refine ⟨by rw [a0n]; exact hn, fun x hx => ?_⟩
  obtain ⟨i, hi, rfl⟩ := List.mem_map.1 hx
  exact h i (List.mem_range.1 hi)
theorem Vok.abs {k : Nat} {v : List ZI} (h : Vok k v) (i : Nat) : (zg v i).natAbs < LB ^ k := by
  rcases Nat.lt_or_ge i v.length with hi | hi
  · rw [b0k hi]; exact (h.get hi).abs
  · simp [zg, hi, ZI.z, sgn, val]
    exact Nat.pow_pos (by decide)
theorem Mok.row {k : Nat} {b : List (List ZI)} (h : Mok k b) (i : Nat) : Vok k (mg b i) := by
  rcases Nat.lt_or_ge i b.length with hi | hi
  · rw [a3v hi]; exact h.get hi
  · simp [mg, hi]
    exact ⟨by simp, by simp⟩
theorem e1r (a b : Nat) : LB ^ (a + b) = LB ^ a * LB ^ b := Nat.pow_add _ _ _
theorem a7H (a : Nat) : 0 < LB ^ a := Nat.pow_pos (by decide)
theorem d5M {a b : Nat} (h : a ≤ b) : LB ^ a ≤ LB ^ b := Nat.pow_le_pow_right (by decide) h
theorem a4b {x y : Int} {k l : Nat} (hx : x.natAbs < LB ^ k) (hy : y.natAbs < LB ^ l) : (x * y).natAbs < LB ^ (k + l) := by
  rw [Int.natAbs_mul, e1r]
  exact Nat.mul_lt_mul'' hx hy
theorem e2M {x y : Int} {k : Nat} (hx : x.natAbs < LB ^ k) (hy : y.natAbs < LB ^ k) : (x + y).natAbs < LB ^ (k + 1) := by
  have h := Int.natAbs_add_le x y
  rw [e1r]
  have : LB = 4294967296 := rfl
  have := a7H k
  rw [Nat.pow_one]
  generalize LB ^ k = c at *
  calc (x + y).natAbs ≤ x.natAbs + y.natAbs := h
    _ < c * 2 := by omega
    _ ≤ c * LB := Nat.mul_le_mul_left _ (by decide)
theorem e6g {x y : Int} {k : Nat} (hx : x.natAbs < LB ^ k) (hy : y.natAbs < LB ^ k) : (x - y).natAbs < LB ^ (k + 1) := by
  rw [Int.sub_eq_add_neg]
  exact e2M hx (by rwa [Int.natAbs_neg])
section
variable {H : Heap}
/-- c9f rows. -/
def RC (L : Heap) : Prop := ∀ b, some b ∈ L → ∀ a ∈ b.flat, Cl a
theorem RC.nil : RC [] := fun b h => by cases h
theorem RC.none {L : Heap} (h : RC L) : RC (none :: L) := fun b hb a ha => by
  rcases List.mem_cons.1 hb with e | e
  · cases e
  · exact h b e a ha
theorem RC.cons {b : Blk} {L : Heap} (hb : ∀ a ∈ b.flat, Cl a) (h : RC L) : RC (some b :: L) := fun c hc a ha => by
  rcases List.mem_cons.1 hc with e | e
  · cases e; exact hb a ha
  · exact h c e a ha
theorem RC.row {α : Type} {wd : Nat} {f : α → AV} {l : List α} {L : Heap} (hf : ∀ x, Cl (f x)) (h : RC L) : RC (some ⟨wd, l.map f⟩ :: L) := .cons (a1H wd f l hf) h
theorem RC.one {wd : Nat} {x : AV} {L : Heap} (hx : Cl x) (h : RC L) : RC (some ⟨wd, [x]⟩ :: L) := .cons (fun a ha => by
  simp only [Blk.flat, List.flatMap_cons, List.flatMap_nil, List.append_nil] at ha
  exact a9t hx a ha) h
theorem RC.emp {wd : Nat} {L : Heap} (h : RC L) : RC (some ⟨wd, []⟩ :: L) := .cons (fun a ha => by cases ha) h
theorem RC.mo {l : List (Int × Int)} {L : Heap} (h : RC L) : RC (some ⟨0, [.mo l]⟩ :: L) := .cons (fun a ha => by cases ha) h
theorem RC.io {i n : Nat} {s : List Nat} {L : Heap} (h : RC L) : RC (some ⟨0, [.io i n s]⟩ :: L) := .cons (fun a ha => by cases ha) h
theorem RC.zero {L : Heap} (h : RC L) : RC (some ⟨2, [.agg [.bool false, .nil]]⟩ :: L) := .one (.agg _ (by
  intro c hc
  simp only [List.mem_cons, List.not_mem_nil, or_false] at hc
  rcases hc with rfl | rfl
  · exact .bool _
  · exact .nil)) h
theorem b1A {α : Type} (hH : a0F H) {L : Heap} (i : Nat) {n0 : Nat} (hn : n0 ≤ lid H i) {env : Env} {wd bytes : Nat} {f : α → AV} (hf : ∀ x, Cl (f x)) (l : List α) (x : α) (l' : List α) {y : AV} {len : Nat}
    (hlen : len = l.length) (hl : L[i]? = some (some ⟨wd, l.map f⟩)) (hL : RC L) (hy : y = f x) (hl' : l' = l ++ [x]) (hb : (len + 1) * bytes ≤ 140737488355328) (hbb : len + 1 ≤ 9223372036854775807) :
    appV n0 wd bytes false (.mu (lid H i) 0 len none) (.sl wd [y]) env (hap H L) = some (.mu (lid H i) 0 (len + 1) none, scrub (lid H i) env, hap H (L.set i (some ⟨wd, l'.map f⟩))) := by
  subst hy
  subst hl'
  have := b1Z n0 env H L wd bytes false i len none (.sl wd [f x]) (l.map f) [f x] hH hl (by rw [List.length_map]; exact hlen) hn (a4v _ wd _) (b1Y hL) (by
    intro a ha
    simp at ha
    exact (a9t (hf x) a ha).ref) (by simpa using hb) (by simpa using hbb) rfl
  simpa [a1s] using this
theorem e5o {α : Type} {L : Heap} (i : Nat) {n0 : Nat} (hn : n0 ≤ lid H i) {env : Env} {wd bytes : Nat} {f : α → AV} (l : List α) (x : α) (l' : List α) {y : AV} {len c : Nat}
    (hlen : len = l.length) (hl : L[i]? = some (some ⟨wd, l.map f⟩)) (hy : y = f x) (hl' : l' = l ++ [x]) (hc : len + 1 ≤ c) :
    appV n0 wd bytes false (.mu (lid H i) 0 len (some c)) (.sl wd [y]) env (hap H L) = some (.mu (lid H i) 0 (len + 1) (some c), env, hap H (L.set i (some ⟨wd, l'.map f⟩))) := by
  subst hy
  subst hl'
  have := e2I n0 env H L wd bytes false i len c (.sl wd [f x]) (l.map f) [f x] hl (by rw [List.length_map]; exact hlen) hn (a4v _ wd _) (by simp) (by simpa using hc)
  simpa using this
theorem e4b (env : Env) (L : Heap) (wd bytes : Nat) (z : AV) (k k' : IntKind) (c : Nat) (h0 : 0 < wd) (h2 : bytes * c ≤ 281474976710656) (h3 : c ≤ 9223372036854775807) :
    c5z wd bytes z (.int k 0) (.int k' c) env (hap H L) = some (.mu (lid H L.length) 0 0 (some c), env, hap H (L ++ [some ⟨wd, []⟩])) := by
  have := b7p env H L wd bytes z k k' 0 c h0 (Nat.zero_le _) h2 h3
  simpa using this
theorem e1O {α : Type} (i wd : Nat) (f : α → AV) (l : List α) (len : Nat) (oc : Option Nat) (h : len = l.length) : frz (lid H i) ⟨wd, l.map f⟩ (.mu (lid H i) 0 len oc) = .sl wd (l.map f) := by
  subst h; exact a5t H i wd f l oc
section
variable {x : Cx} {todo : List AItem} {env : Env} {R : AV → Heap → Prop} {a b c d e : Option Blk}
theorem Safe.drop1 (hH : a0F H) (hx : x.n0 = H.length) (he : env.all (fun p => nref (lid H 1) p.2) = true) (hL : RC [a]) (h : Safe x todo env (hap H [a]) R) : Safe x todo env (hap H [a, b]) R := Safe.dropC (L := [a]) hH hx he hL h
theorem Safe.drop2 (hH : a0F H) (hx : x.n0 = H.length) (he : env.all (fun p => nref (lid H 2) p.2) = true) (hL : RC [a, b]) (h : Safe x todo env (hap H [a, b]) R) : Safe x todo env (hap H [a, b, c]) R := Safe.dropC (L := [a, b]) hH hx he hL h
theorem Safe.drop3 (hH : a0F H) (hx : x.n0 = H.length) (he : env.all (fun p => nref (lid H 3) p.2) = true) (hL : RC [a, b, c]) (h : Safe x todo env (hap H [a, b, c]) R) : Safe x todo env (hap H [a, b, c, d]) R := Safe.dropC (L := [a, b, c]) hH hx he hL h
theorem Safe.drop4 (hH : a0F H) (hx : x.n0 = H.length) (he : env.all (fun p => nref (lid H 4) p.2) = true) (hL : RC [a, b, c, d]) (h : Safe x todo env (hap H [a, b, c, d]) R) : Safe x todo env (hap H [a, b, c, d, e]) R := Safe.dropC (L := [a, b, c, d]) hH hx he hL h
end
/-- A number not yet written is told as 0. -/
theorem Safe.told0 (i : Nat) {x : Cx} {todo : List AItem} {env : Env} {L : Heap} {R : AV → Heap → Prop} (hl : L[i]? = some (some ⟨2, [.agg [.bool false, .nil]]⟩)) (h : Safe x todo env (hap H (L.set i (some ⟨2, [Z 0]⟩))) R) : Safe x todo env (hap H L) R := by
  rw [e2P] at h
  refine Safe.toldRow (b' := ⟨2, [.agg [.bool false, natV []]]⟩) i hl rfl (by intro y hy; simp at hy; subst hy; rfl) rfl (by simp) ?_ h
  intro k a c ha hc
  match k with
  | 0 => cases ha; cases hc; exact Le.refl _
  | 1 => cases ha; cases hc; exact Le.nil 1 (by decide)
  | k + 2 => simp [Blk.flat, AV.cells] at ha
end
end Go.Abs
namespace Go.Abs
section
variable {x : Cx} {todo : List AItem} {env : Env} {R : AV → Heap → Prop} {H : Heap} {b : Option Blk}
theorem Safe.drop0 (hH : a0F H) (hx : x.n0 = H.length) (he : env.all (fun p => nref (lid H 0) p.2) = true) (hL : RC []) (h : Safe x todo env (hap H []) R) : Safe x todo env (hap H [b]) R := Safe.dropC (L := []) hH hx he hL h
theorem c2N {n : Nat} {a : AV} {k : Nat} {c : AV} (h : ((List.replicate n a).flatMap AV.cells)[k]? = some c) : ∃ j, a.cells[j]? = some c ∧ j = k % a.cells.length ∧ k / a.cells.length < n := by
  induction n generalizing k with
  | zero => simp at h
  | succ n ih =>
    rw [List.replicate_succ, List.flatMap_cons] at h
    rcases Nat.lt_or_ge k a.cells.length with hk | hk
    · rw [List.getElem?_append_left hk] at h
      exact ⟨k, h, (Nat.mod_eq_of_lt hk).symm, by rw [Nat.div_eq_of_lt hk]; omega⟩
    · rw [List.getElem?_append_right hk] at h
      obtain ⟨j, h1, h2, h3⟩ := ih h
      have hp : 0 < a.cells.length := by
        rcases Nat.eq_zero_or_pos a.cells.length with h0 | h0
        · have := a0e h1; omega
        · exact h0
      refine ⟨j, h1, ?_, ?_⟩
      · rw [h2, Nat.mod_eq_sub_mod hk]
      · rw [Nat.div_eq_sub_div hp hk]; omega
theorem c0c {n wd : Nat} {a : AV} (h : a.cells.length = wd) : ((List.replicate n a).flatMap AV.cells).length = n * wd := by
  rw [a2h (wd := wd)]
  · simp
  · intro x hx; rw [List.eq_of_mem_replicate hx]; exact h
/-- Numbers not yet written are told as 0. -/
theorem Safe.toldRep (i n : Nat) {L : Heap} (hl : L[i]? = some (some ⟨2, List.replicate n (.agg [.bool false, .nil])⟩)) (h : Safe x todo env (hap H (L.set i (some ⟨2, (vec n fun _ => 0).map ZI.av⟩))) R) : Safe x todo env (hap H L) R := by
  have e : (vec n fun _ => 0).map ZI.av = List.replicate n (.agg [.bool false, natV []]) := by
    apply List.ext_getElem
    · simp [a0f]
    · intro j h1 h2
      simp only [List.getElem_map, a3K, a2A, e2P, List.getElem_replicate]
  rw [e] at h
  refine Safe.toldRow (b' := ⟨2, List.replicate n (.agg [.bool false, natV []])⟩) i hl rfl (by intro y hy; rw [List.eq_of_mem_replicate hy]; rfl) ?_ (by simp) ?_ h
  · show ((List.replicate n _).flatMap AV.cells).length = ((List.replicate n _).flatMap AV.cells).length
    rw [c0c (wd := 2) rfl, c0c (wd := 2) rfl]
  · intro k a c ha hc
    obtain ⟨j, h1, h2, _⟩ := c2N ha
    obtain ⟨j', h1', h2', _⟩ := c2N hc
    have : j' = j := by rw [h2, h2']; rfl
    subst this
    match j' with
    | 0 => cases h1; cases h1'; exact Le.refl _
    | 1 => cases h1; cases h1'; exact Le.nil 1 (by decide)
    | j + 2 => simp [AV.cells] at h1
end
/-- One entry written. -/
def updF (f : Nat → Int) (i : Nat) (z : Int) : Nat → Int := fun k => if k = i then z else f k
theorem d9R (n : Nat) (f : Nat → Int) (i : Nat) (z : Int) : ((vec n f).map ZI.av).set i (Z z) = (vec n (updF f i z)).map ZI.av := by
  apply List.ext_getElem
  · simp [a0f]
  · intro j h1 h2
    rw [List.getElem_set]
    simp only [List.getElem_map, a3K, updF]
    by_cases h : i = j
    · subst h; simp [a2A]
    · rw [if_neg h, if_neg (fun e => h e.symm)]
theorem c6j (p : Nat → Prop) [DecidablePred p] : ∀ (n : Nat), (∀ i, i < n → p i) ∨ ∃ i, i < n ∧ ¬ p i ∧ ∀ j, j < i → p j
  | 0 => .inl fun i hi => absurd hi (by omega)
  | n + 1 => by
    rcases c6j p n with h | ⟨i, hi, h1, h2⟩
    · by_cases hp : p n
      · exact .inl fun i hi => by
          rcases Nat.lt_or_ge i n with h' | h'
          · exact h i h'
          · rw [show i = n by omega]; exact hp
      · exact .inr ⟨n, by omega, hp, h⟩
    · exact .inr ⟨i, by omega, h1, h2⟩
def lead? (v : List ZI) : Option Nat := (List.range v.length).find? fun i => decide (zg v i ≠ 0)
def d5L (v : List ZI) : Int := match lead? v with
  | some i => i
  | none => -1
def upS (v : List ZI) : Int := match lead? v with
  | some i => if zg v i < 0 then -1 else 1
  | none => 1
theorem e1p {v : List ZI} {i : Nat} (hi : i < v.length) (h0 : zg v i ≠ 0) (h : ∀ j, j < i → zg v j = 0) : lead? v = some i := by
  unfold lead?
  have e : List.range v.length = List.range i ++ (i :: (List.range' (i + 1) (v.length - (i + 1)))) := by
    rw [List.range_eq_range', List.range_eq_range', ← List.range'_succ, show v.length = i + (v.length - i) by omega, ← List.range'_append_1]
    rw [show i + (v.length - i) - (i + 1) + 1 = v.length - i by omega]
    simp
  rw [e, List.find?_append]
  have : (List.range i).find? (fun i => decide (zg v i ≠ 0)) = none := by
    rw [List.find?_eq_none]
    intro x hx
    simp [h x (List.mem_range.1 hx)]
  rw [this]
  simp [h0]
theorem d3x {v : List ZI} (h : ∀ j, j < v.length → zg v j = 0) : lead? v = none := by
  unfold lead?
  rw [List.find?_eq_none]
  intro x hx
  simp [h x (List.mem_range.1 hx)]
theorem a7G (v : List ZI) : (∃ i, i < v.length ∧ zg v i ≠ 0 ∧ (∀ j, j < i → zg v j = 0) ∧ d5L v = i ∧ upS v = if zg v i < 0 then -1 else 1) ∨ ((∀ j, j < v.length → zg v j = 0) ∧ d5L v = -1 ∧ upS v = 1) := by
  rcases c6j (fun i => zg v i = 0) v.length with h | ⟨i, hi, h1, h2⟩
  · exact .inr ⟨h, by rw [d5L, d3x h], by rw [upS, d3x h]⟩
  · exact .inl ⟨i, hi, h1, h2, by rw [d5L, e1p hi h1 h2], by rw [upS, e1p hi h1 h2]⟩
def Rect (b : List (List ZI)) : Prop := ∀ i, i < b.length → (mg b i).length = (mg b 0).length
def wid (b : List (List ZI)) : Nat := (mg b 0).length
theorem c7v (b : List (List ZI)) : Rect b ∨ ∃ i, i < b.length ∧ (mg b i).length ≠ (mg b 0).length ∧ ∀ j, j < i → (mg b j).length = (mg b 0).length :=
  c6j (fun i => (mg b i).length = (mg b 0).length) b.length
theorem a6u (H : Heap) (v : List (List ZI)) (k : IntKind) (h : 0 < v.length) : idxV H 1 (matV v) (.int k 0) = some (.ro (vecV v[0]) 0) := a1W H v k 0 h
theorem b9A (H : Heap) (i : Nat) (v : List ZI) (len : Nat) (oc : Option Nat) (h : len = v.length) : frz (lid H i) ⟨2, v.map ZI.av⟩ (.mu (lid H i) 0 len oc) = vecV v := e1O i 2 ZI.av v len oc h
theorem d0L (H : Heap) (i : Nat) (v : List (List ZI)) (len : Nat) (oc : Option Nat) (h : len = v.length) : frz (lid H i) ⟨1, v.map vecV⟩ (.mu (lid H i) 0 len oc) = matV v := e1O i 1 vecV v len oc h
theorem a8Z (id : Nat) (b : Blk) (v : List ZI) : (v.map ZI.av).map (frz id b) = v.map ZI.av := e1P id b ZI.av v ZI.cl
theorem a5F (id : Nat) (b : Blk) (v : List (List ZI)) : (v.map vecV).map (frz id b) = v.map vecV := e1P id b vecV v a0g
end Go.Abs
namespace Go.Abs
section
variable {H L : Heap} {a b : Option Blk} {wd len j n : Nat} {X : List AV} {oc : Option Nat} {k : IntKind} {f : Nat → Int} {z : Int} {env : Env}
theorem e1E (h : j < len) : idxV (hap H (a :: b :: some ⟨wd, X⟩ :: L)) wd (.mu (lid H 2) 0 len oc) (.int k j) = some (.loc (lid H 2) j 0) := by
  rw [c8K H _ wd 2 0 len oc k j rfl rfl h, Nat.zero_add]
theorem e2Z (h : j < n) : ((vec n f).map ZI.av).getD j .top = Z (f j) := by
  rw [List.getD_eq_getElem?_getD, List.getElem?_map, List.getElem?_eq_getElem (by rw [a0f]; exact h), a3K]
  rfl
theorem e9w (h : j < n) : atV (hap H (a :: b :: some ⟨2, (vec n f).map ZI.av⟩ :: L)) (.loc (lid H 2) j 0) = some (Z (f j)).cells := by
  rw [d0z H _ 2 j rfl (by rw [List.length_map, a0f]; exact h), e2Z h]
end
def a0q (b : List (List ZI)) : List (List ZI) := mat (wid b) fun k => vec b.length fun i => zg (mg b i) k
theorem d4K {b : List (List ZI)} {p : Nat} (hb : Mok p b) : Mok p (a0q b) := d5z (hb.row 0).len fun k _ => c3J hb.len fun i _ => (hb.row i).abs k
theorem mgz {b : List (List ZI)} {i j : Nat} (hi : i < b.length) (hj : j < b[i].length) : b[i][j].z = zg (mg b i) j := by rw [a3v hi, b0k hj]
theorem e8D {b : List (List ZI)} (hr : Rect b) {i : Nat} (hi : i < b.length) : b[i].length = wid b := by
  have := hr i hi
  rwa [a3v hi] at this
end Go.Abs
namespace Go.Abs
/-- The guess is not below the digit. -/
theorem d7n {u v : List Nat} {n : Nat} (hu : Lim u) (hv : Lim v) (hun : u.length = n + 1) (hvn : v.length = n) (hn : 0 < n) (hv0 : 0 < val v) (hlt : val u < LB * val v) (ht : 0 < v.getD (n - 1) 0) :
    val u / val v ≤ min ((u.getD n 0 * LB + u.getD (n - 1) 0) / v.getD (n - 1) 0) (LB - 1) := by
  have hq1 : val u / val v ≤ LB - 1 := by
    have : val u / val v < LB := by rw [Nat.div_lt_iff_lt_mul hv0]; exact hlt
    omega
  refine Nat.le_min.2 ⟨?_, hq1⟩
  rw [Nat.le_div_iff_mul_le ht]
  have hs := a3m u (n - 1)
  have hsv := a3m v (n - 1)
  have hdu : val (u.drop (n - 1)) = u.getD (n - 1) 0 + LB * u.getD n 0 := by
    have e : u.drop (n - 1) = [u.getD (n - 1) 0, u.getD n 0] := by
      apply List.ext_getElem
      · simp; omega
      · intro i h1 h2
        match i with
        | 0 => simp [List.getD_eq_getElem?_getD, List.getElem?_eq_getElem (show n - 1 < u.length by omega)]
        | 1 =>
          simp only [List.getElem_drop, List.getElem_cons_succ, List.getElem_cons_zero]
          rw [List.getD_eq_getElem?_getD, List.getElem?_eq_getElem (show n < u.length by omega)]
          simp only [show n - 1 + 1 = n by omega]; rfl
        | i + 2 => simp at h2; omega
    rw [e]; simp [val]
  have hdv : val (v.drop (n - 1)) = v.getD (n - 1) 0 := by
    have e : v.drop (n - 1) = [v.getD (n - 1) 0] := by
      apply List.ext_getElem
      · simp; omega
      · intro i h1 h2
        match i with
        | 0 => simp [List.getD_eq_getElem?_getD, List.getElem?_eq_getElem (show n - 1 < v.length by omega)]
        | i + 1 => simp at h2
    rw [e]; simp [val]
  have htu := a2X hu (n - 1)
  have hle : val u / val v * val v ≤ val u := Nat.div_mul_le_self _ _
  generalize val u / val v = q at *
  generalize hP : LB ^ (n - 1) = P at *
  have hPp : 0 < P := by rw [← hP]; exact Nat.pow_pos (by decide)
  rw [hdu] at hs
  rw [hdv] at hsv
  generalize v.getD (n - 1) 0 = vt at *
  have e2 : LB * u.getD n 0 = u.getD n 0 * LB := Nat.mul_comm _ _
  generalize u.getD (n - 1) 0 = ua at *
  have hbig : q * vt * P < (u.getD n 0 * LB + ua + 1) * P := by
    have h1 : q * (P * vt) ≤ q * val v := Nat.mul_le_mul_left _ (by omega)
    have h2 : q * (P * vt) = q * vt * P := by rw [Nat.mul_comm P vt, Nat.mul_assoc]
    have h3 : (u.getD n 0 * LB + ua + 1) * P = P * (ua + LB * u.getD n 0) + P := by
      rw [Nat.add_mul, Nat.one_mul, Nat.mul_comm _ P, e2, Nat.add_comm ua]
    omega
  have := Nat.lt_of_mul_lt_mul_right hbig
  omega
end Go.Abs
namespace Go.Abs
def fl (n : Nat) (f : Nat → Nat) : List Nat := (List.range n).map f
/-- A digit. -/
def dig (M i : Nat) : Nat := M / LB ^ i % LB
theorem b8z (M i : Nat) : dig M i < LB := Nat.mod_lt _ (by decide)
theorem a1g (n : Nat) (f : Nat → Nat) : (fl n f).length = n := by simp [fl]
theorem b7P {n : Nat} {f : Nat → Nat} {i : Nat} (h : i < n) : (fl n f).getD i 0 = f i := by
  simp [fl, List.getD_eq_getElem?_getD, h]
theorem a2U {n : Nat} {f g : Nat → Nat} (h : ∀ i, i < n → f i = g i) : fl n f = fl n g := List.map_congr_left fun i hi => h i (List.mem_range.1 hi)
theorem e1U (n : Nat) (f : Nat → Nat) (i v : Nat) : (fl n f).set i v = fl n fun j => if j = i then v else f j := by
  apply List.ext_getElem
  · simp [fl]
  · intro j h1 h2
    rw [List.getElem_set]
    simp only [fl, List.getElem_map, List.getElem_range]
    by_cases h : i = j
    · subst h; simp
    · rw [if_neg h, if_neg (fun e => h e.symm)]
theorem e5M {n : Nat} {f : Nat → Nat} (h : ∀ i, i < n → f i < LB) : Lim (fl n f) := by
  intro d hd
  obtain ⟨i, hi, rfl⟩ := List.mem_map.1 hd
  exact h i (List.mem_range.1 hi)
theorem e7j (n : Nat) : List.replicate n 0 = fl n fun _ => 0 := by
  apply List.ext_getElem <;> simp [fl]
theorem d0Q (n : Nat) (f : Nat → Nat) : fl (n + 1) f = fl n f ++ [f n] := by simp [fl, List.range_succ]
theorem e7k {l : List Nat} {n : Nat} (h : l.length = n) : l = fl n fun i => l.getD i 0 := by
  subst h
  apply List.ext_getElem
  · simp [fl]
  · intro i h1 h2; simp [fl, List.getD_eq_getElem?_getD, h1]
theorem d6f {n k : Nat} (f : Nat → Nat) (h : k ≤ n) : (fl n f).take k = fl k f := by
  apply List.ext_getElem
  · simp [fl]; omega
  · intro i h1 h2; simp [fl]
theorem e5A (M : Nat) : ∀ n, val (fl n (dig M)) = M % LB ^ n
  | 0 => by simp [fl, val, Nat.mod_one]
  | n + 1 => by
    rw [d0Q, a2F, e5A M n, a1g, Nat.pow_succ, Nat.mod_mul]; rfl
theorem a1U {M n : Nat} (h : M < LB ^ n) : val (fl n (dig M)) = M := by rw [e5A, Nat.mod_eq_of_lt h]
theorem a2P (M n : Nat) : Lim (fl n (dig M)) := e5M fun i _ => b8z M i
/-- A row's digits. -/
theorem d1c {l : List Nat} (hl : Lim l) (i : Nat) : dig (val l) i = l.getD i 0 := by
  unfold dig
  rw [a3m l i]
  rcases Nat.lt_or_ge l.length i with h | h
  · have : l.drop i = [] := List.drop_eq_nil_of_le (by omega)
    rw [this, List.take_of_length_le (by omega), a6D (by omega)]
    simp only [val, Nat.mul_zero, Nat.add_zero]
    have h2 : val l < LB ^ i := Nat.lt_of_lt_of_le (a1e hl) (Nat.pow_le_pow_right (by decide) (by omega))
    rw [Nat.div_eq_of_lt h2]; rfl
  · have h1 := a2X hl i
    rw [Nat.add_mul_div_left _ _ (a5e i), Nat.div_eq_of_lt h1, Nat.zero_add]
    have : l.getD i 0 = (l.drop i).getD 0 0 := by rw [c6b, Nat.add_zero]
    rw [this]
    cases hd : l.drop i with
    | nil => rfl
    | cons d r =>
      have hlt : d < LB := (hl.drop i) d (by rw [hd]; simp)
      simp only [val, List.getD_cons_zero]
      rw [Nat.add_mul_mod_self_left, Nat.mod_eq_of_lt hlt]
theorem b9n {l : List Nat} (hl : Lim l) {n : Nat} (h : l.length = n) : l = fl n (dig (val l)) := by
  rw [e7k h]
  refine a2U fun i _ => ?_
  rw [← e7k h, d1c hl]
theorem b1V {M i : Nat} (h : M < LB ^ i) : dig M i = 0 := by unfold dig; rw [Nat.div_eq_of_lt h]; rfl
theorem e2f (M a i : Nat) : dig (M / LB ^ a) i = dig M (a + i) := by
  unfold dig; rw [Nat.div_div_eq_div_mul, ← Nat.pow_add]
theorem c6q {M a i : Nat} (K : Nat) (h : i < a) : dig (M + LB ^ a * K) i = dig M i := by
  unfold dig
  have : LB ^ a * K = LB ^ i * (LB * (LB ^ (a - i - 1) * K)) := by
    rw [← Nat.mul_assoc LB, ← Nat.pow_succ', Nat.succ_eq_add_one, show a - i - 1 + 1 = a - i by omega, ← Nat.mul_assoc, ← Nat.pow_add, show i + (a - i) = a by omega]
  rw [this, Nat.add_mul_div_left _ _ (a5e i), Nat.add_mul_mod_self_left]
/-- Words side by side. -/
theorem e8Q {x y : Nat} (k : Nat) (hx : x < 2 ^ (64 - k)) (hk : k ≤ 64) (hy : y < 2 ^ k) : (BitVec.ofInt 64 ((x * 2 ^ k : Nat) : Int) ||| BitVec.ofInt 64 ((y : Nat) : Int)).toNat = x * 2 ^ k + y := by
  have e : 2 ^ 64 = 2 ^ (64 - k) * 2 ^ k := by rw [← Nat.pow_add]; congr 1; omega
  have hx2 : x * 2 ^ k < 2 ^ 64 := by rw [e]; exact Nat.mul_lt_mul_of_pos_right hx (Nat.pow_pos (by decide))
  have hy2 : y < 2 ^ 64 := Nat.lt_of_lt_of_le hy (Nat.pow_le_pow_right (by decide) hk)
  rw [BitVec.toNat_or]
  simp only [BitVec.ofInt_natCast, BitVec.toNat_ofNat]
  rw [Nat.mod_eq_of_lt hx2, Nat.mod_eq_of_lt hy2]
  have := Nat.shiftLeft_add_eq_or_of_lt hy x
  rw [Nat.shiftLeft_eq] at this
  exact this.symm
theorem e3E {x y : Nat} (k : Nat) (hx : x < 2 ^ (32 - k)) (hk : k ≤ 32) (hy : y < 2 ^ k) : (BitVec.ofInt 32 ((y : Nat) : Int) ||| BitVec.ofInt 32 ((x * 2 ^ k : Nat) : Int)).toNat = x * 2 ^ k + y := by
  have e : 2 ^ 32 = 2 ^ (32 - k) * 2 ^ k := by rw [← Nat.pow_add]; congr 1; omega
  have hx2 : x * 2 ^ k < 2 ^ 32 := by rw [e]; exact Nat.mul_lt_mul_of_pos_right hx (Nat.pow_pos (by decide))
  have hy2 : y < 2 ^ 32 := Nat.lt_of_lt_of_le hy (Nat.pow_le_pow_right (by decide) hk)
  rw [BitVec.toNat_or]
  simp only [BitVec.ofInt_natCast, BitVec.toNat_ofNat]
  rw [Nat.mod_eq_of_lt hx2, Nat.mod_eq_of_lt hy2, Nat.or_comm]
  have := Nat.shiftLeft_add_eq_or_of_lt hy x
  rw [Nat.shiftLeft_eq] at this
  exact this.symm
theorem d4M (B d L : Nat) : (B / L % d) * L + B % L = B - d * ((B / L / d) * L) ∧ d * ((B / L / d) * L) ≤ B := by
  have h1 := Nat.mod_add_div B L
  have h2 := Nat.mod_add_div (B / L) d
  have h3 : (B / L % d) * L + (d * (B / L / d)) * L = B / L * L := by rw [← Nat.add_mul, h2]
  have h4 : B / L * L = L * (B / L) := Nat.mul_comm _ _
  have h5 : d * (B / L / d * L) = (d * (B / L / d)) * L := (Nat.mul_assoc _ _ _).symm
  omega
theorem e8v (B d L : Nat) : ((B / L % d) * L + B % L) % d = B % d := by
  rw [(d4M B d L).1, Nat.sub_mul_mod (d4M B d L).2]
theorem e8w (B d L : Nat) : ((B / L % d) * L + B % L) / d = B / d % L := by
  rw [(d4M B d L).1, Nat.sub_mul_div]
  have h2 : B / L / d = B / d / L := by rw [Nat.div_div_eq_div_mul, Nat.mul_comm, ← Nat.div_div_eq_div_mul]
  rw [h2]
  have h4 := Nat.mod_add_div (B / d) L
  have h5 : L * (B / d / L) = B / d / L * L := Nat.mul_comm _ _
  omega
theorem b1v (A i : Nat) : A / LB ^ (i + 1) = A / LB ^ i / LB := by rw [Nat.pow_succ, Nat.div_div_eq_div_mul]
theorem c4i (A d i : Nat) : ((A / LB ^ (i + 1) % d) * LB + dig A i) % d = A / LB ^ i % d := by
  rw [b1v]; exact e8v _ _ _
theorem c4j (A d i : Nat) : ((A / LB ^ (i + 1) % d) * LB + dig A i) / d = dig (A / d) i := by
  rw [b1v]
  have e : dig (A / d) i = A / LB ^ i / d % LB := by unfold dig; rw [Nat.div_div_eq_div_mul, Nat.mul_comm d, ← Nat.div_div_eq_div_mul]
  rw [e]
  exact e8w _ _ _
end Go.Abs
namespace Go.Abs
theorem a2k {x : Nat} (h : x < 18446744073709551616) : IntKind.wrap .u64 (x : Int) = (x : Int) := a0G (by omega) (by omega)
theorem d1z {x : Nat} (h : x < 9223372036854775808) : IntKind.wrap .i64 (x : Int) = (x : Int) := a0a (by omega) (by omega)
theorem d0o {x y : Nat} (h : 0 < y) (hx : x < 18446744073709551616) : binV .quo (.int .u64 (x : Int)) (.int .u64 (y : Int)) = some (.int .u64 ((x / y : Nat) : Int)) := by
  rw [c3G _ _ _ (by omega), Int.tdiv_eq_ediv_of_nonneg (by omega)]
  have h2 : x / y ≤ x := Nat.div_le_self _ _
  have : (x : Int) / (y : Int) = ((x / y : Nat) : Int) := rfl
  rw [this, a2k (by omega)]
theorem e0y {x y : Nat} (h : 0 < y) : binV .rem (.int .u64 (x : Int)) (.int .u64 (y : Int)) = some (.int .u64 ((x % y : Nat) : Int)) := by
  rw [d1k _ _ _ (by omega), Int.tmod_eq_emod_of_nonneg (by omega)]; rfl
theorem e3v {x y : Nat} (h : 0 < y) (hx : x < 9223372036854775808) : binV .quo (.int .i64 (x : Int)) (.int .i64 (y : Int)) = some (.int .i64 ((x / y : Nat) : Int)) := by
  rw [c3G _ _ _ (by omega), Int.tdiv_eq_ediv_of_nonneg (by omega)]
  have h2 : x / y ≤ x := Nat.div_le_self _ _
  have : (x : Int) / (y : Int) = ((x / y : Nat) : Int) := rfl
  rw [this, d1z (by omega)]
theorem e3u {x y : Nat} (h : 0 < y) : binV .rem (.int .i64 (x : Int)) (.int .i64 (y : Int)) = some (.int .i64 ((x % y : Nat) : Int)) := by
  rw [d1k _ _ _ (by omega), Int.tmod_eq_emod_of_nonneg (by omega)]; rfl
theorem a9E {x : Nat} (h : x < LB) : IntKind.wrap .u32 (x : Int) = (x : Int) := a3l (by omega) (by have : LB = 4294967296 := rfl; omega)
theorem a5p {x y : Nat} (h : x + y < 18446744073709551616) : IntKind.wrap .u64 ((x : Int) + (y : Int)) = ((x + y : Nat) : Int) := by rw [a0G (by omega) (by omega)]; omega
theorem b8H {x y : Nat} (h : x * y < 18446744073709551616) : IntKind.wrap .u64 ((x : Int) * (y : Int)) = ((x * y : Nat) : Int) := by
  rw [← Int.natCast_mul]; exact a2k h
/-- Shifts by less than 32. -/
theorem e8u {x n : Nat} (hx : x < LB) (hn : n < 33) : b0p .shl .u64 (x : Int) (n : Int) = some (.int .u64 ((x * 2 ^ n : Nat) : Int)) := by
  rw [d1G _ _ _ (by omega)]
  have hm : min (Int.toNat (n : Int)) IntKind.u64.bits = n := by
    show min n 64 = n
    omega
  rw [hm]
  have h2 : x * 2 ^ n < 18446744073709551616 := by
    have h3 : 2 ^ n ≤ 2 ^ 32 := Nat.pow_le_pow_right (by decide) (by omega)
    have h4 : x * 2 ^ n ≤ x * 2 ^ 32 := Nat.mul_le_mul_left _ h3
    have : LB = 4294967296 := rfl
    have : (2 : Nat) ^ 32 = 4294967296 := by decide
    omega
  have : (x : Int) * 2 ^ n = ((x * 2 ^ n : Nat) : Int) := by simp
  rw [this, a2k h2]
theorem e6m {x : Nat} (hx : x < LB) : b0p .shl .u64 (x : Int) 32 = some (.int .u64 ((x * LB : Nat) : Int)) := e8u (n := 32) hx (by decide)
theorem e6k {x n : Nat} (hn : n ≤ 64) : b0p .shr .u64 (x : Int) (n : Int) = some (.int .u64 ((x / 2 ^ n : Nat) : Int)) := by
  rw [a3o _ _ _ (by omega)]
  have hm : min (Int.toNat (n : Int)) IntKind.u64.bits = n := by
    show min n 64 = n
    omega
  rw [hm, Int.fdiv_eq_ediv_of_nonneg _ (by exact Int.pow_nonneg (by decide))]
  have : (2 : Int) ^ n = ((2 ^ n : Nat) : Int) := by simp
  rw [this]; rfl
theorem e0j (x : Nat) : b0p .shr .u64 (x : Int) 32 = some (.int .u64 ((x / LB : Nat) : Int)) := e6k (n := 32) (by decide)
theorem c4b {x y : Nat} (hx : x < LB) (hy : y < LB) : IntKind.wrap .u64 (((BitVec.ofInt (IntKind.bits .u64) ((x * LB : Nat) : Int) ||| BitVec.ofInt (IntKind.bits .u64) (y : Int)).toNat : Nat) : Int) = ((x * LB + y : Nat) : Int) := by
  have h := e8Q (x := x) (y := y) 32 hx (by decide) hy
  have e : (2 : Nat) ^ 32 = LB := by decide
  rw [e] at h
  have h' : (BitVec.ofInt (IntKind.bits .u64) ((x * LB : Nat) : Int) ||| BitVec.ofInt (IntKind.bits .u64) (y : Int)).toNat = x * LB + y := h
  rw [h', a2k (by
    have : LB = 4294967296 := rfl
    have : x * LB ≤ 4294967295 * LB := Nat.mul_le_mul_right _ (by omega)
    omega)]
theorem d7Z {x y : Nat} (hx : x < LB) (hy : y < LB) : IntKind.wrap .u64 (((BitVec.ofInt (IntKind.bits .u64) (y : Int) ||| BitVec.ofInt (IntKind.bits .u64) ((x * LB : Nat) : Int)).toNat : Nat) : Int) = ((x * LB + y : Nat) : Int) := by
  rw [BitVec.or_comm]; exact c4b hx hy
theorem d9Q {x y : Nat} (k : Nat) (hx : x < 2 ^ (32 - k)) (hk : k ≤ 32) (hy : y < 2 ^ k) : IntKind.wrap .u32 (((BitVec.ofInt (IntKind.bits .u32) (y : Int) ||| BitVec.ofInt (IntKind.bits .u32) ((x * 2 ^ k : Nat) : Int)).toNat : Nat) : Int) = ((x * 2 ^ k + y : Nat) : Int) := by
  have h : (BitVec.ofInt (IntKind.bits .u32) (y : Int) ||| BitVec.ofInt (IntKind.bits .u32) ((x * 2 ^ k : Nat) : Int)).toNat = x * 2 ^ k + y := e3E k hx hk hy
  rw [h, a9E]
  have e : 2 ^ 32 = 2 ^ (32 - k) * 2 ^ k := by rw [← Nat.pow_add]; congr 1; omega
  have h1 : (x + 1) * 2 ^ k ≤ 2 ^ (32 - k) * 2 ^ k := Nat.mul_le_mul_right _ hx
  rw [← e, Nat.add_mul] at h1
  have : LB = 2 ^ 32 := by decide
  omega
section
variable {H L : Heap} {n j len : Nat} {f : Nat → Nat} {oc : Option Nat} {k : IntKind} {env : Env}
theorem d9x (h : j < len) {X : List AV} : idxV (hap H (some ⟨1, X⟩ :: L)) 1 (.mu (lid H 0) 0 len oc) (.int k j) = some (.loc (lid H 0) j 0) := by
  rw [c8K H _ 1 0 0 len oc k j rfl rfl h, Nat.zero_add]
theorem e9T {a : Option Blk} (h : j < len) {X : List AV} : idxV (hap H (a :: some ⟨1, X⟩ :: L)) 1 (.mu (lid H 1) 0 len oc) (.int k j) = some (.loc (lid H 1) j 0) := by
  rw [c8K H _ 1 1 0 len oc k j rfl rfl h, Nat.zero_add]
theorem fat0 (h : j < n) : atV (hap H (some ⟨1, u32s (fl n f)⟩ :: L)) (.loc (lid H 0) j 0) = some [.int .u32 (f j : Nat)] := by
  rw [d0z H _ 0 j rfl (by rw [a0x, a1g]; exact h)]
  simp only [b0o (l := fl n f) (i := j) (by rw [a1g]; exact h), b7P h, AV.cells]
theorem fst0 (h : j < n) (d : Nat) : a1L 1 (.loc (lid H 0) j 0) (.int .u32 (d : Int)) env (hap H (some ⟨1, u32s (fl n f)⟩ :: L)) = some (.top, env, hap H (some ⟨1, u32s (fl n fun i => if i = j then d else f i)⟩ :: L)) := by
  rw [a5q env H _ 1 0 j 0 _ rfl (by rw [a0x, a1g]; exact h) rfl rfl (Nat.le_refl 1)]
  simp only [a2o, c3q, List.set_cons_zero, e1U]
theorem fst1 {a : Option Blk} (h : j < n) (d : Nat) : a1L 1 (.loc (lid H 1) j 0) (.int .u32 (d : Int)) env (hap H (a :: some ⟨1, u32s (fl n f)⟩ :: L)) = some (.top, env, hap H (a :: some ⟨1, u32s (fl n fun i => if i = j then d else f i)⟩ :: L)) := by
  rw [a5q env H _ 1 1 j 0 _ rfl (by rw [a0x, a1g]; exact h) rfl rfl (Nat.le_refl 1)]
  simp only [a2o, c3q, List.set_cons_succ, List.set_cons_zero, e1U]
theorem b9i {k' : IntKind} (h : n ≤ 35184372088832) : c5z 1 4 (.int .u32 0) (.int k n) (.int k' n) env (hap H L) = some (.mu (lid H L.length) 0 n (some n), env, hap H (L ++ [some ⟨1, u32s (fl n fun _ => 0)⟩])) := by
  rw [b1N env H L k k' n h, e7j]
theorem d3R (i : Nat) : frz (lid H i) ⟨1, u32s (fl n f)⟩ (.mu (lid H i) 0 n oc) = natV (fl n f) := by
  have := a7M H i (fl n f) oc
  rwa [a1g] at this
end
end Go.Abs
namespace Go.Abs
def sumR (f : Nat → Rat) : Nat → Rat
  | 0 => 0
  | n + 1 => sumR f n + f n
theorem a1V {f g : Nat → Rat} : ∀ {n : Nat}, (∀ i, i < n → f i = g i) → sumR f n = sumR g n
  | 0, _ => rfl
  | n + 1, h => by rw [sumR, sumR, a1V fun i hi => h i (by omega), h n (by omega)]
theorem a6j (x y : Rat) (f g : Nat → Rat) : ∀ n, sumR (fun i => x * f i + y * g i) n = x * sumR f n + y * sumR g n
  | 0 => by simp only [sumR]; grind
  | n + 1 => by simp only [sumR, a6j x y f g n]; grind
theorem c4g {f : Nat → Rat} : ∀ {n : Nat}, (∀ i, i < n → f i = 0) → sumR f n = 0
  | 0, _ => rfl
  | n + 1, h => by rw [sumR, c4g fun i hi => h i (by omega), h n (by omega)]; grind
theorem c3r {f : Nat → Rat} {t : Nat} : ∀ {n : Nat}, t < n → (∀ i, i < n → i ≠ t → f i = 0) → sumR f n = f t
  | 0, h, _ => absurd h (by omega)
  | n + 1, h, h0 => by
    rw [sumR]
    by_cases e : t = n
    · subst e
      rw [c4g fun i hi => h0 i (by omega) (by omega)]; grind
    · rw [c3r (by omega) fun i hi he => h0 i (by omega) he, h0 n (by omega) (by omega)]; grind
theorem d6H {f : Nat → Rat} {t : Nat} : ∀ {n : Nat}, t + 1 < n → (∀ i, i < n → i ≠ t → i ≠ t + 1 → f i = 0) → sumR f n = f t + f (t + 1)
  | 0, h, _ => absurd h (by omega)
  | n + 1, h, h0 => by
    rw [sumR]
    by_cases e : t + 1 = n
    · subst e
      rw [c3r (t := t) (by omega) fun i hi he => h0 i (by omega) he (by omega)]
    · rw [d6H (t := t) (by omega) fun i hi h1 h2 => h0 i (by omega) h1 h2, h0 n (by omega) (by omega) (by omega)]; grind
def sg : Nat → Rat
  | 0 => 1
  | n + 1 => -sg n
def skip (i k : Nat) : Nat := if k < i then k else k + 1
def det : Nat → (Nat → Nat → Rat) → Rat
  | 0, _ => 1
  | n + 1, M => sumR (fun i => sg i * M i 0 * det n fun r c => M (skip i r) (c + 1)) (n + 1)
theorem e6j (i k : Nat) : skip i k ≠ i := by unfold skip; split <;> omega
theorem e0g {i k n : Nat} (hk : k < n) : skip i k < n + 1 := by unfold skip; split <;> omega
theorem a4E : ∀ {n : Nat} {M N : Nat → Nat → Rat}, (∀ r c, r < n → c < n → M r c = N r c) → det n M = det n N
  | 0, _, _, _ => rfl
  | n + 1, M, N, h => by
    unfold det
    refine a1V fun i hi => ?_
    rw [h i 0 hi (by omega), a4E (n := n) fun r c hr hc => h (skip i r) (c + 1) (e0g hr) (by omega)]
def a0D (M : Nat → Nat → Rat) (t : Nat) (u : Nat → Rat) : Nat → Nat → Rat := fun r c => if r = t then u c else M r c
theorem a3M (M : Nat → Nat → Rat) (t : Nat) : a0D M t (M t) = M := by
  funext r c; unfold a0D; split
  · rename_i h; rw [h]
  · rfl
/-- Row t of the part without row i. -/
def e3e (i t : Nat) : Nat := if t < i then t else t - 1
theorem d8p {i t r : Nat} (h : i ≠ t) : (skip i r = t) = (r = e3e i t) := by
  rw [eq_iff_iff]; unfold skip e3e
  split <;> split <;> omega
theorem b0s {M : Nat → Nat → Rat} {t i : Nat} {u : Nat → Rat} (h : i ≠ t) : (fun r c => a0D M t u (skip i r) (c + 1)) = a0D (fun r c => M (skip i r) (c + 1)) (e3e i t) fun c => u (c + 1) := by
  funext r c
  unfold a0D
  simp only [d8p h]
theorem a3N {M : Nat → Nat → Rat} {t : Nat} {u : Nat → Rat} : (fun r c => a0D M t u (skip t r) (c + 1)) = fun r c => M (skip t r) (c + 1) := by
  funext r c
  unfold a0D
  rw [if_neg (e6j t r)]
theorem d6n : ∀ {n : Nat} {M : Nat → Nat → Rat} {t : Nat} (x y : Rat) (u w : Nat → Rat), t < n → det n (a0D M t fun c => x * u c + y * w c) = x * det n (a0D M t u) + y * det n (a0D M t w)
  | 0, _, _, _, _, _, _, h => absurd h (by omega)
  | n + 1, M, t, x, y, u, w, h => by
    unfold det
    rw [← a6j]
    refine a1V fun i hi => ?_
    by_cases e : i = t
    · subst e
      rw [a3N, a3N, a3N]
      simp only [a0D, if_true]
      grind
    · rw [b0s e, b0s e, b0s e, d6n x y _ _ (by unfold e3e; split <;> omega)]
      simp only [a0D, if_neg e]
      grind
theorem d6o : ∀ {n : Nat} {M : Nat → Nat → Rat} {t : Nat}, t + 1 < n → (∀ c, M t c = M (t + 1) c) → det n M = 0
  | 0, _, _, h, _ => absurd h (by omega)
  | n + 1, M, t, h, he => by
    unfold det
    have hm : (fun r c => M (skip t r) (c + 1)) = fun r c => M (skip (t + 1) r) (c + 1) := by
      funext r c
      unfold skip
      by_cases h1 : r < t
      · rw [if_pos h1, if_pos (by omega)]
      · rw [if_neg h1]
        by_cases h2 : r = t
        · rw [if_pos (by omega), h2, he]
        · rw [if_neg (by omega)]
    rw [d6H (t := t) h fun i hi h1 h2 => by
      have hz : det n (fun r c => M (skip i r) (c + 1)) = 0 := by
        refine d6o (t := if i < t then t - 1 else t) (by split <;> omega) fun c => ?_
        unfold skip
        by_cases h3 : i < t
        · rw [if_pos h3, if_neg (by omega), if_neg (by omega)]
          rw [show t - 1 + 1 = t by omega]
          exact he _
        · rw [if_neg h3, if_pos (by omega), if_pos (by omega)]
          exact he _
      rw [hz]; grind]
    rw [hm, he 0]
    simp only [sg]
    grind
/-- Two rows exchanged. -/
def a0E (s t : Nat) (M : Nat → Nat → Rat) : Nat → Nat → Rat := fun r c => if r = s then M t c else if r = t then M s c else M r c
theorem a1t {M : Nat → Nat → Rat} {s t : Nat} {u w : Nat → Rat} (h : s ≠ t) : a0D (a0D M s u) t w = a0D (a0D M t w) s u := by
  funext r c; unfold a0D
  by_cases h1 : r = t
  · by_cases h2 : r = s
    · omega
    · simp [h1]; intro e; omega
  · by_cases h2 : r = s
    · simp [h2]; intro e; omega
    · simp [h1, h2]
theorem d6p {n : Nat} {M : Nat → Nat → Rat} {t : Nat} (u w : Nat → Rat) (h : t < n) : det n (a0D M t fun c => u c + w c) = det n (a0D M t u) + det n (a0D M t w) := by
  have := d6n (M := M) 1 1 u w h
  have e : (fun c => (1 : Rat) * u c + 1 * w c) = fun c => u c + w c := by funext c; grind
  rw [e] at this
  grind
/-- If equal rows give 0, exchanged ones give the negative. -/
theorem c6r {n : Nat} {M : Nat → Nat → Rat} {s t : Nat} (hst : s ≠ t) (hs : s < n) (ht : t < n) (heq : ∀ N : Nat → Nat → Rat, (∀ c, N s c = N t c) → det n N = 0) : det n (a0E s t M) = -det n M := by
  let u := M s
  let w := M t
  have A : ∀ p q : Nat → Rat, (∀ c, p c = q c) → det n (a0D (a0D M s p) t q) = 0 := fun p q h => heq _ fun c => by
    unfold a0D
    simp [hst, h c]
  have h0 := A (fun c => u c + w c) (fun c => u c + w c) fun _ => rfl
  rw [d6p _ _ ht, a1t hst, a1t hst, d6p _ _ hs, d6p _ _ hs, ← a1t hst, ← a1t hst, ← a1t hst, ← a1t hst, A u u fun _ => rfl, A w w fun _ => rfl] at h0
  have e1 : a0D (a0D M s u) t w = M := by
    show a0D (a0D M s (M s)) t (M t) = M
    rw [a3M]; exact a3M M t
  have e2 : a0D (a0D M s w) t u = a0E s t M := by
    funext r c; unfold a0D a0E
    by_cases h1 : r = s
    · subst h1; simp [hst]; rfl
    · by_cases h2 : r = t
      · subst h2; simp [h1]; rfl
      · simp [h1, h2]
  rw [e1, e2] at h0
  grind
theorem d4b {n : Nat} {M : Nat → Nat → Rat} {t : Nat} (h : t + 1 < n) : det n (a0E t (t + 1) M) = -det n M :=
  c6r (by omega) (by omega) h fun N he => d6o h he
theorem e2h : ∀ (d : Nat) {n : Nat} {M : Nat → Nat → Rat} {s : Nat}, s + d + 1 < n → (∀ c, M s c = M (s + d + 1) c) → det n M = 0
  | 0, n, M, s, h, he => d6o (t := s) h he
  | d + 1, n, M, s, h, he => by
    have hsw := d4b (M := M) (t := s + d + 1) (n := n) (by omega)
    have : det n (a0E (s + d + 1) (s + d + 1 + 1) M) = 0 := e2h d (s := s) (by omega) fun c => by
      unfold a0E
      rw [if_neg (by omega), if_neg (by omega), if_pos rfl, he c]
      rfl
    rw [this] at hsw
    grind
theorem d4c {n : Nat} {M : Nat → Nat → Rat} {s t : Nat} (hst : s ≠ t) (hs : s < n) (ht : t < n) (he : ∀ c, M s c = M t c) : det n M = 0 := by
  rcases Nat.lt_or_gt_of_ne hst with h | h
  · exact e2h (t - s - 1) (s := s) (by omega) fun c => by rw [he c]; congr 1; omega
  · exact e2h (s - t - 1) (s := t) (by omega) fun c => by rw [← he c]; congr 1; omega
theorem e4N {n : Nat} {M : Nat → Nat → Rat} {s t : Nat} (hst : s ≠ t) (hs : s < n) (ht : t < n) : det n (a0E s t M) = -det n M :=
  c6r hst hs ht fun N he => d4c hst hs ht he
/-- So many times another row added. -/
theorem d9F {n : Nat} {M : Nat → Nat → Rat} {s t : Nat} (x : Rat) (hst : s ≠ t) (hs : s < n) (ht : t < n) : det n (a0D M t fun c => M t c + x * M s c) = det n M := by
  have h := d6n (M := M) 1 x (M t) (M s) ht
  have e : (fun c => (1 : Rat) * M t c + x * M s c) = fun c => M t c + x * M s c := by funext c; grind
  rw [e, a3M] at h
  have h0 : det n (a0D M t (M s)) = 0 := d4c hst hs ht fun c => by unfold a0D; simp [hst]
  rw [h, h0]
  grind
/-- What is left behind the first row and the first column. -/
def a3F (M : Nat → Nat → Rat) : Nat → Nat → Rat := fun i k => M (i + 1) (k + 1) - M (i + 1) 0 / M 0 0 * M 0 (k + 1)
def a6E (M : Nat → Nat → Rat) (k : Nat) : Nat → Nat → Rat := fun r c => if 0 < r ∧ r ≤ k then M r c + -(M r 0 / M 0 0) * M 0 c else M r c
theorem d7C {n : Nat} (M : Nat → Nat → Rat) : ∀ k, k < n → det n (a6E M k) = det n M
  | 0, _ => by congr 1; funext r c; unfold a6E; rw [if_neg (by omega)]
  | k + 1, h => by
    rw [← d7C M k (by omega), ← d9F (M := a6E M k) (s := 0) (t := k + 1) (-(M (k + 1) 0 / M 0 0)) (by omega) (by omega) h]
    congr 1
    funext r c
    unfold a0D a6E
    by_cases e : r = k + 1
    · subst e
      rw [if_pos ⟨by omega, Nat.le_refl _⟩, if_pos rfl]
      show _ = (if 0 < k + 1 ∧ k + 1 ≤ k then _ else _) + _ * (if 0 < 0 ∧ 0 ≤ k then _ else _)
      rw [if_neg (by omega), if_neg (by omega)]
    · by_cases h2 : 0 < r ∧ r ≤ k
      · rw [if_pos ⟨h2.1, by omega⟩, if_neg e, if_pos h2]
      · rw [if_neg (by omega), if_neg e, if_neg h2]
theorem c6s {n : Nat} {M : Nat → Nat → Rat} (h : M 0 0 ≠ 0) : det (n + 1) M = M 0 0 * det n (a3F M) := by
  rw [← d7C M n (by omega)]
  rw [det, c3r (t := 0) (by omega) fun i hi h0 => by
    have : a6E M n i 0 = 0 := by
      unfold a6E
      rw [if_pos ⟨by omega, by omega⟩]
      grind
    rw [this]; grind]
  have e0 : a6E M n 0 0 = M 0 0 := by unfold a6E; rw [if_neg (by omega)]
  rw [e0]
  have : det n (fun r c => a6E M n (skip 0 r) (c + 1)) = det n (a3F M) := by
    refine a4E fun r c hr hc => ?_
    have hs : skip 0 r = r + 1 := by unfold skip; rw [if_neg (by omega)]
    rw [hs]
    unfold a6E a3F
    rw [if_pos ⟨by omega, by omega⟩]
    generalize M (r + 1) 0 / M 0 0 = x
    grind
  rw [this]
  simp only [sg]
  grind
/-- A determinant of whole numbers is whole. -/
theorem e2g : ∀ {n : Nat} {M : Nat → Nat → Rat}, (∀ r c, ∃ z : Int, M r c = z) → ∃ z : Int, det n M = z
  | 0, _, _ => ⟨1, rfl⟩
  | n + 1, M, h => by
    unfold det
    have hs : ∀ i, ∃ z : Int, sg i = z := by
      intro i
      induction i with
      | zero => exact ⟨1, rfl⟩
      | succ i ih => obtain ⟨z, hz⟩ := ih; exact ⟨-z, by rw [sg, hz, Rat.intCast_neg]⟩
    have ht : ∀ i, ∃ z : Int, sg i * M i 0 * det n (fun r c => M (skip i r) (c + 1)) = z := fun i => by
      obtain ⟨a, ha⟩ := hs i
      obtain ⟨b, hb⟩ := h i 0
      obtain ⟨c, hc⟩ := e2g (n := n) (M := fun r c => M (skip i r) (c + 1)) fun r c => h _ _
      exact ⟨a * b * c, by rw [ha, hb, hc, Rat.intCast_mul, Rat.intCast_mul]⟩
    have : ∀ k, ∃ z : Int, sumR (fun i => sg i * M i 0 * det n fun r c => M (skip i r) (c + 1)) k = z := by
      intro k
      induction k with
      | zero => exact ⟨0, rfl⟩
      | succ k ih =>
        obtain ⟨z, hz⟩ := ih
        obtain ⟨y, hy⟩ := ht k
        exact ⟨z + y, by rw [sumR, hz, hy, Rat.intCast_add]⟩
    exact this (n + 1)
end Go.Abs
namespace Go.Abs
def SS : Nat → (Nat → Nat → Rat) → Nat → Nat → Rat
  | 0, M => M
  | r + 1, M => SS r (a3F M)
def piv : Nat → (Nat → Nat → Rat) → Prop
  | 0, _ => True
  | r + 1, M => M 0 0 ≠ 0 ∧ piv r (a3F M)
theorem e2R : ∀ (r : Nat) (M : Nat → Nat → Rat), SS (r + 1) M = a3F (SS r M)
  | 0, _ => rfl
  | r + 1, M => e2R r (a3F M)
theorem b7e : ∀ (r : Nat) (M : Nat → Nat → Rat), piv (r + 1) M ↔ piv r M ∧ SS r M 0 0 ≠ 0
  | 0, M => by simp [piv, SS]
  | r + 1, M => by
    have h := b7e r (a3F M)
    show M 0 0 ≠ 0 ∧ piv (r + 1) (a3F M) ↔ (M 0 0 ≠ 0 ∧ piv r (a3F M)) ∧ SS r (a3F M) 0 0 ≠ 0
    rw [h, and_assoc]
theorem e5O : ∀ (r n : Nat) {M : Nat → Nat → Rat}, piv r M → det (r + n) M = det r M * det n (SS r M)
  | 0, n, M, _ => by simp only [Nat.zero_add, det, SS]; grind
  | r + 1, n, M, h => by
    rw [show r + 1 + n = (r + n) + 1 by omega, c6s h.1, c6s h.1, e5O r n h.2]
    show _ = M 0 0 * det r (a3F M) * det n (SS r (a3F M))
    grind
theorem e7A (M : Nat → Nat → Rat) : det 1 M = M 0 0 := by
  simp only [det, sumR, sg]; grind
theorem d1d (r : Nat) {M : Nat → Nat → Rat} (h : piv r M) : det (r + 1) M = det r M * SS r M 0 0 := by
  rw [e5O r 1 h, e7A]
theorem e5N : ∀ (r : Nat) {M : Nat → Nat → Rat}, piv r M → det r M ≠ 0
  | 0, _, _ => by simp only [det]; grind
  | r + 1, M, h => by
    have h' := (b7e r M).1 h
    rw [d1d r h'.1]
    have := e5N r h'.1
    have := h'.2
    grind
/-- What is left depends on the first rows and columns, and on its own row and column. -/
theorem c6C : ∀ (r : Nat) {M N : Nat → Nat → Rat} {i j k l : Nat}, (∀ a b, a < r → b < r → M a b = N a b) → (∀ b, b < r → M (r + i) b = N (r + j) b) → (∀ a, a < r → M a (r + k) = N a (r + l)) → M (r + i) (r + k) = N (r + j) (r + l) → SS r M i k = SS r N j l
  | 0, M, N, i, j, k, l, _, _, _, h => by simpa [SS] using h
  | r + 1, M, N, i, j, k, l, h1, h2, h3, h4 => by
    show SS r (a3F M) i k = SS r (a3F N) j l
    have e : ∀ x : Nat, r + 1 + x = r + x + 1 := fun x => by omega
    have h2' : ∀ b, b < r + 1 → M (r + i + 1) b = N (r + j + 1) b := fun b hb => by rw [← e, ← e]; exact h2 b hb
    have h3' : ∀ a, a < r + 1 → M a (r + k + 1) = N a (r + l + 1) := fun a ha => by rw [← e, ← e]; exact h3 a ha
    have h4' : M (r + i + 1) (r + k + 1) = N (r + j + 1) (r + l + 1) := by rw [← e, ← e, ← e, ← e]; exact h4
    refine c6C r (fun a b ha hb => ?_) (fun b hb => ?_) (fun a ha => ?_) ?_
    · simp only [a3F]; rw [h1 (a + 1) (b + 1) (by omega) (by omega), h1 (a + 1) 0 (by omega) (by omega), h1 0 0 (by omega) (by omega), h1 0 (b + 1) (by omega) (by omega)]
    · simp only [a3F]; rw [h2' (b + 1) (by omega), h2' 0 (by omega), h1 0 0 (by omega) (by omega), h1 0 (b + 1) (by omega) (by omega)]
    · simp only [a3F]; rw [h3' (a + 1) (by omega), h1 (a + 1) 0 (by omega) (by omega), h1 0 0 (by omega) (by omega), h3' 0 (by omega)]
    · simp only [a3F]; rw [h4', h2' 0 (by omega), h1 0 0 (by omega) (by omega), h3' 0 (by omega)]
theorem b4k : ∀ (r : Nat) {M N : Nat → Nat → Rat}, (∀ a b, a < r → b < r → M a b = N a b) → piv r M → piv r N
  | 0, _, _, _, _ => trivial
  | r + 1, M, N, h, hp => by
    rw [b7e] at hp ⊢
    refine ⟨b4k r (fun a b ha hb => h a b (by omega) (by omega)) hp.1, ?_⟩
    rw [← c6C r (M := M) (N := N) (i := 0) (j := 0) (k := 0) (l := 0) (fun a b ha hb => h a b (by omega) (by omega)) (fun b hb => h _ _ (by omega) (by omega)) (fun a ha => h _ _ (by omega) (by omega)) (h _ _ (by omega) (by omega))]
    exact hp.2
/-- The columns in their order: the heads' places first, then all. -/
def colm (cs : List Nat) (b : Nat) : Nat := if b < cs.length then cs.getD b 0 else b - cs.length
def a1c (B : Nat → Nat → Rat) (cs : List Nat) : Nat → Nat → Rat := fun a b => B a (colm cs b)
/-- Row i, as it stands when the a1c cs are done; i is not among their rows. -/
def a1p (B : Nat → Nat → Rat) (cs : List Nat) (i k : Nat) : Rat := SS cs.length (a1c B cs) (i - cs.length) k
def a4c (B : Nat → Nat → Rat) (cs : List Nat) : Rat := det cs.length (a1c B cs)
def Piv (B : Nat → Nat → Rat) (cs : List Nat) : Prop := piv cs.length (a1c B cs)
theorem c6e (B : Nat → Nat → Rat) (i k : Nat) : a1p B [] i k = B i k := by simp [a1p, SS, a1c, colm]
theorem e1u (B : Nat → Nat → Rat) : a4c B [] = 1 := rfl
theorem a3B {cs : List Nat} {c b : Nat} (h : b < cs.length) : colm (cs ++ [c]) b = colm cs b := by
  simp only [colm, List.length_append, List.length_cons, List.length_nil]
  rw [if_pos (by omega), if_pos h]
  simp [List.getD_eq_getElem?_getD, List.getElem?_append_left h]
theorem b1W {cs : List Nat} {c : Nat} : colm (cs ++ [c]) cs.length = c := by
  simp only [colm, List.length_append, List.length_cons, List.length_nil]
  rw [if_pos (by omega)]
  simp
theorem a3A (cs : List Nat) (k : Nat) : colm cs (cs.length + k) = k := by
  simp only [colm]; rw [if_neg (by omega)]; omega
theorem d7O {B : Nat → Nat → Rat} {cs : List Nat} {c : Nat} (i : Nat) : SS cs.length (a1c B (cs ++ [c])) i 0 = a1p B cs (cs.length + i) c := by
  unfold a1p
  rw [Nat.add_sub_cancel_left]
  refine c6C _ (fun a b _ hb => ?_) (fun b hb => ?_) (fun a _ => ?_) ?_
  · simp only [a1c]; rw [a3B hb]
  · simp only [a1c]; rw [a3B hb]
  · simp only [a1c]; rw [Nat.add_zero, b1W, a3A]
  · simp only [a1c]; rw [Nat.add_zero, b1W, a3A]
theorem e5U {B : Nat → Nat → Rat} {cs : List Nat} {c : Nat} (i k : Nat) : SS cs.length (a1c B (cs ++ [c])) i (k + 1) = a1p B cs (cs.length + i) k := by
  unfold a1p
  rw [Nat.add_sub_cancel_left]
  have e : colm (cs ++ [c]) (cs.length + (k + 1)) = k := by
    have := a3A (cs ++ [c]) k
    simp only [List.length_append, List.length_cons, List.length_nil] at this
    rw [show cs.length + (k + 1) = cs.length + (0 + 1) + k by omega]; exact this
  refine c6C _ (fun a b _ hb => ?_) (fun b hb => ?_) (fun a _ => ?_) ?_
  · simp only [a1c]; rw [a3B hb]
  · simp only [a1c]; rw [a3B hb]
  · simp only [a1c]; rw [e, a3A]
  · simp only [a1c]; rw [e, a3A]
theorem a1T (cs : List Nat) (c : Nat) : (cs ++ [c]).length = cs.length + 1 := by simp
/-- One more head. -/
theorem b9x (B : Nat → Nat → Rat) (cs : List Nat) (c : Nat) {i k : Nat} (hi : cs.length < i) : a1p B (cs ++ [c]) i k = a1p B cs i k - a1p B cs i c / a1p B cs cs.length c * a1p B cs cs.length k := by
  have h := e2R cs.length (a1c B (cs ++ [c]))
  have e : a1p B (cs ++ [c]) i k = a3F (SS cs.length (a1c B (cs ++ [c]))) (i - (cs.length + 1)) k := by
    unfold a1p
    rw [a1T, h]
  rw [e]
  simp only [a3F]
  rw [e5U, d7O, d7O, e5U, Nat.add_zero]
  rw [show cs.length + (i - (cs.length + 1) + 1) = i by omega]
  rfl
theorem c8T {B : Nat → Nat → Rat} {cs : List Nat} (hp : Piv B cs) (c : Nat) : a4c B (cs ++ [c]) = a4c B cs * a1p B cs cs.length c := by
  unfold a4c
  have hp' : piv cs.length (a1c B (cs ++ [c])) := b4k _ (fun a b _ hb => by simp only [a1c]; rw [a3B hb]) hp
  rw [a1T, d1d _ hp', d7O, Nat.add_zero]
  congr 1
  exact a4E fun a b _ hb => by simp only [a1c]; rw [a3B hb]
theorem d6T {B : Nat → Nat → Rat} {cs : List Nat} (hp : Piv B cs) {c : Nat} (h : a1p B cs cs.length c ≠ 0) : Piv B (cs ++ [c]) := by
  unfold Piv
  rw [a1T, b7e]
  refine ⟨b4k _ (fun a b _ hb => by simp only [a1c]; rw [a3B hb]) hp, ?_⟩
  rw [d7O, Nat.add_zero]; exact h
theorem a9e {B : Nat → Nat → Rat} {cs : List Nat} (hp : Piv B cs) : a4c B cs ≠ 0 := e5N _ hp
/-- Multiplied with the last head, what is left is whole. -/
theorem e1N {B : Nat → Nat → Rat} {cs : List Nat} (hp : Piv B cs) (hB : ∀ i k, ∃ z : Int, B i k = z) {i : Nat} (k : Nat) (hi : cs.length ≤ i) : ∃ z : Int, a4c B cs * a1p B cs i k = z := by
  let N : Nat → Nat → Rat := fun a b => B (if a = cs.length then i else a) (colm (cs ++ [k]) b)
  obtain ⟨z, hz⟩ := e2g (n := cs.length + 1) (M := N) fun r c => hB _ _
  refine ⟨z, ?_⟩
  have hN : ∀ a b, a < cs.length → b < cs.length → a1c B cs a b = N a b := fun a b ha hb => by
    simp only [N, a1c]
    rw [if_neg (by omega), a3B hb]
  rw [← hz, d1d _ (b4k _ hN hp)]
  unfold a4c a1p
  rw [a4E hN]
  congr 1
  refine c6C _ hN (fun b hb => ?_) (fun a ha => ?_) ?_
  · simp only [N, a1c]; rw [Nat.add_zero, if_pos rfl, a3B hb]
    rw [show cs.length + (i - cs.length) = i by omega]
  · simp only [N, a1c]; rw [if_neg (by omega), Nat.add_zero, b1W, a3A]
  · simp only [N, a1c]; rw [Nat.add_zero, if_pos rfl, b1W, a3A, show cs.length + (i - cs.length) = i by omega]
/-- Rows below the a1c exchanged. -/
theorem b1R {B : Nat → Nat → Rat} {cs : List Nat} {s t : Nat} (hs : cs.length ≤ s) (ht : cs.length ≤ t) {i : Nat} (k : Nat) (hi : cs.length ≤ i) : a1p (a0E s t B) cs i k = a1p B cs (if i = s then t else if i = t then s else i) k := by
  unfold a1p
  have hj : cs.length ≤ (if i = s then t else if i = t then s else i) := by split; exact ht; split; exact hs; exact hi
  generalize hj' : (if i = s then t else if i = t then s else i) = j at hj
  have hr : ∀ c, a0E s t B i c = B j c := fun c => by
    unfold a0E; rw [← hj']
    split
    · rfl
    · split <;> rfl
  refine c6C _ (fun a b ha hb => ?_) (fun b hb => ?_) (fun a ha => ?_) ?_
  · simp only [a1c, a0E]; rw [if_neg (by omega), if_neg (by omega)]
  · simp only [a1c]; rw [show cs.length + (i - cs.length) = i by omega, show cs.length + (j - cs.length) = j by omega, hr]
  · simp only [a1c, a0E]; rw [if_neg (by omega), if_neg (by omega)]
  · simp only [a1c]; rw [show cs.length + (i - cs.length) = i by omega, show cs.length + (j - cs.length) = j by omega, hr]
theorem b9t {B : Nat → Nat → Rat} {cs : List Nat} {s t : Nat} (hs : cs.length ≤ s) (ht : cs.length ≤ t) : a4c (a0E s t B) cs = a4c B cs := by
  unfold a4c
  exact a4E fun a b ha _ => by simp only [a1c, a0E]; rw [if_neg (by omega), if_neg (by omega)]
theorem d0r {B : Nat → Nat → Rat} {cs : List Nat} {s t : Nat} (hs : cs.length ≤ s) (ht : cs.length ≤ t) (hp : Piv B cs) : Piv (a0E s t B) cs := by
  unfold Piv at hp ⊢
  exact b4k _ (fun a b ha _ => by simp only [a1c, a0E]; rw [if_neg (by omega), if_neg (by omega)]) hp
end Go.Abs
namespace Go.Abs
/-- The first row from r on that has an entry there. -/
def a1w (f : Nat → Rat) (r n : Nat) : Option Nat := (List.range n).find? fun p => decide (r ≤ p) && decide (f p ≠ 0)
theorem a1P (f : Nat → Rat) (r n : Nat) : (∃ p, a1w f r n = some p ∧ r ≤ p ∧ p < n ∧ f p ≠ 0 ∧ ∀ j, r ≤ j → j < p → f j = 0) ∨ (a1w f r n = none ∧ ∀ j, r ≤ j → j < n → f j = 0) := by
  unfold a1w
  cases h : (List.range n).find? fun p => decide (r ≤ p) && decide (f p ≠ 0) with
  | none =>
    refine .inr ⟨rfl, fun j h1 h2 => ?_⟩
    rw [List.find?_eq_none] at h
    have := h j (List.mem_range.2 h2)
    simp [h1] at this
    exact this
  | some p =>
    refine .inl ⟨p, rfl, ?_⟩
    rw [List.find?_range_eq_some] at h
    obtain ⟨h1, h2, h3⟩ := h
    simp at h1
    refine ⟨h1.1, List.mem_range.1 h2, h1.2, fun j hj1 hj2 => ?_⟩
    have := h3 j hj2
    simp [hj1] at this
    exact this
structure GS where
  B : Nat → Nat → Rat
  cs : List Nat
  odd : Bool
def GS.g (s : GS) (i k : Nat) : Rat := a1p s.B s.cs i k
def GS.last (s : GS) : Rat := a4c s.B s.cs
def a4N (n : Nat) (s : GS) (c : Nat) : GS := match a1w (fun p => s.g p c) s.cs.length n with
  | none => s
  | some p => ⟨a0E p s.cs.length s.B, s.cs ++ [c], if p = s.cs.length then s.odd else !s.odd⟩
def gproc (n : Nat) (B : Nat → Nat → Rat) : Nat → GS
  | 0 => ⟨B, [], false⟩
  | c + 1 => a4N n (gproc n B c) c
structure GOk (n : Nat) (s : GS) : Prop where
  piv : Piv s.B s.cs
  len : s.cs.length ≤ n
theorem d8k (r : Nat) (M : Nat → Nat → Rat) : a0E r r M = M := by
  funext i k; unfold a0E
  split
  · rename_i h; rw [h]
  · rfl
theorem e3h {B : Nat → Nat → Rat} (h : ∀ i k, ∃ z : Int, B i k = z) (s t : Nat) : ∀ i k, ∃ z : Int, a0E s t B i k = z := by
  intro i k; unfold a0E
  split
  · exact h _ _
  · split <;> exact h _ _
theorem a2f {n c : Nat} {s : GS} (h : a1w (fun p => s.g p c) s.cs.length n = none) : a4N n s c = s := by unfold a4N; rw [h]
theorem a0T {n c p : Nat} {s : GS} (h : a1w (fun p => s.g p c) s.cs.length n = some p) : a4N n s c = ⟨a0E p s.cs.length s.B, s.cs ++ [c], if p = s.cs.length then s.odd else !s.odd⟩ := by unfold a4N; rw [h]
/-- The head as it stands behind the exchange. -/
theorem a3e {s : GS} {p : Nat} (hp : s.cs.length ≤ p) (k : Nat) : a1p (a0E p s.cs.length s.B) s.cs s.cs.length k = s.g p k := by
  rw [b1R hp (Nat.le_refl _) k (Nat.le_refl _)]
  unfold GS.g
  by_cases h : s.cs.length = p
  · rw [if_pos h, ← h]
  · rw [if_neg h, if_pos rfl]
theorem d0I {n c : Nat} {s : GS} (h : GOk n s) : GOk n (a4N n s c) := by
  rcases a1P (fun p => s.g p c) s.cs.length n with ⟨p, hf, h1, h2, h3, _⟩ | ⟨hf, _⟩
  · rw [a0T hf]
    refine ⟨d6T (d0r h1 (Nat.le_refl _) h.piv) ?_, by rw [a1T]; omega⟩
    rw [a3e h1]; exact h3
  · rw [a2f hf]; exact h
theorem a2R {n : Nat} {B : Nat → Nat → Rat} : ∀ c, GOk n (gproc n B c)
  | 0 => ⟨trivial, Nat.zero_le _⟩
  | c + 1 => d0I (a2R c)
theorem a9i {n : Nat} {B : Nat → Nat → Rat} (_hB : ∀ i k, ∃ z : Int, B i k = z) (c : Nat) : GOk n (gproc n B c) := a2R c
/-- Behind a step, for the rows below the new head. -/
theorem c9r {s : GS} {p : Nat} (hp : s.cs.length ≤ p) {i : Nat} (k c : Nat) (hi : s.cs.length < i) :
    a1p (a0E p s.cs.length s.B) (s.cs ++ [c]) i k = s.g (if i = p then s.cs.length else i) k - s.g (if i = p then s.cs.length else i) c / s.g p c * s.g p k := by
  rw [b9x _ _ _ hi, a3e hp, a3e hp, b1R hp (Nat.le_refl _) k (by omega), b1R hp (Nat.le_refl _) c (by omega)]
  unfold GS.g
  have e : (if i = p then s.cs.length else if i = s.cs.length then p else i) = if i = p then s.cs.length else i := by
    by_cases h : i = p
    · rw [if_pos h, if_pos h]
    · rw [if_neg h, if_neg h, if_neg (by omega)]
  rw [e]
theorem c4h {n : Nat} {s : GS} (h : GOk n s) {p : Nat} (hp : s.cs.length ≤ p) (c : Nat) : a4c (a0E p s.cs.length s.B) (s.cs ++ [c]) = s.last * s.g p c := by
  rw [c8T (d0r hp (Nat.le_refl _) h.piv), a3e hp, b9t hp (Nat.le_refl _)]; rfl
/-- The cross product of whole rows is a multiple of the last head: the quotient is the next row. -/
theorem d1l {n : Nat} {s : GS} (h : GOk n s) (hint : ∀ i k, ∃ z : Int, s.B i k = z) {p c i k : Nat} (hp : s.cs.length ≤ p) (hf : s.g p c ≠ 0) (hi : s.cs.length < i) {last a b x y : Int} (hl : (last : Rat) = s.last)
    (ha : (a : Rat) = s.last * s.g p c) (hb : (b : Rat) = s.last * s.g (if i = p then s.cs.length else i) k) (hx : (x : Rat) = s.last * s.g (if i = p then s.cs.length else i) c) (hy : (y : Rat) = s.last * s.g p k) :
    ∃ z : Int, a * b - x * y = last * z ∧ (z : Rat) = (s.last * s.g p c) * a1p (a0E p s.cs.length s.B) (s.cs ++ [c]) i k := by
  have hok := d0I (c := c) h
  have hpiv : Piv (a0E p s.cs.length s.B) (s.cs ++ [c]) := d6T (d0r hp (Nat.le_refl _) h.piv) (by rw [a3e hp]; exact hf)
  obtain ⟨z, hz⟩ := e1N hpiv (e3h hint _ _) k (by rw [a1T]; omega : (s.cs ++ [c]).length ≤ i)
  rw [c4h h hp] at hz
  refine ⟨z, ?_, hz.symm⟩
  have hq : ((a * b - x * y : Int) : Rat) = ((last * z : Int) : Rat) := by
    rw [Rat.intCast_sub, Rat.intCast_mul, Rat.intCast_mul, Rat.intCast_mul, ha, hb, hx, hy, hl, ← hz, c9r hp k c hi]
    have hne := a9e h.piv
    generalize s.g (if i = p then s.cs.length else i) k = u
    generalize s.g (if i = p then s.cs.length else i) c = v
    generalize s.last = l
    generalize s.g p k = w
    generalize s.g p c = t at *
    grind
  exact Rat.intCast_inj.1 hq
end Go.Abs
namespace Go.Abs
def a2n (M : Nat → Nat → Rat) (t : Nat) (u : Nat → Rat) : Nat → Nat → Rat := fun r c => if c = t then u r else M r c
theorem c6w (M : Nat → Nat → Rat) (t : Nat) : a2n M t (fun r => M r t) = M := by
  funext r c; unfold a2n; split
  · rename_i h; rw [h]
  · rfl
theorem b1w {M : Nat → Nat → Rat} {t i : Nat} {u : Nat → Rat} : (fun r c => a2n M (t + 1) u (skip i r) (c + 1)) = a2n (fun r c => M (skip i r) (c + 1)) t fun r => u (skip i r) := by
  funext r c; unfold a2n
  by_cases h : c = t
  · rw [if_pos (by omega), if_pos h]
  · rw [if_neg (by omega), if_neg h]
theorem a9s {M : Nat → Nat → Rat} {i : Nat} {u : Nat → Rat} : (fun r c => a2n M 0 u (skip i r) (c + 1)) = fun r c => M (skip i r) (c + 1) := by
  funext r c; unfold a2n; rw [if_neg (by omega)]
theorem b9B : ∀ {n : Nat} {M : Nat → Nat → Rat} {t : Nat} (x y : Rat) (u w : Nat → Rat), t < n → det n (a2n M t fun r => x * u r + y * w r) = x * det n (a2n M t u) + y * det n (a2n M t w)
  | 0, _, _, _, _, _, _, h => absurd h (by omega)
  | n + 1, M, 0, x, y, u, w, h => by
    unfold det
    rw [← a6j]
    refine a1V fun i hi => ?_
    rw [a9s, a9s, a9s]
    simp only [a2n, if_true]
    grind
  | n + 1, M, t + 1, x, y, u, w, h => by
    unfold det
    rw [← a6j]
    refine a1V fun i hi => ?_
    rw [b1w, b1w, b1w, b9B x y _ _ (by omega)]
    simp only [a2n]
    rw [if_neg (by omega), if_neg (by omega), if_neg (by omega)]
    grind
theorem b4K {n t : Nat} {M : Nat → Nat → Rat} (ht : t < n) (h : ∀ r, M r t = 0) : det n M = 0 := by
  have := b9B (n := n) (M := M) (t := t) 0 0 (fun r => M r t) (fun r => M r t) ht
  have e : (fun r => 0 * M r t + 0 * M r t) = fun r => M r t := by funext r; rw [h r]; grind
  rw [e, c6w] at this
  grind
/-- A zero column below the first row's, told for the entries that count. -/
theorem d4d {n t : Nat} {M : Nat → Nat → Rat} (ht : t < n) (h : ∀ r, r < n → M r t = 0) : det n M = 0 := by
  have e : det n M = det n (a2n M t fun _ => 0) := a4E fun r c hr _ => by
    unfold a2n; split
    · rename_i hc; rw [hc, h r hr]
    · rfl
  rw [e]
  exact b4K ht fun r => by unfold a2n; rw [if_pos rfl]
theorem d9D {n t : Nat} {M : Nat → Nat → Rat} (ht : t < n) (h : ∀ r, M r 0 = M r (t + 1)) : det (n + 1) M = 0 := by
  have key : ∀ N : Nat → Nat → Rat, (∀ r, N r 0 = N r (t + 1)) → N 0 0 ≠ 0 → det (n + 1) N = 0 := by
    intro N hN h0
    rw [c6s h0, b4K (n := n) (t := t) ht (M := a3F N) fun r => by
      unfold a3F
      rw [← hN, ← hN]
      grind]
    grind
  by_cases hz : ∀ r, r < n + 1 → M r 0 = 0
  · exact d4d (t := 0) (by omega) hz
  · have : ∃ p, p < n + 1 ∧ M p 0 ≠ 0 := Classical.byContradiction fun hc => hz fun r hr => Classical.byContradiction fun h1 => hc ⟨r, hr, h1⟩
    obtain ⟨p, hp, hp0⟩ := this
    by_cases h0 : p = 0
    · subst h0; exact key M h hp0
    · have hs := e4N (M := M) (s := 0) (t := p) (Ne.symm h0) (by omega) hp
      have hk := key (a0E 0 p M) (fun r => by
        unfold a0E
        split
        · exact h p
        · split
          · exact h 0
          · exact h r) (by unfold a0E; rw [if_pos rfl]; exact hp0)
      rw [hk] at hs
      grind
theorem c6t : ∀ (s : Nat) {n t : Nat} {M : Nat → Nat → Rat}, s + t + 1 < n → (∀ r, M r s = M r (s + t + 1)) → det n M = 0
  | s, 0, t, M, h, _ => absurd h (by omega)
  | 0, n + 1, t, M, h, he => d9D (t := t) (by omega) fun r => by have := he r; rwa [Nat.zero_add] at this
  | s + 1, n + 1, t, M, h, he => by
    unfold det
    refine c4g fun i hi => ?_
    rw [c6t s (t := t) (by omega) fun r => by
      have := he (skip i r)
      rwa [show s + 1 + t + 1 = s + t + 1 + 1 by omega] at this]
    grind
theorem d9E {n s t : Nat} {M : Nat → Nat → Rat} (hs : s < n) (ht : t < n) (hst : s ≠ t) (he : ∀ r, M r s = M r t) : det n M = 0 := by
  rcases Nat.lt_or_gt_of_ne hst with h | h
  · exact c6t s (t := t - s - 1) (by omega) fun r => by rw [show s + (t - s - 1) + 1 = t by omega]; exact he r
  · exact c6t t (t := s - t - 1) (by omega) fun r => by rw [show t + (s - t - 1) + 1 = s by omega]; exact (he r).symm
/-- Cramer's rule. -/
theorem e5Q {n i : Nat} {A : Nat → Nat → Rat} (x : Nat → Rat) (hi : i < n) : ∀ m, m ≤ n → det n (a2n A i fun r => sumR (fun j => A r j * x j) m) = if i < m then x i * det n A else 0
  | 0, _ => by
    rw [if_neg (by omega)]
    exact b4K hi fun r => by unfold a2n; rw [if_pos rfl]; rfl
  | m + 1, h => by
    have hl := b9B (M := A) 1 (x m) (fun r => sumR (fun j => A r j * x j) m) (fun r => A r m) hi
    have e : (fun r => (1 : Rat) * sumR (fun j => A r j * x j) m + x m * A r m) = fun r => sumR (fun j => A r j * x j) (m + 1) := by
      funext r; simp only [sumR]; grind
    rw [e, e5Q x hi m (by omega)] at hl
    rw [hl]
    by_cases him : i = m
    · subst him
      rw [if_neg (by omega), if_pos (by omega), c6w]
      grind
    · have h0 : det n (a2n A i fun r => A r m) = 0 := d9E hi (show m < n by omega) him fun r => by
        unfold a2n
        rw [if_pos rfl, if_neg (Ne.symm him)]
      rw [h0]
      by_cases h1 : i < m
      · rw [if_pos h1, if_pos (by omega)]; grind
      · rw [if_neg h1, if_neg (by omega)]; grind
theorem b8A : ∀ {n e : Nat} {M : Nat → Nat → Rat}, n ≤ LB → (∀ r c, r < n → c < n → ∃ z : Int, M r c = z ∧ z.natAbs ≤ LB ^ e) → ∃ z : Int, det n M = z ∧ z.natAbs ≤ LB ^ (n * (e + 1))
  | 0, e, _, _, _ => ⟨1, rfl, by simp⟩
  | n + 1, e, M, hn, h => by
    unfold det
    have hs : ∀ i, ∃ z : Int, sg i = z ∧ z.natAbs = 1 := by
      intro i
      induction i with
      | zero => exact ⟨1, rfl, rfl⟩
      | succ i ih => obtain ⟨z, hz, ha⟩ := ih; exact ⟨-z, by rw [sg, hz, Rat.intCast_neg], by rw [Int.natAbs_neg]; exact ha⟩
    have ht : ∀ i, i < n + 1 → ∃ z : Int, sg i * M i 0 * det n (fun r c => M (skip i r) (c + 1)) = z ∧ z.natAbs ≤ LB ^ e * LB ^ (n * (e + 1)) := fun i hi => by
      obtain ⟨a, ha, ha1⟩ := hs i
      obtain ⟨b, hb, hb1⟩ := h i 0 hi (by omega)
      obtain ⟨c, hc, hc1⟩ := b8A (n := n) (e := e) (M := fun r c => M (skip i r) (c + 1)) (by omega) fun r c hr hc => h _ _ (e0g hr) (by omega)
      refine ⟨a * b * c, by rw [ha, hb, hc, Rat.intCast_mul, Rat.intCast_mul], ?_⟩
      rw [Int.natAbs_mul, Int.natAbs_mul, ha1, Nat.one_mul]
      exact Nat.mul_le_mul hb1 hc1
    have : ∀ k, k ≤ n + 1 → ∃ z : Int, sumR (fun i => sg i * M i 0 * det n fun r c => M (skip i r) (c + 1)) k = z ∧ z.natAbs ≤ k * (LB ^ e * LB ^ (n * (e + 1))) := by
      intro k
      induction k with
      | zero => exact fun _ => ⟨0, rfl, by simp⟩
      | succ k ih =>
        intro hk
        obtain ⟨z, hz, hz1⟩ := ih (by omega)
        obtain ⟨y, hy, hy1⟩ := ht k (by omega)
        refine ⟨z + y, by rw [sumR, hz, hy, Rat.intCast_add], ?_⟩
        have := Int.natAbs_add_le z y
        rw [Nat.add_mul, Nat.one_mul]
        omega
    obtain ⟨z, hz, hz1⟩ := this (n + 1) (Nat.le_refl _)
    refine ⟨z, hz, Nat.le_trans hz1 ?_⟩
    rw [show (n + 1) * (e + 1) = 1 + (e + n * (e + 1)) by rw [Nat.add_mul]; omega, Nat.pow_add, Nat.pow_add, Nat.pow_one]
    exact Nat.mul_le_mul_right _ hn
end Go.Abs
namespace Go.Abs
structure JS where
  s : GS
  M : Nat → Nat → Rat
def JS.r (j : JS) : Nat := j.s.cs.length
/-- Row r by its entry at c; the others without it. -/
def jel (r c : Nat) (M : Nat → Nat → Rat) : Nat → Nat → Rat := fun i k => if i = r then M r k / M r c else M i k - M i c * (M r k / M r c)
def b9u (n : Nat) (j : JS) (c : Nat) : JS := match a1w (fun p => j.s.g p c) j.s.cs.length n with
  | none => j
  | some p => ⟨a4N n j.s c, jel j.s.cs.length c (a0E p j.s.cs.length j.M)⟩
def a0m (n : Nat) (B : Nat → Nat → Rat) : Nat → JS
  | 0 => ⟨⟨B, [], false⟩, B⟩
  | c + 1 => b9u n (a0m n B c) c
theorem e6S (n : Nat) (j : JS) (c : Nat) : (b9u n j c).s = a4N n j.s c := by
  unfold b9u
  cases h : a1w (fun p => j.s.g p c) j.s.cs.length n with
  | none => rw [a2f h]
  | some p => rfl
theorem a0M (n : Nat) (B : Nat → Nat → Rat) : ∀ c, (a0m n B c).s = gproc n B c
  | 0 => rfl
  | c + 1 => by rw [a0m, e6S, a0M n B c]; rfl
theorem a7J {n c : Nat} {j : JS} (h : a1w (fun p => j.s.g p c) j.s.cs.length n = none) : b9u n j c = j := by unfold b9u; rw [h]
theorem a7I {n c p : Nat} {j : JS} (h : a1w (fun p => j.s.g p c) j.s.cs.length n = some p) : b9u n j c = ⟨⟨a0E p j.s.cs.length j.s.B, j.s.cs ++ [c], if p = j.s.cs.length then j.s.odd else !j.s.odd⟩, jel j.s.cs.length c (a0E p j.s.cs.length j.M)⟩ := by
  have : b9u n j c = ⟨a4N n j.s c, jel j.s.cs.length c (a0E p j.s.cs.length j.M)⟩ := by unfold b9u; rw [h]
  rw [this, a0T h]
structure JOk (n : Nat) (j : JS) : Prop where
  g : GOk n j.s
  low : ∀ i k, j.s.cs.length ≤ i → j.M i k = j.s.g i k
  up : ∀ a k, j.s.B a k = sumR (fun i => j.s.B a (j.s.cs.getD i 0) * j.M i k) j.s.cs.length + if j.s.cs.length ≤ a then j.M a k else 0
theorem e3i (s t : Nat) (M : Nat → Nat → Rat) (a : Nat) : ∃ b, (∀ N : Nat → Nat → Rat, ∀ k, a0E s t N a k = N b k) ∧ ((s ≤ a ∨ t ≤ a) → True) ∧ (b = if a = s then t else if a = t then s else a) := by
  refine ⟨if a = s then t else if a = t then s else a, fun N k => ?_, fun _ => trivial, rfl⟩
  unfold a0E
  split
  · rfl
  · split <;> rfl
theorem e4o {n c : Nat} {j : JS} (h : JOk n j) : JOk n (b9u n j c) := by
  rcases a1P (fun p => j.s.g p c) j.s.cs.length n with ⟨p, hf, h1, h2, h3, _⟩ | ⟨hf, _⟩
  · have hg := d0I (c := c) h.g
    rw [a0T hf] at hg
    rw [a7I hf]
    have hlow : ∀ i k, j.s.cs.length ≤ i → a0E p j.s.cs.length j.M i k = j.s.g (if i = p then j.s.cs.length else if i = j.s.cs.length then p else i) k := by
      intro i k hi
      unfold a0E
      split
      · exact h.low _ _ (Nat.le_refl _)
      · split
        · exact h.low _ _ h1
        · exact h.low _ _ hi
    have hr : ∀ k, a0E p j.s.cs.length j.M j.s.cs.length k = j.s.g p k := by
      intro k
      rw [hlow _ _ (Nat.le_refl _)]
      by_cases e : j.s.cs.length = p
      · rw [if_pos e, e]
      · rw [if_neg e, if_pos rfl]
    refine ⟨hg, fun i k hi => ?_, fun a k => ?_⟩
    · simp only [a1T] at hi
      show jel _ c _ i k = a1p (a0E p j.s.cs.length j.s.B) (j.s.cs ++ [c]) i k
      unfold jel
      rw [if_neg (by omega), c9r h1 k c (by omega), hr, hr, hlow _ _ (by omega), hlow _ _ (by omega)]
      have e : (if i = p then j.s.cs.length else if i = j.s.cs.length then p else i) = if i = p then j.s.cs.length else i := by
        by_cases h : i = p
        · rw [if_pos h, if_pos h]
        · rw [if_neg h, if_neg h, if_neg (by omega)]
      rw [e]
      generalize j.s.g (if i = p then j.s.cs.length else i) k = u
      generalize j.s.g (if i = p then j.s.cs.length else i) c = v
      generalize j.s.g p k = w
      generalize j.s.g p c = t at *
      grind
    · -- the rows are made of those above
      show a0E p j.s.cs.length j.s.B a k = sumR (fun i => a0E p j.s.cs.length j.s.B a ((j.s.cs ++ [c]).getD i 0) * jel j.s.cs.length c (a0E p j.s.cs.length j.M) i k) (j.s.cs ++ [c]).length +
        if (j.s.cs ++ [c]).length ≤ a then jel j.s.cs.length c (a0E p j.s.cs.length j.M) a k else 0
      rw [a1T]
      obtain ⟨b, hb, _, hbe⟩ := e3i p j.s.cs.length j.s.B a
      have hba : (j.s.cs.length ≤ a) = (j.s.cs.length ≤ b) := by
        rw [hbe, eq_iff_iff]
        split
        · constructor <;> intro _ <;> omega
        · split
          · constructor <;> intro _ <;> omega
          · exact Iff.rfl
      have hinv : ∀ k, a0E p j.s.cs.length j.s.B a k = sumR (fun i => a0E p j.s.cs.length j.s.B a (j.s.cs.getD i 0) * j.M i k) j.s.cs.length + if j.s.cs.length ≤ a then a0E p j.s.cs.length j.M a k else 0 := by
        intro k
        simp only [hb, hba]
        exact h.up b k
      have hq0 : a0E p j.s.cs.length j.M j.s.cs.length c ≠ 0 := by rw [hr]; exact h3
      have hold : ∀ i, i < j.s.cs.length → ∀ k, a0E p j.s.cs.length j.M i k = j.M i k := by
        intro i hi k; unfold a0E; rw [if_neg (by omega), if_neg (by omega)]
      generalize hB : a0E p j.s.cs.length j.s.B = B' at *
      generalize hM : a0E p j.s.cs.length j.M = M0 at *
      generalize hq : M0 j.s.cs.length k / M0 j.s.cs.length c = q
      rw [sumR]
      have hs : sumR (fun i => B' a ((j.s.cs ++ [c]).getD i 0) * jel j.s.cs.length c M0 i k) j.s.cs.length = 1 * sumR (fun i => B' a (j.s.cs.getD i 0) * j.M i k) j.s.cs.length + (-q) * sumR (fun i => B' a (j.s.cs.getD i 0) * j.M i c) j.s.cs.length := by
        rw [← a6j]
        refine a1V fun i hi => ?_
        have e : (j.s.cs ++ [c]).getD i 0 = j.s.cs.getD i 0 := by
          simp [List.getD_eq_getElem?_getD, List.getElem?_append_left hi]
        rw [e]
        unfold jel
        rw [if_neg (by omega), hq, hold i hi, hold i hi]
        grind
      rw [hs]
      have e2 : (j.s.cs ++ [c]).getD j.s.cs.length 0 = c := by simp [List.getD_eq_getElem?_getD]
      rw [e2]
      have e3 : jel j.s.cs.length c M0 j.s.cs.length k = q := by unfold jel; rw [if_pos rfl, hq]
      rw [e3]
      have i1 := hinv k
      have i2 := hinv c
      by_cases ha : j.s.cs.length ≤ a
      · rw [if_pos ha] at i1 i2
        by_cases ha2 : j.s.cs.length + 1 ≤ a
        · rw [if_pos ha2]
          have e4 : jel j.s.cs.length c M0 a k = M0 a k - M0 a c * q := by unfold jel; rw [if_neg (by omega), hq]
          rw [e4]
          grind
        · rw [if_neg ha2]
          have : a = j.s.cs.length := by omega
          subst this
          have e5 : q * M0 j.s.cs.length c = M0 j.s.cs.length k := by rw [← hq]; exact Rat.div_mul_cancel hq0
          grind
      · rw [if_neg ha] at i1 i2
        rw [if_neg (by omega)]
        grind
  · rw [a7J hf]; exact h
theorem c5X {n : Nat} {B : Nat → Nat → Rat} : ∀ c, JOk n (a0m n B c)
  | 0 => ⟨⟨trivial, Nat.zero_le _⟩, fun i k _ => by simp [a0m, GS.g, c6e], fun a k => by simp only [a0m, sumR, List.length_nil, Nat.zero_le, if_true]; grind⟩
  | c + 1 => e4o (c5X c)
theorem b1P {n : Nat} {B : Nat → Nat → Rat} (_hB : ∀ i k, ∃ z : Int, B i k = z) (c : Nat) : JOk n (a0m n B c) := c5X c
def Bd (e : Nat) (B : Nat → Nat → Rat) : Prop := ∀ i k, ∃ z : Int, B i k = z ∧ z.natAbs ≤ LB ^ e
theorem Bd.swap {e : Nat} {B : Nat → Nat → Rat} (h : Bd e B) (s t : Nat) : Bd e (a0E s t B) := by
  intro i k; unfold a0E
  split
  · exact h _ _
  · split <;> exact h _ _
theorem Bd.gproc {e n : Nat} {B : Nat → Nat → Rat} (h : Bd e B) : ∀ c, Bd e (gproc n B c).B
  | 0 => h
  | c + 1 => by
    have ih := Bd.gproc (n := n) h c
    show Bd e (a4N n (Abs.gproc n B c) c).B
    unfold a4N
    cases a1w (fun p => (Abs.gproc n B c).g p c) (Abs.gproc n B c).cs.length n with
    | none => exact ih
    | some p => exact ih.swap _ _
theorem d5V {e : Nat} {B : Nat → Nat → Rat} (hB : Bd e B) (cs : List Nat) (hn : cs.length ≤ LB) : ∃ z : Int, a4c B cs = z ∧ z.natAbs ≤ LB ^ (cs.length * (e + 1)) :=
  b8A hn fun _ _ _ _ => hB _ _
/-- What is left, times the last head, is a determinant. -/
theorem c6f {e : Nat} {B : Nat → Nat → Rat} {cs : List Nat} (hp : Piv B cs) (hB : Bd e B) (hn : cs.length + 1 ≤ LB) {i : Nat} (k : Nat) (hi : cs.length ≤ i) : ∃ z : Int, a4c B cs * a1p B cs i k = z ∧ z.natAbs ≤ LB ^ ((cs.length + 1) * (e + 1)) := by
  let N : Nat → Nat → Rat := fun a b => B (if a = cs.length then i else a) (colm (cs ++ [k]) b)
  obtain ⟨z, hz, hz1⟩ := b8A (n := cs.length + 1) (e := e) (M := N) hn fun r c _ _ => hB _ _
  refine ⟨z, ?_, hz1⟩
  have hN : ∀ a b, a < cs.length → b < cs.length → a1c B cs a b = N a b := fun a b ha hb => by
    simp only [N, a1c]
    rw [if_neg (by omega), a3B hb]
  rw [← hz, d1d _ (b4k _ hN hp)]
  unfold a4c a1p
  rw [a4E hN]
  congr 1
  refine c6C _ hN (fun b hb => ?_) (fun a ha => ?_) ?_
  · simp only [N, a1c]; rw [Nat.add_zero, if_pos rfl, a3B hb]
    rw [show cs.length + (i - cs.length) = i by omega]
  · simp only [N, a1c]; rw [if_neg (by omega), Nat.add_zero, b1W, a3A]
  · simp only [N, a1c]; rw [Nat.add_zero, if_pos rfl, b1W, a3A, show cs.length + (i - cs.length) = i by omega]
/-- An entry above, times the last head, is a determinant. -/
theorem d4J {e n : Nat} {j : JS} (h : JOk n j) (hB : Bd e j.s.B) (hn : j.s.cs.length ≤ LB) {i : Nat} (k : Nat) (hi : i < j.s.cs.length) : ∃ z : Int, a4c j.s.B j.s.cs * j.M i k = z ∧ z.natAbs ≤ LB ^ (j.s.cs.length * (e + 1)) := by
  obtain ⟨z, hz, hz1⟩ := b8A (n := j.s.cs.length) (e := e) (M := a2n (a1c j.s.B j.s.cs) i fun a => j.s.B a k) hn fun r c _ _ => by
    unfold a2n; split
    · exact hB _ _
    · exact hB _ _
  refine ⟨z, ?_, hz1⟩
  have hc := e5Q (A := a1c j.s.B j.s.cs) (fun t => j.M t k) hi j.s.cs.length (Nat.le_refl _)
  rw [if_pos hi] at hc
  have e1 : det j.s.cs.length (a2n (a1c j.s.B j.s.cs) i fun r => sumR (fun t => a1c j.s.B j.s.cs r t * j.M t k) j.s.cs.length) = det j.s.cs.length (a2n (a1c j.s.B j.s.cs) i fun a => j.s.B a k) := by
    refine a4E fun a b ha hb => ?_
    unfold a2n
    split
    · show sumR (fun t => a1c j.s.B j.s.cs a t * j.M t k) j.s.cs.length = j.s.B a k
      rw [h.up a k, if_neg (by omega)]
      rw [a1V (g := fun t => j.s.B a (j.s.cs.getD t 0) * j.M t k) fun t ht => by
        simp only [a1c, colm]; rw [if_pos ht]]
      grind
    · rfl
  rw [e1] at hc
  unfold a4c
  rw [← hz, hc]
  grind
theorem b7b {l z : Int} {q : Rat} (hl : (l : Rat) ≠ 0) (h : (l : Rat) * q = z) : q.num.natAbs ≤ z.natAbs ∧ q.den ≤ l.natAbs := by
  have hl' : l ≠ 0 := fun e => hl (by rw [e]; rfl)
  have e : q = Rat.divInt z l := by
    rw [Rat.divInt_eq_div, ← h]
    generalize (l : Rat) = x at *
    grind
  constructor
  · rw [e, Rat.num_divInt, Int.natAbs_ediv_of_dvd]
    · rw [Int.natAbs_mul, Int.natAbs_sign_of_ne_zero hl', Nat.one_mul]
      exact Nat.div_le_self _ _
    · exact Int.dvd_mul_of_dvd_right (Int.gcd_dvd_right ..)
  · rw [e, Rat.den_divInt, if_neg hl']
    exact Nat.div_le_self _ _
def KB (e : Nat) : Nat := 65 * (e + 1)
theorem lbm {a b : Nat} (h : a ≤ b) : LB ^ a ≤ LB ^ b := Nat.pow_le_pow_right (by decide) h
theorem c3z {e n : Nat} {j : JS} (h : JOk n j) (hn : j.s.cs.length ≤ 64) (hB : Bd e j.s.B) : ∃ z : Int, a4c j.s.B j.s.cs = z ∧ z.natAbs ≤ LB ^ KB e := by
  have hl := h.g.len
  obtain ⟨z, hz, hz1⟩ := d5V hB j.s.cs (by have : LB = 4294967296 := rfl; omega)
  exact ⟨z, hz, Nat.le_trans hz1 (lbm (Nat.mul_le_mul_right _ (by omega)))⟩
theorem d0S {e n : Nat} {j : JS} (h : JOk n j) (hn : j.s.cs.length ≤ 64) (hB : Bd e j.s.B) (i k : Nat) : ∃ z : Int, a4c j.s.B j.s.cs * j.M i k = z ∧ z.natAbs ≤ LB ^ KB e := by
  have hl := h.g.len
  have hLB : LB = 4294967296 := rfl
  rcases Nat.lt_or_ge i j.s.cs.length with hi | hi
  · obtain ⟨z, hz, hz1⟩ := d4J (n := n) h hB (by omega) k hi
    exact ⟨z, hz, Nat.le_trans hz1 (lbm (Nat.mul_le_mul_right _ (by omega)))⟩
  · obtain ⟨z, hz, hz1⟩ := c6f h.g.piv hB (by omega) k hi
    rw [h.low i k hi]
    exact ⟨z, hz, Nat.le_trans hz1 (lbm (Nat.mul_le_mul_right _ (by omega)))⟩
/-- The fractions' sizes. -/
theorem d9z {e n : Nat} {j : JS} (h : JOk n j) (hn : j.s.cs.length ≤ 64) (hB : Bd e j.s.B) (i k : Nat) : (j.M i k).num.natAbs ≤ LB ^ KB e ∧ (j.M i k).den ≤ LB ^ KB e := by
  obtain ⟨l, hl, hl1⟩ := c3z h hn hB
  obtain ⟨z, hz, hz1⟩ := d0S h hn hB i k
  have h0 : (l : Rat) ≠ 0 := by rw [← hl]; exact a9e h.g.piv
  rw [hl] at hz
  obtain ⟨q1, q2⟩ := b7b h0 hz
  exact ⟨Nat.le_trans q1 hz1, Nat.le_trans q2 hl1⟩
end Go.Abs
namespace Go.Abs
def dv (n : Nat) (B : Nat → Nat → Rat) (t : Nat) : Rat := if (gproc n B t).cs.length = t then (if (gproc n B t).odd then -(gproc n B t).last else (gproc n B t).last) else 0
theorem b7M (n : Nat) (B : Nat → Nat → Rat) : ∀ t, (gproc n B t).cs.length ≤ t
  | 0 => Nat.le_refl _
  | t + 1 => by
    have ih := b7M n B t
    show (a4N n (gproc n B t) t).cs.length ≤ t + 1
    unfold a4N
    cases a1w (fun p => (gproc n B t).g p t) (gproc n B t).cs.length n with
    | none => exact Nat.le_succ_of_le ih
    | some p => simp only [a1T]; omega
theorem d6j (n : Nat) (B : Nat → Nat → Rat) : dv n B 0 = 1 := by
  simp [dv, gproc, GS.last, a4c, det]
section
variable {n : Nat} {B : Nat → Nat → Rat} {t : Nat}
theorem d6k (h : a1w (fun p => (gproc n B t).g p t) (gproc n B t).cs.length n = none) : dv n B (t + 1) = 0 := by
  have e : gproc n B (t + 1) = gproc n B t := a2f h
  have := b7M n B t
  unfold dv
  rw [e, if_neg (by omega)]
theorem d1b {p : Nat} (h : a1w (fun p => (gproc n B t).g p t) (gproc n B t).cs.length n = some p) (hp : (gproc n B t).cs.length ≤ p) :
    dv n B (t + 1) = (if p = (gproc n B t).cs.length then dv n B t else -dv n B t) * (gproc n B t).g p t := by
  have hok := a2R (n := n) (B := B) t
  have e : gproc n B (t + 1) = _ := a0T h
  unfold dv
  rw [e]
  simp only [a1T, GS.last]
  rw [c4h hok hp]
  unfold GS.last
  generalize a4c (gproc n B t).B (gproc n B t).cs = l
  generalize (gproc n B t).g p t = x
  generalize (gproc n B t).odd = o
  by_cases h1 : (gproc n B t).cs.length = t
  · rw [if_pos (by omega), if_pos h1]
    by_cases h2 : p = (gproc n B t).cs.length
    · rw [if_pos h2, if_pos h2]
      cases o <;> simp <;> grind
    · rw [if_neg h2, if_neg h2]
      cases o <;> simp <;> grind
  · rw [if_neg (by omega), if_neg h1]
    split <;> grind
end
theorem e1V {e n : Nat} {B : Nat → Nat → Rat} (hB : Bd e B) (t : Nat) (hn : n ≤ 64 ∨ t ≤ 64) : (gproc n B t).cs.length ≤ 64 := by
  have h1 := (a9i (n := n) (fun i k => by obtain ⟨z, h, _⟩ := hB i k; exact ⟨z, h⟩) t).len
  have h2 := b7M n B t
  omega
theorem b3s {e n : Nat} {B : Nat → Nat → Rat} (hB : Bd e B) (t : Nat) (hn : n ≤ 64 ∨ t ≤ 64) : ∃ z : Int, (gproc n B t).last = z ∧ z.natAbs ≤ LB ^ KB e := by
  have hi : ∀ i k, ∃ z : Int, B i k = z := fun i k => by obtain ⟨z, h, _⟩ := hB i k; exact ⟨z, h⟩
  have := c3z (e := e) (b1P (n := n) hi t) (by rw [a0M]; exact e1V hB t hn) (by rw [a0M]; exact hB.gproc t)
  rwa [a0M] at this
theorem e9q {e n : Nat} {B : Nat → Nat → Rat} (hB : Bd e B) (t : Nat) (hn : n ≤ 64 ∨ t ≤ 64) : ∃ z : Int, dv n B t = z ∧ z.natAbs ≤ LB ^ KB e := by
  obtain ⟨z, hz, hz1⟩ := b3s hB t hn
  unfold dv
  split
  · split
    · exact ⟨-z, by rw [hz, Rat.intCast_neg], by rw [Int.natAbs_neg]; exact hz1⟩
    · exact ⟨z, hz, hz1⟩
  · exact ⟨0, rfl, by simp⟩
theorem e5V {e n : Nat} {B : Nat → Nat → Rat} (hB : Bd e B) (t i k : Nat) (hn : n ≤ 64 ∨ t ≤ 64) : ((a0m n B t).M i k).num.natAbs ≤ LB ^ KB e ∧ ((a0m n B t).M i k).den ≤ LB ^ KB e := by
  have hi : ∀ i k, ∃ z : Int, B i k = z := fun i k => by obtain ⟨z, h, _⟩ := hB i k; exact ⟨z, h⟩
  exact d9z (b1P (n := n) hi t) (by rw [a0M]; exact e1V hB t hn) (by rw [a0M]; exact hB.gproc t) i k
end Go.Abs
namespace Go.Abs
/-- Row a as it stands: times the last head that was taken off it. -/
def Zg (s : GS) (a b : Nat) : Rat := a4c s.B (s.cs.take a) * a1p s.B (s.cs.take a) a b
theorem e2O {s : GS} {a : Nat} (b : Nat) (h : s.cs.length ≤ a) : Zg s a b = s.last * s.g a b := by
  unfold Zg; rw [List.take_of_length_le h]; rfl
theorem d9s {B : Nat → Nat → Rat} {cs : List Nat} {m a b : Nat} (hb : b < (cs.take m).length) : a1c B (cs.take m) a b = a1c B cs a b := by
  rw [List.length_take] at hb
  simp only [a1c, colm]
  rw [if_pos (by rw [List.length_take]; exact hb), if_pos (by omega)]
  congr 1
  simp [List.getD_eq_getElem?_getD, List.getElem?_take]
  rw [if_pos (by omega)]
theorem c3v {B : Nat → Nat → Rat} : ∀ (m : Nat) {cs : List Nat}, Piv B cs → Piv B (cs.take m) := by
  intro m cs h
  have key : ∀ k, piv (k + (cs.take m).length) (a1c B cs) → piv (cs.take m).length (a1c B cs) := by
    intro k
    induction k with
    | zero => intro h; rwa [Nat.zero_add] at h
    | succ k ih => intro h; rw [show k + 1 + (cs.take m).length = (k + (cs.take m).length) + 1 by omega, b7e] at h; exact ih h.1
  have h1 := key (cs.length - (cs.take m).length) (by
    have : cs.length - (cs.take m).length + (cs.take m).length = cs.length := by rw [List.length_take]; omega
    rw [this]; exact h)
  exact b4k _ (fun a b _ hb => (d9s hb).symm) h1
/-- Processed columns are empty below the a1c. -/
theorem d7q {n : Nat} {B : Nat → Nat → Rat} (hB : ∀ i k, ∃ z : Int, B i k = z) : ∀ t a b, (gproc n B t).cs.length ≤ a → a < n → b < t → (gproc n B t).g a b = 0
  | 0, _, _, _, _, h => absurd h (by omega)
  | t + 1, a, b, ha, han, hb => by
    have ih := d7q (n := n) hB t
    rcases a1P (fun p => (gproc n B t).g p t) (gproc n B t).cs.length n with ⟨p, hf, h1, h2, h3, _⟩ | ⟨hf, h4⟩
    · have e : gproc n B (t + 1) = _ := a0T hf
      rw [e] at ha ⊢
      simp only [a1T] at ha
      show a1p (a0E p (gproc n B t).cs.length (gproc n B t).B) ((gproc n B t).cs ++ [t]) a b = 0
      rw [c9r h1 b t (by omega)]
      have hj : (if a = p then (gproc n B t).cs.length else a) < n := by split <;> omega
      have hj2 : (gproc n B t).cs.length ≤ (if a = p then (gproc n B t).cs.length else a) := by split <;> omega
      generalize (if a = p then (gproc n B t).cs.length else a) = i at *
      by_cases hbt : b = t
      · subst hbt
        generalize (gproc n B b).g i b = u
        generalize (gproc n B b).g p b = v at *
        grind
      · rw [ih i b hj2 hj (by omega), ih p b h1 h2 (by omega)]
        grind
    · have e : gproc n B (t + 1) = _ := a2f hf
      rw [e] at ha ⊢
      by_cases hbt : b = t
      · subst hbt; exact h4 a ha han
      · exact ih a b ha han (by omega)
section
variable {n t p : Nat} {B : Nat → Nat → Rat} (hB : ∀ i k, ∃ z : Int, B i k = z) (hf : a1w (fun p => (gproc n B t).g p t) (gproc n B t).cs.length n = some p) (hp : (gproc n B t).cs.length ≤ p)
include hf hp
theorem e5v {a : Nat} (b : Nat) (ha : a < (gproc n B t).cs.length) : Zg (gproc n B (t + 1)) a b = Zg (gproc n B t) a b := by
  have e : gproc n B (t + 1) = _ := a0T hf
  rw [e]
  unfold Zg
  simp only
  have ht : ((gproc n B t).cs ++ [t]).take a = (gproc n B t).cs.take a := by rw [List.take_append_of_le_length (by omega)]
  have hl : ((gproc n B t).cs.take a).length = a := by rw [List.length_take]; omega
  rw [ht, b9t (by omega) (by omega), b1R (by omega) (by omega) b (by omega), if_neg (by omega), if_neg (by omega)]
theorem e7U (b : Nat) : Zg (gproc n B (t + 1)) (gproc n B t).cs.length b = (gproc n B t).last * (gproc n B t).g p b := by
  have e : gproc n B (t + 1) = _ := a0T hf
  rw [e]
  unfold Zg
  simp only
  rw [List.take_append_of_le_length (Nat.le_refl _), List.take_length, b9t hp (Nat.le_refl _), a3e hp]; rfl
omit hp in
theorem d7N {a : Nat} (b : Nat) (ha : (gproc n B t).cs.length < a) : Zg (gproc n B (t + 1)) a b = (gproc n B (t + 1)).last * (gproc n B (t + 1)).g a b := by
  have e : gproc n B (t + 1) = _ := a0T hf
  exact e2O b (by rw [e]; simp only [a1T]; omega)
theorem e1t (h : GOk n (gproc n B t)) : (gproc n B (t + 1)).last = (gproc n B t).last * (gproc n B t).g p t := by
  have e : gproc n B (t + 1) = _ := a0T hf
  rw [e]
  exact c4h h hp t
end
theorem e5u {e n : Nat} {B : Nat → Nat → Rat} (hB : Bd e B) (hn : n ≤ 64) (t : Nat) {a : Nat} (b : Nat) (ha : a < n) : ∃ z : Int, Zg (gproc n B t) a b = z ∧ z.natAbs ≤ LB ^ KB e := by
  have hi : ∀ i k, ∃ z : Int, B i k = z := fun i k => by obtain ⟨z, h, _⟩ := hB i k; exact ⟨z, h⟩
  have hok := a9i (n := n) hi t
  have hl : ((gproc n B t).cs.take a).length ≤ a := by rw [List.length_take]; omega
  have hLB : LB = 4294967296 := rfl
  obtain ⟨z, hz, hz1⟩ := c6f (c3v a hok.piv) (hB.gproc t) (by omega) (i := a) b hl
  exact ⟨z, hz, Nat.le_trans hz1 (lbm (Nat.mul_le_mul_right _ (by omega)))⟩
end Go.Abs
namespace Go.Abs
def a1v (w : Nat → Int) : Nat → Nat
  | 0 => 0
  | n + 1 => Int.gcd (a1v w n) (w n)
/-- The sign of the first entry that is not 0. -/
def sgF (w : Nat → Int) : Nat → Int
  | 0 => 1
  | n + 1 => if (∀ i, i < n → w i = 0) ∧ w n < 0 then -1 else sgF w n
def a1d (w : Nat → Int) (c : Nat) (i : Nat) : Int := w i / (sgF w c * (a1v w c : Int))
theorem c6d {w v : Nat → Int} : ∀ {n : Nat}, (∀ i, i < n → w i = v i) → a1v w n = a1v v n
  | 0, _ => rfl
  | n + 1, h => by rw [a1v, a1v, c6d fun i hi => h i (by omega), h n (by omega)]
theorem a7q {w v : Nat → Int} : ∀ {n : Nat}, (∀ i, i < n → w i = v i) → sgF w n = sgF v n
  | 0, _ => rfl
  | n + 1, h => by
    have e : (∀ i, i < n → w i = 0) = (∀ i, i < n → v i = 0) := by
      rw [eq_iff_iff]
      exact ⟨fun q i hi => by rw [← h i (by omega)]; exact q i hi, fun q i hi => by rw [h i (by omega)]; exact q i hi⟩
    unfold sgF
    rw [a7q fun i hi => h i (by omega), h n (by omega)]
    simp only [e]
theorem c7q (w : Nat → Int) : ∀ n, sgF w n = 1 ∨ sgF w n = -1
  | 0 => .inl rfl
  | n + 1 => by
    unfold sgF; split
    · exact .inr rfl
    · exact c7q w n
theorem c6c (w : Nat → Int) : ∀ {n i : Nat}, i < n → (a1v w n : Int) ∣ w i
  | 0, _, h => absurd h (by omega)
  | n + 1, i, h => by
    rw [a1v]
    by_cases e : i = n
    · subst e; exact Int.gcd_dvd_right ..
    · exact Int.dvd_trans (Int.gcd_dvd_left ..) (c6c w (by omega))
theorem a7L {w : Nat → Int} : ∀ {n : Nat}, a1v w n = 0 ↔ ∀ i, i < n → w i = 0
  | 0 => ⟨fun _ i h => absurd h (by omega), fun _ => rfl⟩
  | n + 1 => by
    rw [a1v, Int.gcd_eq_zero_iff]
    constructor
    · rintro ⟨h1, h2⟩ i hi
      by_cases e : i = n
      · subst e; exact h2
      · exact (a7L (n := n)).1 (by omega) i (by omega)
    · intro h
      exact ⟨by rw [(a7L (n := n)).2 fun i hi => h i (by omega)]; rfl, h n (by omega)⟩
theorem c8Z (a : Int) (w : Nat → Int) : ∀ n, a1v (fun i => a * w i) n = a.natAbs * a1v w n
  | 0 => rfl
  | n + 1 => by
    rw [a1v, a1v, c8Z a w n]
    rw [Int.gcd, Int.gcd, Int.natAbs_mul, Int.natAbs_natCast, Int.natAbs_natCast, Nat.gcd_mul_left]
theorem d0J {w : Nat → Int} {M : Nat} (hM : 0 < M) : ∀ {n : Nat}, (∀ i, i < n → (w i).natAbs < M) → a1v w n < M
  | 0, _ => hM
  | n + 1, h => by
    rw [a1v, Int.gcd, Int.natAbs_natCast]
    have h1 := d0J hM (n := n) fun i hi => h i (by omega)
    rcases Nat.eq_zero_or_pos (a1v w n) with h0 | h0
    · rw [h0, Nat.gcd_zero_left]; exact h n (by omega)
    · exact Nat.lt_of_le_of_lt (Nat.gcd_le_left _ h0) h1
theorem c9u {a : Int} (ha : a ≠ 0) {w : Nat → Int} : ∀ {n : Nat}, (∃ i, i < n ∧ w i ≠ 0) → sgF (fun i => a * w i) n = a.sign * sgF w n
  | 0, h => by obtain ⟨i, hi, _⟩ := h; omega
  | n + 1, h => by
    have e : (∀ i, i < n → a * w i = 0) = (∀ i, i < n → w i = 0) := by
      rw [eq_iff_iff]
      exact ⟨fun q i hi => by rcases Int.mul_eq_zero.1 (q i hi) with h | h; exact absurd h ha; exact h, fun q i hi => by rw [q i hi, Int.mul_zero]⟩
    by_cases h0 : ∀ i, i < n → w i = 0
    · have hn : w n ≠ 0 := by
        obtain ⟨i, hi, hw⟩ := h
        by_cases e : i = n
        · subst e; exact hw
        · exact absurd (h0 i (by omega)) hw
      have hs0 : ∀ (v : Nat → Int) (m : Nat), (∀ i, i < m → v i = 0) → sgF v m = 1 := by
        intro v m
        induction m with
        | zero => intro _; rfl
        | succ m ih => intro hv; unfold sgF; rw [if_neg (by intro h; have := h.2; rw [hv m (by omega)] at this; omega)]; exact ih fun i hi => hv i (by omega)
      unfold sgF
      rw [hs0 w n h0, hs0 (fun i => a * w i) n fun i hi => by rw [h0 i hi, Int.mul_zero]]
      simp only [e]
      rcases Int.lt_or_gt_of_ne ha with ha' | ha'
      · rw [Int.sign_eq_neg_one_of_neg ha']
        rcases Int.lt_or_gt_of_ne hn with hn' | hn'
        · rw [if_neg (by intro h; have := h.2; have := Int.mul_pos_of_neg_of_neg ha' hn'; omega), if_pos ⟨h0, hn'⟩]; rfl
        · rw [if_pos ⟨h0, Int.mul_neg_of_neg_of_pos ha' hn'⟩, if_neg (by intro h; have := h.2; omega)]; rfl
      · rw [Int.sign_eq_one_of_pos ha', Int.one_mul]
        rcases Int.lt_or_gt_of_ne hn with hn' | hn'
        · rw [if_pos ⟨h0, Int.mul_neg_of_pos_of_neg ha' hn'⟩, if_pos ⟨h0, hn'⟩]
        · rw [if_neg (by intro h; have := h.2; have := Int.mul_pos ha' hn'; omega), if_neg (by intro h; have := h.2; omega)]
    · have hex : ∃ i, i < n ∧ w i ≠ 0 := Classical.byContradiction fun hc => h0 fun i hi => Classical.byContradiction fun h1 => hc ⟨i, hi, h1⟩
      unfold sgF
      simp only [e]
      rw [if_neg (fun h => h0 h.1), if_neg (fun h => h0 h.1), c9u ha hex]
def Nz (w : Nat → Int) (c : Nat) : Prop := ∃ i, i < c ∧ w i ≠ 0
theorem d7p {w : Nat → Int} {c : Nat} (h : Nz w c) : a1v w c ≠ 0 := fun h0 => by
  obtain ⟨i, hi, hw⟩ := h
  exact hw (a7L.1 h0 i hi)
theorem e3n {w : Nat → Int} {c : Nat} (h : Nz w c) : sgF w c * (a1v w c : Int) ≠ 0 := by
  have := d7p h
  exact Int.mul_ne_zero (by rcases c7q w c with h | h <;> omega) (by omega)
/-- A multiple of what is left. -/
theorem a4s {w : Nat → Int} {c i : Nat} (hi : i < c) : w i = (sgF w c * (a1v w c : Int)) * a1d w c i := by
  obtain ⟨q, hq⟩ := c6c w hi
  unfold a1d
  rcases Nat.eq_zero_or_pos (a1v w c) with h0 | h0
  · rw [h0] at hq; rw [h0]; simp at hq ⊢; exact hq
  · have hd : (sgF w c * (a1v w c : Int)) ∣ w i := by
      rcases c7q w c with h | h
      · rw [h, Int.one_mul]; exact ⟨q, hq⟩
      · rw [h]; exact ⟨-q, by rw [hq, Int.neg_mul, Int.one_mul, Int.neg_mul_neg]⟩
    rw [Int.mul_ediv_cancel' hd]
theorem d3c {a : Int} (ha : a ≠ 0) {w : Nat → Int} {c : Nat} (h : Nz w c) {i : Nat} (hi : i < c) : a1d (fun i => a * w i) c i = a1d w c i := by
  have h1 := a4s (w := w) hi
  have hne := e3n h
  unfold a1d
  rw [c9u ha h, c8Z]
  have e : a.sign * sgF w c * ((a.natAbs * a1v w c : Nat) : Int) = a * (sgF w c * (a1v w c : Int)) := by
    rw [Int.natCast_mul]
    have key : ∀ t s m g : Int, t * s * (m * g) = t * m * (s * g) := by
      intro t s m g; rw [Int.mul_assoc, Int.mul_assoc, Int.mul_left_comm s m g]
    rw [key, Int.sign_mul_natAbs a]
  rw [e]
  show a * w i / _ = w i / _
  generalize a1d w c i = p at *
  generalize sgF w c * (a1v w c : Int) = x at *
  rw [h1, ← Int.mul_assoc, Int.mul_ediv_cancel_left _ (Int.mul_ne_zero ha hne), Int.mul_ediv_cancel_left _ hne]
theorem b8T {w v : Nat → Int} {c : Nat} (h : ∀ i, i < c → w i = v i) {i : Nat} (hi : i < c) : a1d w c i = a1d v c i := by
  unfold a1d; rw [c6d h, a7q h, h i hi]
/-- Parallel vectors have one such. -/
theorem d0q {a b : Int} (ha : a ≠ 0) (hb : b ≠ 0) {w v : Nat → Int} {c : Nat} (hw : Nz w c) (h : ∀ i, i < c → a * w i = b * v i) {i : Nat} (hi : i < c) : a1d w c i = a1d v c i := by
  have hv : Nz v c := by
    obtain ⟨j, hj, hw⟩ := hw
    refine ⟨j, hj, fun h0 => ?_⟩
    have := h j hj
    rw [h0, Int.mul_zero] at this
    rcases Int.mul_eq_zero.1 this with h | h
    · exact ha h
    · exact hw h
  rw [← d3c ha hw hi, ← d3c hb hv hi]
  exact b8T h hi
theorem e6F {w : Nat → Int} {c : Nat} (h : Nz w c) : Nz (a1d w c) c := by
  obtain ⟨j, hj, hw⟩ := h
  refine ⟨j, hj, fun h0 => hw ?_⟩
  rw [a4s (w := w) hj, h0, Int.mul_zero]
theorem d3d {w : Nat → Int} {c : Nat} (h : Nz w c) {i : Nat} (hi : i < c) : a1d (a1d w c) c i = a1d w c i := by
  have hne := e3n h
  refine d0q (a := sgF w c * (a1v w c : Int)) (b := 1) hne (by decide) (e6F h) (fun j hj => ?_) hi
  rw [Int.one_mul]; exact (a4s hj).symm
theorem b7d {w : Nat → Int} {c i : Nat} (hi : i < c) : (a1d w c i).natAbs ≤ (w i).natAbs := by
  rcases Nat.eq_zero_or_pos (a1v w c) with h0 | h0
  · unfold a1d; rw [h0]; simp
  · have h1 := a4s (w := w) hi
    have h2 := congrArg Int.natAbs h1
    rw [Int.natAbs_mul] at h2
    rw [h2]
    refine Nat.le_mul_of_pos_left _ ?_
    have : sgF w c * (a1v w c : Int) ≠ 0 := Int.mul_ne_zero (by rcases c7q w c with h | h <;> omega) (by omega)
    omega
/-- Without the divisor, then upright. -/
theorem e6E {w : Nat → Int} {c i : Nat} (hi : i < c) : a1d w c i = sgF w c * (w i / (a1v w c : Int)) := by
  have h1 := a4s (w := w) hi
  rcases Nat.eq_zero_or_pos (a1v w c) with h0 | h0
  · unfold a1d; rw [h0]; simp
  · have hg : (a1v w c : Int) ≠ 0 := by omega
    conv => rhs; rw [h1]
    generalize a1d w c i = p
    rcases c7q w c with h | h
    · rw [h, Int.one_mul, Int.one_mul, Int.mul_ediv_cancel_left _ hg]
    · rw [h]
      have : (-1 * (a1v w c : Int)) * p = (a1v w c : Int) * (-p) := by rw [Int.neg_mul, Int.one_mul, Int.neg_mul, Int.mul_neg]
      rw [this, Int.mul_ediv_cancel_left _ hg]; omega
theorem e6p {w : Nat → Int} {c : Nat} : sgF (fun i => w i / (a1v w c : Int)) c = sgF w c := by
  rcases Nat.eq_zero_or_pos (a1v w c) with h0 | h0
  · rw [h0]
    refine a7q fun i hi => ?_
    rw [a7L.1 h0 i hi]; simp
  · by_cases hz : ∃ i, i < c ∧ w i ≠ 0
    · have hd : ∀ i, i < c → (a1v w c : Int) * (w i / (a1v w c : Int)) = w i := fun i hi => Int.mul_ediv_cancel' (c6c w hi)
      have hnz : ∃ i, i < c ∧ w i / (a1v w c : Int) ≠ 0 := by
        obtain ⟨i, hi, hw⟩ := hz
        exact ⟨i, hi, fun h => hw (by rw [← hd i hi, h, Int.mul_zero])⟩
      have := c9u (a := (a1v w c : Int)) (by omega) hnz
      rw [a7q (v := w) hd, Int.sign_eq_one_of_pos (by omega), Int.one_mul] at this
      exact this.symm
    · refine a7q fun i hi => ?_
      have : w i = 0 := Classical.byContradiction fun h => hz ⟨i, hi, h⟩
      rw [this]; simp
theorem c4k {w : Nat → Int} : ∀ {c i : Nat}, i < c → w i ≠ 0 → (∀ j, j < i → w j = 0) → sgF w c = if w i < 0 then -1 else 1
  | 0, _, h, _, _ => absurd h (by omega)
  | n + 1, i, hi, h0, h => by
    unfold sgF
    by_cases e : i = n
    · subst e
      have h1 : sgF w i = 1 := by
        have : ∀ m, m ≤ i → sgF w m = 1 := by
          intro m
          induction m with
          | zero => intro _; rfl
          | succ m ih => intro hm; unfold sgF; rw [if_neg (by intro q; have := q.2; rw [h m (by omega)] at this; omega)]; exact ih (by omega)
        exact this i (Nat.le_refl _)
      rw [h1]
      by_cases hn : w i < 0
      · rw [if_pos ⟨h, hn⟩, if_pos hn]
      · rw [if_neg (fun q => hn q.2), if_neg hn]
    · rw [if_neg (fun q => h0 (q.1 i (by omega)))]
      exact c4k (by omega) h0 h
end Go.Abs
namespace Go.Abs
def InS (j : JS) (v : Nat → Rat) : Prop := ∀ k, v k = sumR (fun i => v (j.s.cs.getD i 0) * j.M i k) j.s.cs.length
theorem e1B {j : JS} {u w : Nat → Rat} (hu : InS j u) (hw : InS j w) (a b : Rat) : InS j (fun k => a * u k + b * w k) := by
  intro k
  show a * u k + b * w k = _
  rw [hu k, hw k, ← a6j]
  refine a1V fun i _ => ?_
  show _ = (a * u (j.s.cs.getD i 0) + b * w (j.s.cs.getD i 0)) * j.M i k
  grind
theorem b8J {cs : List Nat} {m : Nat} (h : m < cs.length) : cs.take (m + 1) = cs.take m ++ [cs.getD m 0] := by
  rw [List.take_succ_eq_append_getElem h, List.getD_eq_getElem?_getD, List.getElem?_eq_getElem h]; rfl
section
variable {n : Nat} {j : JS} (h : JOk n j)
include h
theorem e8A {a : Nat} (ha : a < j.s.cs.length) : InS j (fun k => j.s.B a k) := by
  intro k
  have := h.up a k
  rw [if_neg (by omega)] at this
  show j.s.B a k = _
  rw [this]
  grind
theorem d0K : ∀ m i, m ≤ i → i < j.s.cs.length → InS j (fun k => a1p j.s.B (j.s.cs.take m) i k)
  | 0, i, _, hi => by
    have := e8A h hi
    intro k
    have := this k
    simp only [List.take_zero, c6e] at this ⊢
    exact this
  | m + 1, i, hm, hi => by
    have h1 := d0K m i (by omega) hi
    have h2 := d0K m m (Nat.le_refl m) (by omega)
    have hl : (j.s.cs.take m).length = m := by rw [List.length_take]; omega
    have hc := e1B h1 h2 1 (-(a1p j.s.B (j.s.cs.take m) i (j.s.cs.getD m 0) / a1p j.s.B (j.s.cs.take m) m (j.s.cs.getD m 0)))
    have e : (fun k => a1p j.s.B (j.s.cs.take (m + 1)) i k) = fun k => 1 * a1p j.s.B (j.s.cs.take m) i k + -(a1p j.s.B (j.s.cs.take m) i (j.s.cs.getD m 0) / a1p j.s.B (j.s.cs.take m) m (j.s.cs.getD m 0)) * a1p j.s.B (j.s.cs.take m) m k := by
      funext k
      rw [b8J (by omega), b9x _ _ _ (by rw [hl]; omega), hl]
      grind
    rw [e]; exact hc
theorem d6S {a : Nat} (ha : a < j.s.cs.length) : a1p j.s.B (j.s.cs.take a) a (j.s.cs.getD a 0) ≠ 0 := by
  have h1 := a9e (c3v (a + 1) h.g.piv)
  have hl : (j.s.cs.take a).length = a := by rw [List.length_take]; omega
  rw [b8J ha, c8T (c3v a h.g.piv), hl] at h1
  intro h0
  rw [h0] at h1
  exact h1 (by grind)
theorem b9z : ∀ m i t, m ≤ i → i < j.s.cs.length → t < m → a1p j.s.B (j.s.cs.take m) i (j.s.cs.getD t 0) = 0
  | 0, _, _, _, _, ht => absurd ht (by omega)
  | m + 1, i, t, hm, hi, ht => by
    have hl : (j.s.cs.take m).length = m := by rw [List.length_take]; omega
    rw [b8J (by omega), b9x _ _ _ (by rw [hl]; omega), hl]
    by_cases e : t = m
    · subst e
      have hp := d6S h (a := t) (by omega)
      generalize a1p j.s.B (j.s.cs.take t) t (j.s.cs.getD t 0) = p at *
      generalize a1p j.s.B (j.s.cs.take t) i (j.s.cs.getD t 0) = q
      grind
    · rw [b9z m i t (by omega) hi (by omega), b9z m m t (Nat.le_refl m) (by omega) (by omega)]
      grind
theorem e9V {a : Nat} (ha : a < j.s.cs.length) : InS j (fun k => Zg j.s a k) := by
  have h1 := d0K h a a (Nat.le_refl a) ha
  have := e1B h1 h1 (a4c j.s.B (j.s.cs.take a)) 0
  have e : (fun k => Zg j.s a k) = fun k => a4c j.s.B (j.s.cs.take a) * a1p j.s.B (j.s.cs.take a) a k + 0 * a1p j.s.B (j.s.cs.take a) a k := by
    funext k; unfold Zg; grind
  rw [e]; exact this
theorem e5t {a t : Nat} (ha : a < j.s.cs.length) (ht : t < a) : Zg j.s a (j.s.cs.getD t 0) = 0 := by
  unfold Zg; rw [b9z h a a t (Nat.le_refl a) ha ht]; grind
theorem e5s {a : Nat} (ha : a < j.s.cs.length) : Zg j.s a (j.s.cs.getD a 0) ≠ 0 := by
  unfold Zg
  have h1 := d6S h ha
  have h2 := a9e (c3v a h.g.piv)
  generalize a1p j.s.B (j.s.cs.take a) a (j.s.cs.getD a 0) = x at *
  generalize a4c j.s.B (j.s.cs.take a) = y at *
  grind
end
/-- The a1c are columns that were gone through. -/
theorem e7C {n : Nat} {B : Nat → Nat → Rat} : ∀ t c, c ∈ (gproc n B t).cs → c < t
  | 0, _, h => by simp [gproc] at h
  | t + 1, c, h => by
    have h' : c ∈ (a4N n (gproc n B t) t).cs := h
    unfold a4N at h'
    cases hf : a1w (fun p => (gproc n B t).g p t) (gproc n B t).cs.length n with
    | none => rw [hf] at h'; exact Nat.lt_succ_of_lt (e7C t c h')
    | some p =>
      rw [hf] at h'
      rcases List.mem_append.1 h' with h | h
      · exact Nat.lt_succ_of_lt (e7C t c h)
      · simp at h; omega
theorem a2M {n : Nat} {B : Nat → Nat → Rat} {t i : Nat} (h : i < (gproc n B t).cs.length) : (gproc n B t).cs.getD i 0 < t := by
  refine e7C (n := n) (B := B) t _ ?_
  rw [List.getD_eq_getElem?_getD, List.getElem?_eq_getElem h]
  exact List.getElem_mem h
end Go.Abs
namespace Go.Abs
structure Alt (n : Nat) (F : (Nat → Nat → Rat) → Rat) : Prop where
  congr : ∀ M N, (∀ r c, r < n → c < n → M r c = N r c) → F M = F N
  eq0 : ∀ M s t, s ≠ t → s < n → t < n → (∀ c, M s c = M t c) → F M = 0
  lin : ∀ M t (x y : Rat) (u w : Nat → Rat), t < n → F (a0D M t fun c => x * u c + y * w c) = x * F (a0D M t u) + y * F (a0D M t w)
section
variable {n : Nat} {F : (Nat → Nat → Rat) → Rat} (h : Alt n F)
include h
theorem Alt.add {M : Nat → Nat → Rat} {t : Nat} (u w : Nat → Rat) (ht : t < n) : F (a0D M t fun c => u c + w c) = F (a0D M t u) + F (a0D M t w) := by
  have := h.lin M t 1 1 u w ht
  have e : (fun c => (1 : Rat) * u c + 1 * w c) = fun c => u c + w c := by funext c; grind
  rw [e] at this
  grind
theorem Alt.swap {M : Nat → Nat → Rat} {s t : Nat} (hst : s ≠ t) (hs : s < n) (ht : t < n) : F (a0E s t M) = -F M := by
  let u := M s
  let w := M t
  have A : ∀ p q : Nat → Rat, (∀ c, p c = q c) → F (a0D (a0D M s p) t q) = 0 := fun p q hpq => h.eq0 _ s t hst hs ht fun c => by
    unfold a0D
    simp [hst, hpq c]
  have h0 := A (fun c => u c + w c) (fun c => u c + w c) fun _ => rfl
  rw [h.add _ _ ht, a1t hst, a1t hst, h.add _ _ hs, h.add _ _ hs, ← a1t hst, ← a1t hst, ← a1t hst, ← a1t hst, A u u fun _ => rfl, A w w fun _ => rfl] at h0
  have e1 : a0D (a0D M s u) t w = M := by
    show a0D (a0D M s (M s)) t (M t) = M
    rw [a3M]; exact a3M M t
  have e2 : a0D (a0D M s w) t u = a0E s t M := by
    funext r c; unfold a0D a0E
    by_cases h1 : r = s
    · subst h1; simp [hst]; rfl
    · by_cases h2 : r = t
      · subst h2; simp [h1]; rfl
      · simp [h1, h2]
  rw [e1, e2] at h0
  grind
theorem Alt.addrow {M : Nat → Nat → Rat} {s t : Nat} (x : Rat) (hst : s ≠ t) (hs : s < n) (ht : t < n) : F (a0D M t fun c => M t c + x * M s c) = F M := by
  have h1 := h.lin M t 1 x (M t) (M s) ht
  have e : (fun c => (1 : Rat) * M t c + x * M s c) = fun c => M t c + x * M s c := by funext c; grind
  rw [e, a3M] at h1
  have h0 : F (a0D M t (M s)) = 0 := h.eq0 _ s t hst hs ht fun c => by unfold a0D; simp [hst]
  rw [h1, h0]
  grind
theorem Alt.elim (M : Nat → Nat → Rat) : ∀ k, k < n → F (a6E M k) = F M
  | 0, _ => by congr 1; funext r c; unfold a6E; rw [if_neg (by omega)]
  | k + 1, hk => by
    rw [← Alt.elim M k (by omega), ← h.addrow (M := a6E M k) (s := 0) (t := k + 1) (-(M (k + 1) 0 / M 0 0)) (by omega) (by omega) hk]
    congr 1
    funext r c
    unfold a0D a6E
    by_cases e : r = k + 1
    · subst e
      rw [if_pos ⟨by omega, Nat.le_refl _⟩, if_pos rfl]
      show _ = (if 0 < k + 1 ∧ k + 1 ≤ k then _ else _) + _ * (if 0 < 0 ∧ 0 ≤ k then _ else _)
      rw [if_neg (by omega), if_neg (by omega)]
    · by_cases h2 : 0 < r ∧ r ≤ k
      · rw [if_pos ⟨h2.1, by omega⟩, if_neg e, if_pos h2]
      · rw [if_neg (by omega), if_neg e, if_neg h2]
end
end Go.Abs

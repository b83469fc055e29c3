/- Part 3 of the proof of ElimGoes: A14, A15, A16, A17, A19, A22, A23, A24, M1, D1, D2, D3, D4, D5, D6, D9, D10, D11, L1, L2, L3, L4, L5, L6, L7, L8, L9, L10, L11. -/
import Derived.Test.YtkljokmnimblnaaElimGoesK2
set_option linter.unusedVariables false
set_option linter.unusedSimpArgs false
set_option linter.defProp false
namespace Go.Abs
section
variable (P : Program) (n0 : Nat) (K : Env → Heap → Prop) (env : Env) (H : Heap)
theorem d7a : dops P n0 [] K env H = K env H := rfl
theorem d4j (d : Option Nat) (o : AOp) (l : List AIns) : dops P n0 (⟨d, none, o⟩ :: l) K env H = b2H P n0 o d (dops P n0 l K) env H := rfl
theorem d4i (d : Option Nat) (t : Nat) (want : Bool) (o : AOp) (l : List AIns) :
    dops P n0 (⟨d, some (t, want), o⟩ :: l) K env H = b0S want (look env t) fun c => if c = want then b2H P n0 o d (dops P n0 l K) env H else dops P n0 l K (put d (.tup []) env) H := rfl
theorem d9T (o : POp) (d : Option Nat) : b2H P n0 (.p o) d K env H = b8v (pv o env H) fun v => K (put d v env) H := rfl
theorem d9U (o : EOp) (d : Option Nat) : b2H P n0 (.e o) d K env H = b7o (ev n0 o env H) fun v env' H' => K (put d v env') H' := rfl
/-- A call in a drawn region. -/
def dcall (P : Program) (f : FuncId) (args : List AV) (H : Heap) (K : AV → Prop) : Prop := ∃ r, (∀ L, a0o P f args (H ++ L) fun r' H' => r' = r ∧ H' = H ++ L) ∧ K r
def dres (K : Env → Heap → Prop) (d : Option Nat) (env : Env) (H : Heap) : AV → Prop := fun r => K (put d r env) H
theorem d9W (d : Option Nat) (r : AV) : dres K d env H r = K (put d r env) H := rfl
theorem d1A (f : FuncId) (args : List Src) (d : Option Nat) : b2H P n0 (.call f args) d K env H = dcall P f (args.map (·.ev env)) H (dres K d env H) := rfl
def c6k (P : Program) (g : AV) (args : List AV) (H : Heap) (K : AV → Prop) : Prop := match g with
  | .fn f caps => dcall P f (args ++ caps) H K
  | _ => False
theorem c8h (g : Src) (args : List Src) (d : Option Nat) : b2H P n0 (.callv g args) d K env H = c6k P (g.ev env) (args.map (·.ev env)) H (dres K d env H) := by
  simp only [b2H, c6k]; split <;> simp_all [dcall, dres]
theorem d4t (f : FuncId) (caps args : List AV) (K : AV → Prop) : c6k P (.fn f caps) args H K = dcall P f (args ++ caps) H K := rfl
end
@[congr] theorem e0G {P : Program} {n0 : Nat} {l : List AIns} {K : Env → Heap → Prop} {env env' : Env} {H H' : Heap} (h : env = env') (h' : H = H') : dops P n0 l K env H = dops P n0 l K env' H' := by rw [h, h']
@[congr] theorem d9V {P : Program} {n0 : Nat} {o : AOp} {d : Option Nat} {K : Env → Heap → Prop} {env env' : Env} {H H' : Heap} (h : env = env') (h' : H = H') : b2H P n0 o d K env H = b2H P n0 o d K env' H' := by rw [h, h']
@[congr] theorem d9Z {P : Program} {f : FuncId} {as as' : List AV} {H H' : Heap} {K : AV → Prop} (h : as = as') (h' : H = H') : dcall P f as H K = dcall P f as' H' K := by rw [h, h']
@[congr] theorem d8h {P : Program} {g g' : AV} {as as' : List AV} {H H' : Heap} {K : AV → Prop} (h : g = g') (h2 : as = as') (h' : H = H') : c6k P g as H K = c6k P g' as' H' K := by rw [h, h2, h']
theorem a0f.acall {P : Program} {f : FuncId} {args : List AV} {H : Heap} {r : AV} {R : AV → Heap → Prop} (h : a0f P f args r) (k : R r H) : a0o P f args H R :=
  (h H).mono fun r' H' ⟨h1, h2⟩ => by subst h1; subst h2; exact k
theorem a0f.dcall {P : Program} {f : FuncId} {args : List AV} {H : Heap} {r : AV} {K : AV → Prop} (h : a0f P f args r) (k : K r) : dcall P f args H K := ⟨r, fun L => h (H ++ L), k⟩
theorem c0w {a : AV} (h : Cl a) : clb a = true := d4z.2 h
theorem a1o {id : Nat} {a : AV} (h : Cl a) : nref id a = true := a0x.2 h.ref
theorem e0g (k : IntKind) (n : Int) : clb (.int k n) = true := c0w (.int k n)
theorem d7h (b : Bool) : clb (.bool b) = true := c0w (.bool b)
theorem e0e (s : ByteArray) : clb (.str s) = true := c0w (.str s)
theorem e0f : clb .nil = true := c0w .nil
theorem d5T (id : Nat) : nref id .top = true := a1o .top
theorem d5Y (id : Nat) (k : IntKind) (n : Int) : nref id (.int k n) = true := a1o (.int k n)
theorem d2Q (id : Nat) (b : Bool) : nref id (.bool b) = true := a1o (.bool b)
theorem d5U (id : Nat) (s : ByteArray) : nref id (.str s) = true := a1o (.str s)
theorem d5V (id : Nat) : nref id .nil = true := a1o .nil
theorem d5X (id : Nat) (v : Value) : nref id (.lit v) = true := a1o (.lit v)
theorem d9c (id wd : Nat) (xs : List AV) : nref id (.sl wd xs) = true := a0x.2 (.sl wd xs)
theorem d9d (id off : Nat) (x : AV) : nref id (.ro x off) = true := a0x.2 (.ro x off)
theorem d5Z (id : Nat) (cs : List AV) : nref id (.agg cs) = cs.all (nref id) := by
  rw [Bool.eq_iff_iff, a0x, List.all_eq_true]
  constructor
  · intro h c hc; cases h with | agg _ h => exact a0x.2 (h c hc)
  · intro h; exact .agg _ fun c hc => a0x.1 (h c hc)
theorem d5S (id : Nat) (cs : List AV) : nref id (.tup cs) = cs.all (nref id) := by
  rw [Bool.eq_iff_iff, a0x, List.all_eq_true]
  constructor
  · intro h c hc; cases h with | tup _ h => exact a0x.2 (h c hc)
  · intro h; exact .tup _ fun c hc => a0x.1 (h c hc)
theorem d9f (id : Nat) (f : FuncId) (cs : List AV) : nref id (.fn f cs) = cs.all (nref id) := by
  rw [Bool.eq_iff_iff, a0x, List.all_eq_true]
  constructor
  · intro h c hc; cases h with | fn _ _ h => exact a0x.2 (h c hc)
  · intro h; exact .fn _ _ fun c hc => a0x.1 (h c hc)
theorem d9e (H : Heap) (i j off len : Nat) (oc : Option Nat) : nref (lid H i) (.mu (lid H j) off len oc) = decide (j ≠ i) := by
  rw [Bool.eq_iff_iff, a0x, decide_eq_true_eq]
  constructor
  · intro h; cases h with | mu _ _ _ _ h => intro e; exact h (by rw [e])
  · intro h; exact .mu _ _ _ _ (by simp only [lid]; omega)
theorem d5W (H : Heap) (i j k off : Nat) : nref (lid H i) (.loc (lid H j) k off) = decide (j ≠ i) := by
  rw [Bool.eq_iff_iff, a0x, decide_eq_true_eq]
  constructor
  · intro h; cases h with | loc _ _ _ h => intro e; exact h (by rw [e])
  · intro h; exact .loc _ _ _ (by simp only [lid]; omega)
theorem d2w (id : Nat) : scrub id [] = [] := rfl
theorem d0r (id t : Nat) (a : AV) (env : Env) : scrub id ((t, a) :: env) = (t, if nref id a then a else .top) :: scrub id env := rfl
theorem d9z (id : Nat) (b : Blk) (k : IntKind) (n : Int) : frz id b (.int k n) = .int k n := by simp only [frz]
theorem d6M (id : Nat) (b : Blk) (c : Bool) : frz id b (.bool c) = .bool c := by simp only [frz]
theorem d9w (id : Nat) (b : Blk) (s : ByteArray) : frz id b (.str s) = .str s := by simp only [frz]
theorem d9x (id : Nat) (b : Blk) : frz id b .nil = .nil := by simp only [frz]
theorem d9v (id : Nat) (b : Blk) : frz id b .top = .top := by simp only [frz]
theorem d9y (id : Nat) (b : Blk) (v : Value) : frz id b (.lit v) = .lit v := by simp only [frz]
theorem e1I (id : Nat) (b : Blk) (wd : Nat) (xs : List AV) : frz id b (.sl wd xs) = .sl wd xs := by simp only [frz]
theorem e1J (id : Nat) (b : Blk) (x : AV) (off : Nat) : frz id b (.ro x off) = .ro x off := by simp only [frz]
theorem d9A (id : Nat) (b : Blk) (cs : List AV) : frz id b (.agg cs) = .agg (cs.map (frz id b)) := by simp only [frz]
theorem d9u (id : Nat) (b : Blk) (cs : List AV) : frz id b (.tup cs) = .tup (cs.map (frz id b)) := by simp only [frz]
theorem e1L (id : Nat) (b : Blk) (f : FuncId) (cs : List AV) : frz id b (.fn f cs) = .fn f (cs.map (frz id b)) := by simp only [frz]
theorem b9U (H : Heap) (i : Nat) (b : Blk) (len : Nat) (oc : Option Nat) (h : len = b.xs.length) : frz (lid H i) b (.mu (lid H i) 0 len oc) = .sl b.wd b.xs := by
  simp [frz, h]
theorem b9V (H : Heap) (i : Nat) (b : Blk) (off len : Nat) (oc : Option Nat) (h : off + len ≤ b.xs.length) : frz (lid H i) b (.mu (lid H i) off len oc) = .sl b.wd ((b.xs.drop off).take len) := by
  simp [frz, h]
theorem a0X (H : Heap) (i j : Nat) (b : Blk) (off len : Nat) (oc : Option Nat) (h : j ≠ i) : frz (lid H i) b (.mu (lid H j) off len oc) = .mu (lid H j) off len oc := by
  have : lid H j ≠ lid H i := by simp only [lid]; omega
  simp [frz, this]
theorem a0E (H : Heap) (i j : Nat) (b : Blk) (k off : Nat) (h : j ≠ i) : frz (lid H i) b (.loc (lid H j) k off) = .loc (lid H j) k off := by
  have : lid H j ≠ lid H i := by simp only [lid]; omega
  simp [frz, this]
theorem c5S (H : Heap) (i : Nat) (b : Blk) (k off : Nat) (h : k < b.xs.length) : frz (lid H i) b (.loc (lid H i) k off) = .ro (b.xs.getD k .top) off := by
  simp [frz, h]
section
variable (n0 : Nat) (env : Env) (H L : Heap)
def a1y (n : Nat) (p v : AV) (env : Env) (H : Heap) : Option (AV × Env × Heap) := match p with
  | .loc id i off => (hrow H id).bind fun b =>
        if i < b.xs.length ∧ v.fit = true ∧ v.cells.length = n ∧ off + n ≤ b.wd then some (.top, env, H.set id (some ⟨b.wd, b.xs.set i (upd (b.xs.getD i .top) b.wd off n v)⟩)) else none
  | _ => none
theorem d6W (n : Nat) (a v : Src) : ev n0 (.store n a v) env H = a1y n (a.ev env) (v.ev env) env H := by simp only [ev, a1y]; split <;> simp_all
theorem a3d (n i k off : Nat) (v : AV) {b : Blk} (hl : L[i]? = some (some b)) (hk : k < b.xs.length) (hf : v.fit = true) (hn : v.cells.length = n) (ho : off + n ≤ b.wd) :
    a1y n (.loc (lid H i) k off) v env (hap H L) = some (.top, env, hap H (L.set i (some ⟨b.wd, b.xs.set k (upd (b.xs.getD k .top) b.wd off n v)⟩))) := by
  simp only [a1y, a1u, hl, Option.join_some, Option.bind_some, a3D]
  rw [if_pos ⟨hk, hf, hn, ho⟩]
theorem e1T (n : Nat) (v : Src) : ev n0 (.box n v) env H = if (v.ev env).fit = true ∧ (v.ev env).cells.length = n ∧ 0 < n then some (.loc H.length 0 0, env, H ++ [some ⟨n, [v.ev env]⟩]) else none := rfl
theorem e1S (wd : Nat) (ps : List Src) : ev n0 (.bsl wd ps) env H = if 0 < wd ∧ ps.all (fun s => (s.ev env).fit && decide ((s.ev env).cells.length = wd) && (s.ev env).cells.all clb) then some (.sl wd (ps.map (·.ev env)), env, H) else none := rfl
theorem d9O (wd : Nat) (ps : List Src) : ev n0 (.bslm wd ps) env H = if 0 < wd ∧ ps.all (fun s => (s.ev env).fit && decide ((s.ev env).cells.length = wd)) then
      some (.mu H.length 0 ps.length (some ps.length), env, H ++ [some ⟨wd, ps.map (·.ev env)⟩]) else none := rfl
def b9p (wd bytes : Nat) (z l c : AV) (env : Env) (H : Heap) : Option (AV × Env × Heap) := match l, c with
    | .int _ l, .int _ c => if 0 < wd ∧ 0 ≤ l ∧ l ≤ c ∧ (bytes : Int) * c ≤ 281474976710656 ∧ c ≤ 9223372036854775807 then
        some (.mu H.length 0 l.toNat (some c.toNat), env, H ++ [some ⟨wd, List.replicate l.toNat z⟩]) else none
    | _, _ => none
theorem d9N (wd bytes : Nat) (z : AV) (l c : Src) : ev n0 (.mksl wd bytes z l c) env H = b9p wd bytes z (l.ev env) (c.ev env) env H := by simp only [ev, b9p]; split <;> simp_all
theorem a8P (wd bytes : Nat) (z : AV) (k k' : IntKind) (l c : Nat) (h0 : 0 < wd) (h1 : l ≤ c) (h2 : bytes * c ≤ 281474976710656) (h3 : c ≤ 9223372036854775807) :
    b9p wd bytes z (.int k l) (.int k' c) env (hap H L) = some (.mu (lid H L.length) 0 l (some c), env, hap H (L ++ [some ⟨wd, List.replicate l z⟩])) := by
  simp only [b9p, b5h, b2K, Int.toNat_natCast]
  rw [if_pos ⟨h0, by omega, by omega, by rw [← Int.natCast_mul]; omega, by omega⟩]
noncomputable def appV (n0 wd bytes : Nat) (str : Bool) (x y : AV) (env : Env) (H : Heap) : Option (AV × Env × Heap) := (a0N H wd str y).bind fun ys =>
      match x with
      | .nil => if 0 < wd ∧ ys.length * bytes ≤ 140737488355328 ∧ ys.length ≤ 9223372036854775807 then some (.mu H.length 0 ys.length none, env, H ++ [some ⟨wd, ys⟩]) else none
      | .mu id off len oc => (hrow H id).bind fun r =>
          if r.wd = wd ∧ off = 0 ∧ len ≤ r.xs.length ∧ n0 ≤ id ∧ 0 < ys.length ∧ (oc.any fun c => decide (len + ys.length ≤ c)) = true then
            some (.mu id 0 (len + ys.length) oc, env, H.set id (some ⟨wd, r.xs.take len ++ ys⟩)) else
          if r.wd = wd ∧ off = 0 ∧ len ≤ r.xs.length ∧ n0 ≤ id ∧ free H id = true ∧ (ys.flatMap AV.cells).all (nref id) = true ∧ (r.xs.flatMap AV.cells).all (nref id) = true ∧
              (len + ys.length) * bytes ≤ 140737488355328 ∧ len + ys.length ≤ 9223372036854775807 then
            some (.mu id 0 (len + ys.length) (a1Z oc (len + ys.length)), scrub id env, H.set id (some ⟨wd, r.xs.take len ++ ys⟩)) else
          if r.wd = wd ∧ off + len ≤ r.xs.length ∧ 0 < ys.length ∧ (oc.any fun c => decide (c < len + ys.length)) = true ∧ (len + ys.length) * bytes ≤ 140737488355328 ∧ len + ys.length ≤ 9223372036854775807 then
            some (.mu H.length 0 (len + ys.length) none, env, H ++ [some ⟨wd, (r.xs.drop off).take len ++ ys⟩]) else none
      | _ => none
theorem e1U (wd bytes : Nat) (str : Bool) (a b : Src) : ev n0 (.app wd bytes str a b) env H = appV n0 wd bytes str (a.ev env) (b.ev env) env H := by
  simp only [ev, appV]; cases a0N H wd str (b.ev env) <;> simp only [Option.bind_none, Option.bind_some]; split <;> simp_all
theorem c9L (wd bytes : Nat) (str : Bool) (y : AV) (ys : List AV) (hy : a0N (hap H L) wd str y = some ys) (h0 : 0 < wd) (h1 : ys.length * bytes ≤ 140737488355328) (h2 : ys.length ≤ 9223372036854775807) :
    appV n0 wd bytes str .nil y env (hap H L) = some (.mu (lid H L.length) 0 ys.length none, env, hap H (L ++ [some ⟨wd, ys⟩])) := by
  simp only [appV, hy, Option.bind_some, b5h, b2K]
  rw [if_pos ⟨h0, h1, h2⟩]
/-- No row of these names the i-th. -/
def e0D (H : Heap) (L : Heap) (i : Nat) : Prop := ∀ (j : Nat) b, L[j]? = some (some b) → ∀ a ∈ b.flat, Ref (· ≠ lid H i) a
theorem c9K {H L : Heap} {i : Nat} (h : ∀ b, some b ∈ L → ∀ a ∈ b.flat, Cl a) : e0D H L i := fun j b hb a ha => (h b (List.mem_of_getElem? hb) a ha).ref
theorem c9o {H L : Heap} {i : Nat} (hH : a0S H) (h : e0D H L i) : free (hap H L) (lid H i) = true := by
  rw [c3U]
  intro j bj hj hb a ha
  rcases Nat.lt_or_ge j H.length with hlt | hge
  · simp only [hap] at hb
    rw [List.getElem?_append_left hlt] at hb
    exact (hH j bj hb a ha).mono fun k hk => by show k ≠ lid H i; simp only [lid]; omega
  · simp only [hap] at hb
    rw [List.getElem?_append_right hge] at hb
    exact h _ bj hb a ha
theorem c4x (wd bytes : Nat) (str : Bool) (i len : Nat) (oc : Option Nat) (y : AV) (xs ys : List AV) (hH : a0S H) (hl : L[i]? = some (some ⟨wd, xs⟩)) (hlen : len = xs.length) (hn : n0 ≤ lid H i) (hy : a0N (hap H L) wd str y = some ys) (ha : e0D H L i)
    (hys : ∀ a ∈ ys.flatMap AV.cells, Ref (· ≠ lid H i) a) (h1 : (len + ys.length) * bytes ≤ 140737488355328) (h2 : len + ys.length ≤ 9223372036854775807) (hoc : (oc.any fun c => decide (len + ys.length ≤ c)) = false) :
    appV n0 wd bytes str (.mu (lid H i) 0 len oc) y env (hap H L) = some (.mu (lid H i) 0 (len + ys.length) (a1Z oc (len + ys.length)), scrub (lid H i) env, hap H (L.set i (some ⟨wd, xs ++ ys⟩))) := by
  subst hlen
  simp only [appV, hy, Option.bind_some, a1u, hl, Option.join_some, a3D]
  rw [if_neg (fun h => by rw [hoc] at h; exact absurd h.2.2.2.2.2 (by decide)), if_pos]
  · simp
  · refine ⟨trivial, trivial, Nat.le_refl _, hn, c9o hH ha, ?_, ?_, h1, h2⟩
    · rw [List.all_eq_true]; intro a h; exact a0x.2 (hys a h)
    · rw [List.all_eq_true]; intro a h; exact a0x.2 (ha i _ hl a h)
/-- Where there is room, what else names the row stays. -/
theorem d4Q (wd bytes : Nat) (str : Bool) (i len c : Nat) (y : AV) (xs ys : List AV) (hl : L[i]? = some (some ⟨wd, xs⟩)) (hlen : len = xs.length) (hn : n0 ≤ lid H i) (hy : a0N (hap H L) wd str y = some ys) (h0 : 0 < ys.length) (hc : len + ys.length ≤ c) :
    appV n0 wd bytes str (.mu (lid H i) 0 len (some c)) y env (hap H L) = some (.mu (lid H i) 0 (len + ys.length) (some c), env, hap H (L.set i (some ⟨wd, xs ++ ys⟩))) := by
  subst hlen
  simp only [appV, hy, Option.bind_some, a1u, hl, Option.join_some, a3D]
  rw [if_pos]
  · simp
  · exact ⟨trivial, trivial, Nat.le_refl _, hn, h0, by simpa using hc⟩
theorem a8D (wd : Nat) (xs : List AV) : a0N H wd false (.sl wd xs) = some xs := by simp [a0N]
theorem c4S (wd i off len : Nat) (oc : Option Nat) (xs : List AV) (hl : L[i]? = some (some ⟨wd, xs⟩)) (h : off + len ≤ xs.length) : a0N (hap H L) wd false (.mu (lid H i) off len oc) = some ((xs.drop off).take len) := by
  simp [a0N, a1u, hl, h]
end
theorem d9I (k : IntKind) (n : Int) : (AV.int k n).fit = true := rfl
theorem d6T (b : Bool) : (AV.bool b).fit = true := rfl
theorem d9F (s : ByteArray) : (AV.str s).fit = true := rfl
theorem d9J (cs : List AV) : (AV.agg cs).fit = true := rfl
theorem e1M (wd : Nat) (xs : List AV) : (AV.sl wd xs).fit = true := rfl
theorem d9G : AV.nil.fit = true := rfl
theorem e1O (id off len : Nat) (oc : Option Nat) : (AV.mu id off len oc).fit = true := rfl
theorem d9H (id i off : Nat) : (AV.loc id i off).fit = true := rfl
theorem e1P (f : FuncId) (cs : List AV) : (AV.fn f cs).fit = true := rfl
theorem e1N (x : AV) (off : Nat) : (AV.ro x off).fit = true := rfl
theorem a2n (x : AV) (wd : Nat) (v : AV) : upd x wd 0 wd v = v := by simp [upd]
theorem d5A (env : Env) (H : Heap) : resL env H [] = some [] := rfl
theorem d5z (env : Env) (H : Heap) (t : Nat) (r : List ResV) : resL env H (.tmp t :: r) = (resL env H r).map (look env t :: ·) := rfl
theorem d2B (env : Env) (H : Heap) (t : Nat) (n : Option Nat) (r : List ResV) : resL env H (.cell t n :: r) = (b9I H n (look env t)).bind fun a => (resL env H r).map (a :: ·) := rfl
theorem d2L (a : AV) : b7l [a] = a := rfl
theorem d2K (a b : AV) (r : List AV) : b7l (a :: b :: r) = .tup (a :: b :: r) := rfl
theorem d2M : b7l [] = .tup [] := rfl
/-- What a call answers with. -/
def gret (o : Option (List AV)) (k : AV → Prop) : Prop := match o with
  | some as => k (b7l as)
  | none => False
theorem d3S (as : List AV) (k : AV → Prop) : gret (some as) k = k (b7l as) := rfl
@[congr] theorem e0F {x y : Option (List AV)} {k : AV → Prop} (h : x = y) : gret x k = gret y k := by rw [h]
theorem Safe.retn {x : Cx} {todo : List AItem} {env : Env} {H : Heap} {R : AV → Heap → Prop} (h : gret (resL env H x.rs) fun r => R r H) : Safe x (.code .ret :: todo) env H R := by
  unfold gret at h
  split at h
  · rename_i as ha; exact Safe.ret ha h
  · exact h.elim
theorem c4H : (0 < 1) = True := by decide
/-- The evaluator. -/
def EV := And.intro (And.intro (And.intro (@c7U) (@c5O)) (And.intro (@e0s) (@d9W))) <| And.intro (And.intro (And.intro (And.intro (And.intro (And.intro (And.intro (@d7H) (@d4S)) (And.intro (@d4R) (And.intro (@e0p) (@e0q)))) (And.intro (And.intro (@d1I) (@c8p)) (And.intro (@d4G) (And.intro (@d7a) (@d4j))))) (And.intro (And.intro (And.intro (@d4i) (@d9T)) (And.intro (@d9U) (And.intro (@d1A) (@c8h)))) (And.intro (And.intro (@d4t) (@d0A)) (And.intro (@d0B) (And.intro (@d1y) (@d1z)))))) (And.intro (And.intro (And.intro (And.intro (@d1s) (@e2s)) (And.intro (@e2t) (And.intro (@d3r) (@d6w)))) (And.intro (And.intro (@d5F) (@d5G)) (And.intro (@d4h) (And.intro (@d1v) (@e2w))))) (And.intro (And.intro (And.intro (@d8M) (@d0x)) (And.intro (@d2G) (And.intro (@d5I) (@e1k)))) (And.intro (And.intro (@d8Q) (@d6y)) (And.intro (@e1n) (And.intro (@e1o) (@e2c))))))) (And.intro (And.intro (And.intro (And.intro (And.intro (@e2b) (@e2v)) (And.intro (@d8t) (And.intro (@d8s) (@d8U)))) (And.intro (And.intro (@d4w) (@e1l)) (And.intro (@d6V) (And.intro (@d8T) (@d9C))))) (And.intro (And.intro (And.intro (@d6Q) (@d8S)) (And.intro (@d8R) (And.intro (@d6H) (@d8P)))) (And.intro (And.intro (@e1i) (@d8L)) (And.intro (@e1m) (And.intro (@d8N) (@e1j)))))) (And.intro (And.intro (And.intro (And.intro (@c8U) (@e1p)) (And.intro (@d7C) (And.intro (@c7I) (@d6x)))) (And.intro (And.intro (@b9J) (@d7r)) (And.intro (@d7q) (And.intro (@c9I) (@d7p))))) (And.intro (And.intro (And.intro (@d7t) (@e0l)) (And.intro (@d7z) (And.intro (@d7o) (@d7y)))) (And.intro (And.intro (@d7s) (And.intro (@d7u) (@d7v))) (And.intro (@d7w) (And.intro (@d7x) (@d4L)))))))) (And.intro (And.intro (And.intro (And.intro (And.intro (And.intro (@d4K) (@d3t)) (And.intro (@e2g) (And.intro (@a9X) (@d4F)))) (And.intro (And.intro (@d4E) (@d1F)) (And.intro (@d4B) (And.intro (@d4C) (@d4D))))) (And.intro (And.intro (And.intro (@d7i) (@c9B)) (And.intro (@c6o) (And.intro (@d7j) (@a1u)))) (And.intro (And.intro (@b5h) (@a3D)) (And.intro (@b2K) (And.intro (@e1B) (@d1H)))))) (And.intro (And.intro (And.intro (And.intro (@join_some) (@d6z)) (And.intro (@d3E) (And.intro (@d6W) (@e1T)))) (And.intro (And.intro (@e1S) (@d9O)) (And.intro (@d9N) (And.intro (@e1U) (@d9I))))) (And.intro (And.intro (And.intro (@d6T) (@d9F)) (And.intro (@d9J) (And.intro (@e1M) (@d9G)))) (And.intro (And.intro (@e1O) (@d9H)) (And.intro (@e1P) (And.intro (@e1N) (@e0g))))))) (And.intro (And.intro (And.intro (And.intro (And.intro (@d7h) (@e0e)) (And.intro (@e0f) (And.intro (@d5T) (@d5Y)))) (And.intro (And.intro (@d2Q) (@d5U)) (And.intro (@d5V) (And.intro (@d5X) (@d9c))))) (And.intro (And.intro (And.intro (@d9d) (@d5Z)) (And.intro (@d5S) (And.intro (@d9f) (@d9e)))) (And.intro (And.intro (@d5W) (@d2w)) (And.intro (@d0r) (And.intro (@d9z) (@d6M)))))) (And.intro (And.intro (And.intro (And.intro (@d9w) (@d9x)) (And.intro (@d9v) (And.intro (@d9y) (@e1I)))) (And.intro (And.intro (@e1J) (@d9A)) (And.intro (@d9u) (And.intro (@e1L) (@d6O))))) (And.intro (And.intro (And.intro (@d4c) (@d6N)) (And.intro (@d4b) (And.intro (@d4a) (@a2n)))) (And.intro (And.intro (@d5A) (And.intro (@d5z) (@d2B))) (And.intro (@d2L) (And.intro (@d2K) (And.intro @d2M (And.intro @d3S @c4H)))))))))
def EVC := And.intro (And.intro (And.intro (And.intro (And.intro (@List.map_cons.{0,0}) (@List.map_nil.{0,0})) (And.intro (@List.length_cons.{0}) (And.intro (@List.length_nil.{0}) (@List.cons_append.{0})))) (And.intro (And.intro (@List.nil_append.{0}) (@List.all_cons.{0})) (And.intro (@List.all_nil.{0}) (And.intro (@Option.map_some.{0,0}) (@Option.map_none.{0,0}))))) (And.intro (And.intro (And.intro (@Option.bind_some.{0,0}) (@Option.bind_none.{0,0})) (And.intro (@Option.isSome_some.{0}) (And.intro (@List.getElem?_cons_zero.{0}) (@List.getElem?_cons_succ.{0})))) (And.intro (And.intro (@List.set_cons_zero.{0}) (@List.set_cons_succ.{0})) (And.intro (@Option.join_some.{0}) (And.intro (@List.getD_cons_zero.{0}) (@List.drop_zero.{0})))))) (And.intro (And.intro (And.intro (And.intro (And.intro (@if_true.{0}) (@if_true.{1})) (And.intro (@if_false.{0}) (@if_false.{1}))) (And.intro (@Bool.false_eq_true) (And.intro (@Bool.true_and) (@Bool.and_true)))) (And.intro (And.intro (@Bool.not_true) (@Bool.not_false)) (And.intro (@decide_true) (And.intro (@decide_false) (@Bool.and_self))))) (And.intro (And.intro (And.intro (@ne_eq.{1}) (@not_true_eq_false)) (And.intro (@not_false_eq_true) (And.intro (@and_self) (@and_true)))) (And.intro (And.intro (@true_and) (@Nat.zero_add)) (And.intro (@Nat.add_zero) (And.intro (@Option.some.injEq.{0}) (@Nat.lt_add_one))))))
end Go.Abs
namespace Go.Abs
/-- Whatever is the one is the other. -/
def Le (a b : AV) : Prop := ∀ E v, Rep E v a → Rep E v b
theorem Le.refl (a : AV) : Le a a := fun _ _ h => h
theorem Le.trans {a b c : AV} (h : Le a b) (k : Le b c) : Le a c := fun E v r => k E v (h E v r)
theorem Le.nil (wd : Nat) (h : 0 < wd) : Le .nil (.sl wd []) := fun E v r => c1q wd h r
theorem Le.top (a : AV) : Le a .top := fun E v r => .top v
theorem Le.agg {as bs : List AV} (hl : as.length = bs.length) (h : ∀ (k : Nat) a b, as[k]? = some a → bs[k]? = some b → Le a b) : Le (.agg as) (.agg bs) := by
  intro E v r
  cases r with
  | agg vs _ hlen h1 hrep =>
    refine .agg vs bs (by omega) h1 fun k v b hv hb => ?_
    have hk := a0e hb
    exact h k _ b (List.getElem?_eq_getElem (by omega)) hb E v (hrep k v _ hv (List.getElem?_eq_getElem (by omega)))
  | dead v a id hr hd h1 => simp [AV.ref] at hr
theorem Le.tup {as bs : List AV} (hl : as.length = bs.length) (h : ∀ (k : Nat) a b, as[k]? = some a → bs[k]? = some b → Le a b) : Le (.tup as) (.tup bs) := by
  intro E v r
  cases r with
  | tup vs _ hlen hrep =>
    refine .tup vs bs (by omega) fun k v b hv hb => ?_
    have hk := a0e hb
    exact h k _ b (List.getElem?_eq_getElem (by omega)) hb E v (hrep k v _ hv (List.getElem?_eq_getElem (by omega)))
  | dead v a id hr hd h1 => simp [AV.ref] at hr
theorem Le.agg2 {a b c d : AV} (h : Le a c) (k : Le b d) : Le (.agg [a, b]) (.agg [c, d]) := Le.agg rfl fun i x y hx hy => by
  match i with
  | 0 => cases hx; cases hy; exact h
  | 1 => cases hx; cases hy; exact k
theorem Le.tup2 {a b c d : AV} (h : Le a c) (k : Le b d) : Le (.tup [a, b]) (.tup [c, d]) := Le.tup rfl fun i x y hx hy => by
  match i with
  | 0 => cases hx; cases hy; exact h
  | 1 => cases hx; cases hy; exact k
theorem Le.tup3 {a b e c d f : AV} (h : Le a c) (k : Le b d) (l : Le e f) : Le (.tup [a, b, e]) (.tup [c, d, f]) := Le.tup rfl fun i x y hx hy => by
  match i with
  | 0 => cases hx; cases hy; exact h
  | 1 => cases hx; cases hy; exact k
  | 2 => cases hx; cases hy; exact l
theorem a0o.cutL {P : Program} {f : FuncId} {args : List AV} {H : Heap} {r : AV} (hr : Ref (· < H.length) r) (h : a0o P f args H fun r' H' => Le r' r ∧ ∃ L, H' = hap H L) : a0o P f args H fun r' H' => r' = r ∧ H' = H := by
  refine ⟨h.1, fun φ w vs hok hl hrep => (h.2 φ w vs hok hl hrep).mono ?_⟩
  rintro e w' ⟨v, r', φ', H', rfl, ⟨hle, L, rfl⟩, q1, q2, q3, q4⟩
  have hfree : ∀ (j : Nat) bj, j < H.length → (hap H L)[j]? = some (some bj) → ∀ a ∈ bj.flat, Ref (· < H.length) a := by
    intro j bj hj hb
    simp only [hap] at hb
    rw [List.getElem?_append_left hj] at hb
    exact hok.refs hb
  have hcut := HOk.cut q1 H.length hfree
  have ht : (hap H L).take H.length = H := by simp [hap]
  simp only [ht] at hcut
  exact ⟨v, r, φ', H, rfl, ⟨rfl, rfl⟩, hcut.1, (hle _ _ q2).mono hcut.2 hr, Nat.le_refl _, q4.trans hcut.2⟩
theorem a0f.introL {P : Program} {mu : Nat → Nat → Bool} {f : FuncId} {fn : Func} (hf : P.funcs[f]? = some fn) {ac : ACode} {rs : List ResV} {nt : Nat} (hc : fchk P mu fn = some (ac, rs, nt))
    {args : List AV} {r : AV} (ha : args.length ≤ nt) (hr : Cl r) (h : ∀ H, a0S H → Safe ⟨P, mu, f, nt, rs, H.length⟩ [.code ac] (b7n 0 args) (hap H []) fun r' H' => Le r' r ∧ ∃ L, H' = hap H L) : a0f P f args r := by
  intro H
  refine a0o.cutL hr.ref (a0o.intro hf hc ha fun hH => ?_)
  have := h H hH
  rw [a2X] at this
  exact this
/-- A row's elements told as others that tell less. -/
theorem Safe.toldRow (i : Nat) {x : Cx} {todo : List AItem} {env : Env} {H L : Heap} {R : AV → Heap → Prop} {b b' : Blk} (hl : L[i]? = some (some b)) (hw : b'.wd = b.wd) (hx : ∀ y ∈ b'.xs, y.cells.length = b.wd) (hlen : b'.flat.length = b.flat.length) (hemp : b.xs = [] → b'.xs = [])
    (hle : ∀ (k : Nat) a c, b.flat[k]? = some a → b'.flat[k]? = some c → Le a c) (h : Safe x todo env (hap H (L.set i (some b'))) R) (hpos : 0 < b.wd := by exact Nat.zero_lt_succ _) : Safe x todo env (hap H L) R := by
  intro φ w tmps bf k cs hg hn hb hk htd hsz hok he
  have hl' : (hap H L)[lid H i]? = some (some b) := by
    unfold hap lid
    rw [List.getElem?_append_right (by omega), Nat.add_sub_cancel_left]; exact hl
  have hget : ∀ (j : Nat), (hap H (L.set i (some b')))[j]? = if lid H i = j then some (some b') else (hap H L)[j]? := by
    intro j
    rw [← a3D]
    exact a6f _ _ _ (a0h hl') j
  have hx2 : ∀ w : World, Ext All ⟨φ, hap H L, w⟩ ⟨φ, hap H (L.set i (some b')), w⟩ := by
    intro w
    refine ⟨rfl, rfl, rfl, Nat.le_refl _, by simp [hap], fun _ _ _ => rfl, ?_, fun _ _ _ _ _ _ _ => rfl, ?_, fun _ _ _ => rfl⟩
    · intro j blk' _ _ hb'
      rw [hget] at hb'
      split at hb'
      · rename_i hj; subst hj; simp at hb'; subst hb'; exact ⟨b, hl', hw.symm⟩
      · exact ⟨blk', hb', rfl⟩
    · rintro b0 _ ⟨j, blk', hb', hp⟩
      simp only [hget] at hb'
      split at hb'
      · rename_i hj; subst hj; exact ⟨_, b, hl', hp⟩
      · exact ⟨j, blk', hb', hp⟩
  have live : ∀ (j : Nat) blk', (hap H (L.set i (some b')))[j]? = some (some blk') → (j = lid H i ∧ blk' = b') ∨ (j ≠ lid H i ∧ (hap H L)[j]? = some (some blk')) := by
    intro j blk' hb'
    rw [hget] at hb'
    split at hb'
    · rename_i hj; simp at hb'; exact .inl ⟨hj.symm, hb'.symm⟩
    · rename_i hj; exact .inr ⟨fun e => hj e.symm, hb'⟩
  have hok' : HOk ⟨φ, hap H (L.set i (some b')), w⟩ := by
    refine ⟨fun j x bl h h0 hp => ?_, fun j x h => ?_, fun j x bl h hp => ?_, fun j x h hp => ?_, fun j1 j2 x y bl h1 h2 p1 p2 => ?_⟩
    · rcases live j x h with ⟨rfl, rfl⟩ | ⟨_, h'⟩
      · omega
      · rcases hok.obj j x bl h' h0 hp with ⟨L, q1, q2⟩ | ⟨mid, n, seen, m, q1, q2, q3, q4⟩
        · exact .inl ⟨L, q1, q2⟩
        · refine .inr ⟨mid, n, seen, m, q1, q2, q3, fun blk hb => ?_⟩
          rcases live mid blk hb with ⟨rfl, rfl⟩ | ⟨_, hb'⟩
          · exact absurd (q4 b hl').1 (by omega)
          · exact q4 blk hb'
    · rcases live j x h with ⟨rfl, rfl⟩ | ⟨_, h'⟩
      · rw [hw]; exact hx
      · exact hok.wids j x h'
    · have mv : ∀ {v a}, Rep ⟨φ, hap H L, w⟩ v a → Rep ⟨φ, hap H (L.set i (some b')), w⟩ v a := fun r => r.mono (hx2 w) (r.ref.mono fun _ _ => trivial)
      rcases live j x h with ⟨rfl, rfl⟩ | ⟨_, h'⟩
      · obtain ⟨c, e, r⟩ := hok.row _ b bl hl' hp
        refine ⟨c, e, fun h0 => r.heap hpos, by rw [hlen]; exact r.fits, fun k v hk hv => r.one k v (by rw [← hlen]; exact hk) hv, fun k v a hv ha => ?_⟩
        have hk := a0e ha
        have ha' : b.flat[k]? = some (b.flat[k]'(by omega)) := List.getElem?_eq_getElem (by omega)
        exact mv (hle k _ a ha' ha _ _ (r.rep k v _ hv ha'))
      · obtain ⟨c, e, r⟩ := hok.row j x bl h' hp
        exact ⟨c, e, r.heap, r.fits, r.one, fun k v a hv ha => mv (r.rep k v a hv ha)⟩
    · rcases live j x h with ⟨rfl, rfl⟩ | ⟨_, h'⟩
      · exact hemp (hok.emp _ b hl' hp)
      · exact hok.emp j x h' hp
    · have g1 : ∃ z, (hap H L)[j1]? = some (some z) := by rcases live j1 x h1 with ⟨rfl, _⟩ | ⟨_, h'⟩; exact ⟨b, hl'⟩; exact ⟨x, h'⟩
      have g2 : ∃ z, (hap H L)[j2]? = some (some z) := by rcases live j2 y h2 with ⟨rfl, _⟩ | ⟨_, h'⟩; exact ⟨b, hl'⟩; exact ⟨y, h'⟩
      obtain ⟨_, g1⟩ := g1
      obtain ⟨_, g2⟩ := g2
      exact hok.inj j1 j2 _ _ bl g1 g2 p1 p2
  obtain ⟨v, w', fr, r, φ', H', q1, q2, q3, q4, q5, q6⟩ := h φ w tmps bf k cs hg (by simpa [hap] using hn) hb hk htd hsz hok' (fun t => (he t).mono (hx2 w) ((he t).ref.mono fun _ _ => trivial))
  exact ⟨v, w', fr, r, φ', H', q1, q2, q3, q4, ((hx2 w).sub fun _ _ => trivial).trans q5, q6⟩
theorem d8w (n i off : Nat) (v : AV) (env : Env) (H L : Heap) : a1y n (.loc (lid H i) 0 off) v env (hap H L) = (L[i]?).join.bind fun b =>
    if 0 < b.xs.length ∧ v.fit = true ∧ v.cells.length = n ∧ off + n ≤ b.wd then some (.top, env, hap H (L.set i (some ⟨b.wd, b.xs.set 0 (upd (b.xs.getD 0 .top) b.wd off n v)⟩))) else none := by
  simp only [a1y, a1u, a3D]
theorem d7n (env : Env) (cs : List AV) : bldV env cs [] = some cs := rfl
theorem d4I (env : Env) (cs : List AV) (off n : Nat) (s : Src) (r : List (Nat × Nat × Src)) :
    bldV env cs ((off, n, s) :: r) = if (s.ev env).cells.length = n ∧ off + n ≤ cs.length ∧ (s.ev env).fit = true then bldV env (a2o cs off (s.ev env).cells) r else none := rfl
theorem d2d (cs : List AV) (off : Nat) (as : List AV) : a2o cs off as = cs.take off ++ as ++ cs.drop (off + as.length) := rfl
def EV2 := And.intro (And.intro @d8w (And.intro @d7n (And.intro @d4I @d2d))) (And.intro (And.intro (And.intro (@List.drop_succ_cons.{0}) (@List.take_succ_cons.{0})) (And.intro (@List.take_zero.{0}) (@List.take_nil.{0}))) (And.intro (And.intro (@List.drop_nil.{0}) (@List.append_nil.{0})) (And.intro (@Nat.le_refl) (@Nat.lt_irrefl))))
end Go.Abs
namespace Go.Abs
section
variable {x : Cx} {l : ACode} {todo : List AItem} {R : AV → Heap → Prop}
/-- The structural steps. -/
def stl : Nat → List AItem → List AItem
  | 0, k => k
  | n + 1, .code (.seq a b) :: k => stl n (.code a :: .code b :: k)
  | n + 1, .code .skip :: k => stl n k
  | n + 1, .code (.block id a) :: k => stl n (.code a :: .inBlock id :: k)
  | n + 1, .inBlock _ :: k => stl n k
  | n + 1, .code (.scope a) :: k => stl n (.code a :: .inScope a :: k)
  | n + 1, .inScope _ :: k => stl n k
  | n + 1, .code (.exit id) :: k => match c1e id k with
    | some k' => stl n k'
    | none => .code (.exit id) :: k
  | n + 1, .code (.label _) :: k => stl n k
  | n + 1, .code (.goto l) :: k => match c1c l k with
    | some k' => stl n k'
    | none => .code (.goto l) :: k
  | _, k => k
theorem Safe.stl {env : Env} {H : Heap} : ∀ (n : Nat) (k : List AItem), Safe x (stl n k) env H R → Safe x k env H R := by
  intro n
  induction n with
  | zero => intro k h; cases k <;> exact h
  | succ n ih =>
    intro k h
    unfold Abs.stl at h
    split at h
    · rename_i h0; cases h0
    · rename_i h0; cases h0; exact Safe.seq (ih _ h)
    · rename_i h0; cases h0; exact Safe.skip (ih _ h)
    · rename_i h0; cases h0; exact Safe.block (ih _ h)
    · rename_i h0; cases h0; exact Safe.inBlock (ih _ h)
    · rename_i h0; cases h0; exact Safe.scope (ih _ h)
    · rename_i h0; cases h0; exact Safe.inScope (ih _ h)
    · rename_i h0; cases h0
      split at h
      · rename_i he; exact Safe.exit he (ih _ h)
      · exact h
    · rename_i h0; cases h0; exact Safe.label (ih _ h)
    · rename_i h0; cases h0
      split at h
      · rename_i he; exact Safe.goto he (ih _ h)
      · exact h
    · exact h
theorem Safe.rg {env : Env} {H : Heap} {k k' : List AItem} {b : Bool} {l : List AIns} (e : Abs.stl 40 k = .code (.region l b) :: k')
    (h : if b = true then dops x.P x.n0 l (fun env' H' => Safe x k' env' H' R) env H else aops x.P x.n0 l (fun env' H' => Safe x k' env' H' R) env H) : Safe x k env H R := by
  refine Safe.stl 40 k ?_
  rw [e]
  cases b
  · exact Safe.region h
  · exact Safe.regionD h
theorem Safe.rx {env : Env} {H : Heap} {k k' : List AItem} {p s1 s2 : List AIns} {sd : List (Nat × Nat)} (e : Abs.stl 40 k = .code (.regionX p s1 s2 sd) :: k') (hs : sdOk sd env)
    (h : dops x.P x.n0 p (fun env' H' => dops x.P x.n0 s1 (fun env' H' => Safe x k' env' H' R) env' H' ∧ dops x.P x.n0 s2 (fun env' H' => Safe x k' env' H' R) env' H') env H) : Safe x k env H R := by
  refine Safe.stl 40 k ?_
  rw [e]
  exact Safe.regionX hs h
theorem Safe.cd {env : Env} {H : Heap} {k k' : List AItem} {s : Src} {a b : ACode} (e : Abs.stl 40 k = .code (.cond s a b) :: k')
    (h : d1t (s.ev env) fun c => if c then Safe x (.code a :: k') env H R else Safe x (.code b :: k') env H R) : Safe x k env H R := by
  refine Safe.stl 40 k ?_
  rw [e]
  exact Safe.cond h
theorem Safe.lp {env : Env} {H : Heap} {k k' : List AItem} {a : ACode} (e : Abs.stl 40 k = .code (.loop a) :: k') (h : Safe x (.inLoop a :: k') env H R) : Safe x k env H R := by
  refine Safe.stl 40 k ?_
  rw [e]
  exact Safe.loop h
theorem Safe.rt {env : Env} {H : Heap} {k k' : List AItem} (e : Abs.stl 40 k = .code .ret :: k') (h : gret (resL env H x.rs) fun r => R r H) : Safe x k env H R := by
  refine Safe.stl 40 k ?_
  rw [e]
  exact Safe.retn h
theorem Safe.loopP (n : Nat) (E : Nat → Env) (G : Nat → Heap) (P : Nat → Prop) {env : Env} {H : Heap} (he : env = E 0) (hG : H = G 0) (h0 : P 0)
    (step : ∀ i, i < n → P i → (P (i + 1) → Safe x (.inLoop l :: todo) (E (i + 1)) (G (i + 1)) R) → Safe x (.inLoop l :: todo) (E i) (G i) R)
    (last : P n → Safe x (.inLoop l :: todo) (E n) (G n) R) : Safe x (.inLoop l :: todo) env H R := by
  subst he; subst hG
  have key : ∀ k i, i + k = n → P i → Safe x (.inLoop l :: todo) (E i) (G i) R := by
    intro k
    induction k with
    | zero => intro i hi hp; rw [show i = n by omega] at hp ⊢; exact last hp
    | succ k ih => intro i hi hp; exact step i (by omega) hp fun hp' => ih (i + 1) (by omega) hp'
  exact key n 0 (by omega) h0
theorem Safe.loopN (n : Nat) (E : Nat → Env) (G : Nat → Heap) {env : Env} {H : Heap} (he : env = E 0) (hG : H = G 0)
    (step : ∀ i, i < n → Safe x (.inLoop l :: todo) (E (i + 1)) (G (i + 1)) R → Safe x (.inLoop l :: todo) (E i) (G i) R)
    (last : Safe x (.inLoop l :: todo) (E n) (G n) R) : Safe x (.inLoop l :: todo) env H R :=
  Safe.loopP n E G (fun _ => True) he hG trivial (fun i hi _ ih => step i hi (ih trivial)) fun _ => last
/-- A loop that counts down. -/
theorem Safe.loopD (n : Nat) (E : Nat → Env) (G : Nat → Heap) {env : Env} {H : Heap} (he : env = E n) (hG : H = G n)
    (step : ∀ i, i < n → Safe x (.inLoop l :: todo) (E i) (G i) R → Safe x (.inLoop l :: todo) (E (i + 1)) (G (i + 1)) R)
    (last : Safe x (.inLoop l :: todo) (E 0) (G 0) R) : Safe x (.inLoop l :: todo) env H R := by
  subst he; subst hG
  have key : ∀ i, i ≤ n → Safe x (.inLoop l :: todo) (E i) (G i) R := by
    intro i
    induction i with
    | zero => intro _; exact last
    | succ i ih => intro hi; exact step i (by omega) (ih (by omega))
  exact key n (Nat.le_refl _)
/-- A loop with a measure. -/
theorem Safe.loopW {α : Type} (μ : α → Nat) (E : α → Env) (G : α → Heap) (P : α → Prop) (a0 : α) {env : Env} {H : Heap} (he : env = E a0) (hG : H = G a0) (h0 : P a0)
    (step : ∀ a, P a → (∀ b, P b → μ b < μ a → Safe x (.inLoop l :: todo) (E b) (G b) R) → Safe x (.inLoop l :: todo) (E a) (G a) R) : Safe x (.inLoop l :: todo) env H R := by
  subst he; subst hG
  have key : ∀ k a, μ a ≤ k → P a → Safe x (.inLoop l :: todo) (E a) (G a) R := by
    intro k
    induction k with
    | zero => intro a ha hp; exact step a hp fun b hb hlt => absurd hlt (by omega)
    | succ k ih => intro a ha hp; exact step a hp fun b hb hlt => ih b (by omega) hb
  exact key (μ a0) a0 (Nat.le_refl _) h0
theorem a1x {α β : Type} (f : α → β) (l : List α) {i : Nat} (h : i < l.length) : (l.take (i + 1)).map f = (l.take i).map f ++ [f l[i]] := by
  rw [List.take_succ_eq_append_getElem h, List.map_append]; rfl
theorem a4d {α : Type} (l : List α) {i : Nat} (h : i < l.length) : l.take (i + 1) = l.take i ++ [l[i]] := List.take_succ_eq_append_getElem h
end
end Go.Abs
namespace Go.Abs
theorem Ref.both {S T : Nat → Prop} {a : AV} (h : Ref S a) (k : Ref T a) : Ref (fun i => S i ∧ T i) a := by
  induction h with
  | top => exact .top
  | int => exact .int _ _
  | bool => exact .bool _
  | str => exact .str _
  | nil => exact .nil
  | lit => exact .lit _
  | sl => exact .sl _ _
  | ro => exact .ro _ _
  | mu i off len oc h => cases k with | mu _ _ _ _ h' => exact .mu i off len oc ⟨h, h'⟩
  | mp b i h => cases k with | mp _ _ h' => exact .mp b i ⟨h, h'⟩
  | mo l => exact .mo l
  | io i n seen => exact .io i n seen
  | loc i k off h => cases k with | loc _ _ _ h' => exact .loc i _ off ⟨h, h'⟩
  | agg cs h ih => cases k with | agg _ h' => exact .agg cs fun c hc => ih c hc (h' c hc)
  | tup cs h ih => cases k with | tup _ h' => exact .tup cs fun c hc => ih c hc (h' c hc)
  | fn f cs h ih => cases k with | fn _ _ h' => exact .fn f cs fun c hc => ih c hc (h' c hc)
  | bfn f cs h ih => cases k with | bfn _ _ h' => exact .bfn f cs fun c hc => ih c hc (h' c hc)
theorem c5E {env : Env} {id : Nat} (h : env.all (fun p => nref id p.2) = true) (t : Nat) : Ref (· ≠ id) (look env t) := by
  induction env with
  | nil => exact .top
  | cons p env ih =>
    simp only [List.all_cons, Bool.and_eq_true] at h
    simp only [look]
    split
    · exact a0x.1 h.1
    · exact ih h.2
theorem Safe.drop {x : Cx} {todo : List AItem} {env : Env} {H L : Heap} {R : AV → Heap → Prop} {o : Option Blk} (hH : a0S H) (hx : x.n0 = H.length) (he : env.all (fun p => nref (lid H L.length) p.2) = true)
    (hL : ∀ b, some b ∈ L → ∀ a ∈ b.flat, nref (lid H L.length) a = true) (h : Safe x todo env (hap H L) R) : Safe x todo env (hap H (L ++ [o])) R := by
  intro φ w tmps b k cs hg hn hb hk htd hsz hok hrep
  have hlen : (hap H (L ++ [o])).length = lid H L.length + 1 := by simp [hap, lid, Nat.add_assoc]
  have lt : ∀ {a}, Ref (· < (hap H (L ++ [o])).length) a → Ref (· ≠ lid H L.length) a → Ref (· < lid H L.length) a := fun h1 h2 => (h1.both h2).mono fun i ⟨q1, q2⟩ => by rw [hlen] at q1; show i < _; omega
  have htake : (hap H (L ++ [o])).take (lid H L.length) = hap H L := by
    simp only [hap, lid, ← List.append_assoc]
    rw [show H.length + L.length = (H ++ L).length by simp, List.take_left']
    rfl
  have hcut := HOk.cut (E := ⟨φ, hap H (L ++ [o]), w⟩) hok (lid H L.length) (by
    intro j bj hj hbj a ha
    refine lt (hok.refs hbj a ha) ?_
    simp only [hap] at hbj
    rcases Nat.lt_or_ge j H.length with hlt | hge
    · rw [List.getElem?_append_left hlt] at hbj
      exact (hH j bj hbj a ha).mono fun i hi => by show i ≠ H.length + L.length; have : i < H.length := hi; omega
    · rw [List.getElem?_append_right hge] at hbj
      have hj2 : j - H.length < L.length := by simp only [lid] at hj; omega
      rw [List.getElem?_append_left hj2] at hbj
      exact a0x.1 (hL bj (List.mem_of_getElem? hbj) a ha))
  simp only [htake] at hcut
  obtain ⟨v, w', fr, r, φ', H', q1, q2, q3, q4, q5, q6⟩ := h φ w tmps b k cs hg (by rw [hx]; simp [hap]) hb hk htd hsz hcut.1 (fun t => (hrep t).mono hcut.2 (lt (hrep t).ref (c5E he t)))
  exact ⟨v, w', fr, r, φ', H', q1, q2, q3, q4, (hcut.2.sub fun i hi => by rw [hx] at hi; show i < H.length + L.length; have : i < H.length := hi; omega).trans q5, q6⟩
/-- The same where the other rows are closed. -/
theorem Safe.dropC {x : Cx} {todo : List AItem} {env : Env} {H L : Heap} {R : AV → Heap → Prop} {o : Option Blk} (hH : a0S H) (hx : x.n0 = H.length) (he : env.all (fun p => nref (lid H L.length) p.2) = true)
    (hL : ∀ b, some b ∈ L → ∀ a ∈ b.flat, Cl a) (h : Safe x todo env (hap H L) R) : Safe x todo env (hap H (L ++ [o])) R :=
  Safe.drop hH hx he (fun b hb a ha => a1o (hL b hb a ha)) h
end Go.Abs
namespace Go.Abs
theorem a0S.set {H : Heap} (h : a0S H) (id : Nat) {b : Blk} (hb : ∀ a ∈ b.flat, Ref (· < H.length) a) : a0S (H.set id (some b)) := by
  intro j bj hj a ha
  rw [List.length_set]
  rw [List.getElem?_set] at hj
  split at hj
  · split at hj
    · cases hj; exact hb a ha
    · cases hj
  · exact h j bj hj a ha
/-- A function's rows of its own are forgotten; what it wrote below stays. -/
theorem a0o.eff {P : Program} {mu : Nat → Nat → Bool} {f : FuncId} {fn : Func} (hf : P.funcs[f]? = some fn) {ac : ACode} {rs : List ResV} {nt : Nat} (hc : fchk P mu fn = some (ac, rs, nt))
    {args : List AV} {H : Heap} {R : AV → Heap → Prop} (ha : args.length ≤ nt)
    (h : a0S H → Safe ⟨P, mu, f, nt, rs, H.length⟩ [.code ac] (b7n 0 args) (hap H []) fun r' H' => ∃ H1 L, H' = hap H1 L ∧ H1.length = H.length ∧ a0S H1 ∧ Ref (· < H.length) r' ∧ R r' H1) : a0o P f args H R := by
  have h0 : a0o P f args H fun r' H' => ∃ H1 L, H' = hap H1 L ∧ H1.length = H.length ∧ a0S H1 ∧ Ref (· < H.length) r' ∧ R r' H1 := a0o.intro hf hc ha fun hH => by
    have := h hH
    rw [a2X] at this
    exact this
  refine ⟨h0.1, fun φ w vs hok hl hrep => (h0.2 φ w vs hok hl hrep).mono ?_⟩
  rintro e w' ⟨v, r', φ', H', rfl, ⟨H1, L, rfl, hlen, hrefs, hcl, hR⟩, q1, q2, q3, q4⟩
  have hfree : ∀ (j : Nat) bj, j < H.length → (hap H1 L)[j]? = some (some bj) → ∀ a ∈ bj.flat, Ref (· < H.length) a := by
    intro j bj hj hb
    simp only [hap] at hb
    rw [List.getElem?_append_left (by omega)] at hb
    have := hrefs j bj hb
    rwa [hlen] at this
  have hcut := HOk.cut q1 H.length hfree
  have ht : (hap H1 L).take H.length = H1 := by simp [hap, ← hlen]
  simp only [ht] at hcut
  exact ⟨v, r', φ', H1, rfl, hR, hcut.1, q2.mono hcut.2 hcl, by omega, q4.trans hcut.2⟩
section
variable {H L : Heap} {id : Nat} (hid : id < H.length)
include hid
theorem c7g (b : Blk) : hrow (hap (H.set id (some b)) L) id = some b := by
  rw [a7H _ _ _ (by simpa using hid)]
  simp [hrow, hid]
theorem d9a (b : Option Blk) (b' : Option Blk) : (hap (H.set id b) L).set id b' = hap (H.set id b') L := by
  unfold hap
  rw [List.set_append_left _ _ (by simpa using hid), List.set_set]
theorem b4N (wd : Nat) (X : List AV) (off len j : Nat) (oc : Option Nat) (k : IntKind) (h : j < len) : idxV (hap (H.set id (some ⟨wd, X⟩)) L) wd (.mu id off len oc) (.int k j) = some (.loc id (off + j) 0) := by
  rw [b5r _ _ _ _ _ _ _ _ (by omega) (by omega), c7g hid]
  simp
theorem e1w (b : Blk) (j : Nat) (h : j < b.xs.length) : atV (hap (H.set id (some b)) L) (.loc id j 0) = some (b.xs.getD j .top).cells := by
  rw [a9X, c7g hid]; simp [h]
theorem e1v (env : Env) (b : Blk) (n j : Nat) (v : AV) (h : j < b.xs.length) (hf : v.fit = true) (hn : v.cells.length = n) (ho : n ≤ b.wd) :
    a1y n (.loc id j 0) v env (hap (H.set id (some b)) L) = some (.top, env, hap (H.set id (some ⟨b.wd, b.xs.set j (upd (b.xs.getD j .top) b.wd 0 n v)⟩)) L) := by
  simp only [a1y, c7g hid, Option.bind_some, d9a hid]
  rw [if_pos ⟨h, hf, hn, by omega⟩]
end
theorem d5v {H : Heap} {id : Nat} {b : Option Blk} (h : H[id]? = some b) : H.set id b = H := by
  apply List.ext_getElem?
  intro j
  rw [List.getElem?_set]
  split
  · rename_i e; subst e
    have := (List.getElem?_eq_some_iff.1 h).1
    rw [if_pos this, h]
  · rfl
end Go.Abs
namespace Go.Abs
def fr (n : Nat) (f : Nat → AV) : List AV := (List.range n).map f
theorem b9W (n : Nat) (f : Nat → AV) : (fr n f).length = n := by simp [fr]
theorem d4d {n : Nat} {f : Nat → AV} {i : Nat} (h : i < n) : (fr n f).getD i .top = f i := by simp [fr, List.getD_eq_getElem?_getD, h]
theorem a7J {n : Nat} {f g : Nat → AV} (h : ∀ i, i < n → f i = g i) : fr n f = fr n g := List.map_congr_left fun i hi => h i (List.mem_range.1 hi)
theorem c9p (n : Nat) (f : Nat → AV) (i : Nat) (v : AV) : (fr n f).set i v = fr n fun j => if j = i then v else f j := by
  apply List.ext_getElem?
  intro j
  rw [List.getElem?_set]
  simp only [fr, List.getElem?_map, List.length_map, List.length_range]
  rcases Nat.lt_or_ge j n with h | h
  · rw [List.getElem?_range h]
    by_cases e : i = j
    · subst e; simp [h]
    · simp [e, Ne.symm e]
  · by_cases e : i = j
    · subst e; simp [h]
    · simp [e, h]
theorem c9q {n : Nat} {f : Nat → AV} {a : AV} (h : a ∈ fr n f) : ∃ i, i < n ∧ a = f i := by
  obtain ⟨i, hi, rfl⟩ := List.mem_map.1 h
  exact ⟨i, List.mem_range.1 hi, rfl⟩
theorem d7g {a : AV} (h : Cl a) : ∀ c ∈ a.cells, Cl c := by
  cases h with
  | agg cs h => exact h
  | top => intro c hc; simp [AV.cells] at hc; subst hc; exact .top
  | int k n => intro c hc; simp [AV.cells] at hc; subst hc; exact .int k n
  | bool b => intro c hc; simp [AV.cells] at hc; subst hc; exact .bool b
  | str b => intro c hc; simp [AV.cells] at hc; subst hc; exact .str b
  | nil => intro c hc; simp [AV.cells] at hc; subst hc; exact .nil
  | lit v => intro c hc; simp [AV.cells] at hc; subst hc; exact .lit v
  | sl wd xs h => intro c hc; simp [AV.cells] at hc; subst hc; exact .sl wd xs h
  | ro x off h => intro c hc; simp [AV.cells] at hc; subst hc; exact .ro x off h
  | tup cs h => intro c hc; simp [AV.cells] at hc; subst hc; exact .tup cs h
  | fn f cs h => intro c hc; simp [AV.cells] at hc; subst hc; exact .fn f cs h
  | bfn f cs h => intro c hc; simp [AV.cells] at hc; subst hc; exact .bfn f cs h
/-- Rows bound anew: the outer one, and n inner ones behind it. -/
def hm (G : Heap) (β n : Nat) (O : List AV) (R : Nat → Option Blk) : Heap := G.mapIdx fun j o => if j = β then some ⟨1, O⟩ else if β < j ∧ j ≤ β + n then R (j - (β + 1)) else o
theorem a1B (G : Heap) (β n : Nat) (O : List AV) (R : Nat → Option Blk) : (hm G β n O R).length = G.length := by simp [hm]
theorem a1R (G : Heap) (β n : Nat) (O : List AV) (R : Nat → Option Blk) (j : Nat) (hj : j < G.length) : (hm G β n O R)[j]? = if j = β then some (some ⟨1, O⟩) else if β < j ∧ j ≤ β + n then some (R (j - (β + 1))) else G[j]? := by
  simp only [hm, List.getElem?_mapIdx, List.getElem?_eq_getElem hj, Option.map_some]
  split
  · rfl
  · split <;> rfl
theorem d3O {G : Heap} {β n : Nat} {O : List AV} {R : Nat → Option Blk} (ho : G[β]? = some (some ⟨1, O⟩)) (hr : ∀ j, j < n → G[β + 1 + j]? = some (R j)) : hm G β n O R = G := by
  apply List.ext_getElem?
  intro j
  rcases Nat.lt_or_ge j G.length with hj | hj
  · rw [a1R _ _ _ _ _ _ hj]
    split
    · rename_i e; subst e; exact ho.symm
    · split
      · rename_i e1 e2
        have := hr (j - (β + 1)) (by omega)
        rw [show β + 1 + (j - (β + 1)) = j by omega] at this
        exact this.symm
      · rfl
  · rw [List.getElem?_eq_none (by rw [a1B]; exact hj), List.getElem?_eq_none hj]
theorem b3w {G : Heap} {β n : Nat} {O O' : List AV} {R R' : Nat → Option Blk} (ho : O = O') (hr : ∀ j, j < n → R j = R' j) : hm G β n O R = hm G β n O' R' := by
  subst ho
  apply List.ext_getElem?
  intro j
  rcases Nat.lt_or_ge j G.length with hj | hj
  · rw [a1R _ _ _ _ _ _ hj, a1R _ _ _ _ _ _ hj]
    split
    · rfl
    · split
      · rw [hr _ (by omega)]
      · rfl
  · rw [List.getElem?_eq_none (by rw [a1B]; exact hj), List.getElem?_eq_none (by rw [a1B]; exact hj)]
theorem b8o (A B : Heap) (id : Nat) (b : Option Blk) (h : id < A.length) : (hap A B).set id b = hap (A.set id b) B := by
  unfold hap; exact List.set_append_left _ _ h
theorem c9b (G : Heap) (β n : Nat) (O : List AV) (R : Nat → Option Blk) (i : Nat) : lid (hm G β n O R) i = lid G i := by unfold lid; rw [a1B]
section
variable {G L : Heap} {β n : Nat} {O : List AV} {R : Nat → Option Blk}
/-- Local rows behind. -/
theorem c9i (i : Nat) : hrow (hap (hm G β n O R) L) (lid G i) = (L[i]?).join := by
  rw [← c9b G β n O R, a1u]
theorem d2u (i : Nat) (x : Option Blk) : (hap (hm G β n O R) L).set (lid G i) x = hap (hm G β n O R) (L.set i x) := by
  rw [← c9b G β n O R, a3D]
variable (hG : β + n < G.length)
include hG
theorem c9g : hrow (hap (hm G β n O R) L) β = some ⟨1, O⟩ := by
  rw [a7H _ _ _ (by rw [a1B]; omega)]
  simp only [hrow]
  rw [a1R _ _ _ _ _ _ (by omega), if_pos rfl]; rfl
theorem d9p {j : Nat} (hj : j < n) : hrow (hap (hm G β n O R) L) (β + 1 + j) = R j := by
  rw [a7H _ _ _ (by rw [a1B]; omega)]
  simp only [hrow]
  rw [a1R _ _ _ _ _ _ (by omega), if_neg (by omega), if_pos (by omega), show β + 1 + j - (β + 1) = j by omega]; rfl
theorem d2s (O' : List AV) : (hap (hm G β n O R) L).set β (some ⟨1, O'⟩) = hap (hm G β n O' R) L := by
  rw [b8o _ _ _ _ (by rw [a1B]; omega)]
  congr 1
  apply List.ext_getElem?
  intro j
  rw [List.getElem?_set]
  rcases Nat.lt_or_ge j G.length with hj | hj
  · rw [a1R _ _ _ _ _ _ hj, a1R _ _ _ _ _ _ hj, a1B]
    by_cases h : β = j
    · subst h; simp [hj]
    · rw [if_neg h, if_neg (Ne.symm h), if_neg (Ne.symm h)]
  · rw [List.getElem?_eq_none (by rw [a1B]; exact hj), List.getElem?_eq_none (by rw [a1B]; exact hj), if_neg (by omega)]
theorem e0Z {j : Nat} (hj : j < n) (b : Option Blk) : (hap (hm G β n O R) L).set (β + 1 + j) b = hap (hm G β n O fun t => if t = j then b else R t) L := by
  rw [b8o _ _ _ _ (by rw [a1B]; omega)]
  congr 1
  apply List.ext_getElem?
  intro i
  rw [List.getElem?_set]
  rcases Nat.lt_or_ge i G.length with hi | hi
  · rw [a1R _ _ _ _ _ _ hi, a1R _ _ _ _ _ _ hi, a1B]
    by_cases h : β + 1 + j = i
    · subst h
      rw [if_pos rfl, if_pos (by omega), if_neg (by omega), if_pos (by omega), if_pos (by omega)]
    · rw [if_neg h]
      by_cases h1 : i = β
      · rw [if_pos h1, if_pos h1]
      · rw [if_neg h1, if_neg h1]
        by_cases h2 : β < i ∧ i ≤ β + n
        · rw [if_pos h2, if_pos h2, if_neg (by omega)]
        · rw [if_neg h2, if_neg h2]
  · rw [List.getElem?_eq_none (by rw [a1B]; exact hi), List.getElem?_eq_none (by rw [a1B]; exact hi), if_neg (by omega)]
end
/-- A matrix: inner rows of c elements of w cells; logical row i lies at π i. -/
def orow (β n c : Nat) (oc : Option Nat) (π : Nat → Nat) : List AV := fr n fun i => .mu (β + 1 + π i) 0 c oc
def hM (G : Heap) (β n w c : Nat) (oc : Option Nat) (π : Nat → Nat) (S : Nat → Nat → AV) : Heap := hm G β n (orow β n c oc π) fun j => some ⟨w, fr c (S j)⟩
def upd2 (S : Nat → Nat → AV) (j k : Nat) (v : AV) : Nat → Nat → AV := fun a b => if a = j then (if b = k then v else S a b) else S a b
def swp (π : Nat → Nat) (p r : Nat) : Nat → Nat := fun i => if i = p then π r else if i = r then π p else π i
theorem c5M (G : Heap) (β n w c : Nat) (oc : Option Nat) (π : Nat → Nat) (S : Nat → Nat → AV) : (hM G β n w c oc π S).length = G.length := a1B _ _ _ _ _
theorem a4y (G : Heap) (β n w c : Nat) (oc : Option Nat) (π : Nat → Nat) (S : Nat → Nat → AV) (i : Nat) : lid (hM G β n w c oc π S) i = lid G i := c9b _ _ _ _ _ _
theorem d6I {G : Heap} {β n w c : Nat} {oc : Option Nat} {π : Nat → Nat} {S S' : Nat → Nat → AV} (h : ∀ j k, j < n → k < c → S j k = S' j k) : hM G β n w c oc π S = hM G β n w c oc π S' :=
  b3w rfl fun j hj => by rw [a7J fun k hk => h j k hj hk]
section
variable {G L : Heap} {β n w c : Nat} {oc : Option Nat} {π : Nat → Nat} {S : Nat → Nat → AV}
theorem a1L (i : Nat) : hrow (hap (hM G β n w c oc π S) L) (lid G i) = (L[i]?).join := c9i i
theorem a2z (i : Nat) (x : Option Blk) : (hap (hM G β n w c oc π S) L).set (lid G i) x = hap (hM G β n w c oc π S) (L.set i x) := d2u i x
variable (hG : β + n < G.length)
include hG
theorem b3v : hrow (hap (hM G β n w c oc π S) L) β = some ⟨1, orow β n c oc π⟩ := c9g hG
theorem b7D {j : Nat} (hj : j < n) : hrow (hap (hM G β n w c oc π S) L) (β + 1 + j) = some ⟨w, fr c (S j)⟩ := d9p hG hj
/-- A row of the matrix. -/
theorem b5F {i : Nat} (hi : i < n) (oc' : Option Nat) (k : IntKind) : idxV (hap (hM G β n w c oc π S) L) 1 (.mu β 0 n oc') (.int k i) = some (.loc β i 0) := by
  rw [b5r _ _ _ _ _ _ _ _ (by omega) (by omega), b3v hG]; simp
theorem M_at {i : Nat} (hi : i < n) : atV (hap (hM G β n w c oc π S) L) (.loc β i 0) = some [.mu (β + 1 + π i) 0 c oc] := by
  rw [a9X, b3v hG]
  simp only [Option.bind_some, orow, b9W]
  rw [if_pos hi, d4d hi]; rfl
theorem c6A (len : Nat) (oc' : Option Nat) : lenV (hap (hM G β n w c oc π S) L) (.mu β 0 len oc') = some (.int .i64 len) := by
  rw [b9J, b3v hG]; rfl
theorem e2m {j : Nat} (hj : j < n) (len : Nat) (oc' : Option Nat) : lenV (hap (hM G β n w c oc π S) L) (.mu (β + 1 + j) 0 len oc') = some (.int .i64 len) := by
  rw [b9J, b7D hG hj]; rfl
/-- An entry. -/
theorem b7p {j k : Nat} (hj : j < n) (hk : k < c) (oc' : Option Nat) (ki : IntKind) : idxV (hap (hM G β n w c oc π S) L) w (.mu (β + 1 + j) 0 c oc') (.int ki k) = some (.loc (β + 1 + j) k 0) := by
  rw [b5r _ _ _ _ _ _ _ _ (by omega) (by omega), b7D hG hj]; simp
theorem E_at {j k : Nat} (hj : j < n) (hk : k < c) : atV (hap (hM G β n w c oc π S) L) (.loc (β + 1 + j) k 0) = some (S j k).cells := by
  rw [a9X, b7D hG hj]
  simp only [Option.bind_some, b9W]
  rw [if_pos hk, d4d hk]; rfl
theorem E_st {j k : Nat} (hj : j < n) (hk : k < c) {v : AV} (hf : v.fit = true) (hw : v.cells.length = w) (env : Env) : a1y w (.loc (β + 1 + j) k 0) v env (hap (hM G β n w c oc π S) L) = some (.top, env, hap (hM G β n w c oc π (upd2 S j k v)) L) := by
  simp only [a1y, b7D hG hj, Option.bind_some, b9W]
  rw [if_pos ⟨hk, hf, hw, by omega⟩]
  rw [a2n, c9p]
  unfold hM
  rw [e0Z hG hj]
  refine congrArg (fun x => some (AV.top, env, hap x L)) (b3w rfl fun t ht => ?_)
  split
  · rename_i e; subst e
    congr 2; exact a7J fun a _ => by simp [upd2]
  · rename_i e
    congr 2; exact a7J fun a _ => by simp [upd2, e]
/-- A row put at another place. -/
theorem M_st {i j : Nat} (hi : i < n) (env : Env) : a1y 1 (.loc β i 0) (.mu (β + 1 + j) 0 c oc) env (hap (hM G β n w c oc π S) L) = some (.top, env, hap (hM G β n w c oc (fun t => if t = i then j else π t) S) L) := by
  simp only [a1y, b3v hG, Option.bind_some, orow, b9W]
  rw [if_pos ⟨hi, rfl, rfl, by omega⟩, a2n, c9p]
  unfold hM
  rw [d2s hG]
  refine congrArg (fun x => some (AV.top, env, hap x L)) (b3w (a7J fun t _ => ?_) fun _ _ => rfl)
  by_cases e : t = i <;> simp [e]
end
theorem Safe.dropG {x : Cx} {todo : List AItem} {env : Env} {H L : Heap} {R : AV → Heap → Prop} {o : Option Blk} (hH : a0S H) (hx : x.n0 ≤ H.length) (he : env.all (fun p => nref (lid H L.length) p.2) = true)
    (hL : ∀ b, some b ∈ L → ∀ a ∈ b.flat, nref (lid H L.length) a = true) (h : Safe x todo env (hap H L) R) : Safe x todo env (hap H (L ++ [o])) R := by
  intro φ w tmps b k cs hg hn hb hk htd hsz hok hrep
  have hlen : (hap H (L ++ [o])).length = lid H L.length + 1 := by simp [hap, lid, Nat.add_assoc]
  have lt : ∀ {a}, Ref (· < (hap H (L ++ [o])).length) a → Ref (· ≠ lid H L.length) a → Ref (· < lid H L.length) a := fun h1 h2 => (h1.both h2).mono fun i ⟨q1, q2⟩ => by rw [hlen] at q1; show i < _; omega
  have htake : (hap H (L ++ [o])).take (lid H L.length) = hap H L := by
    simp only [hap, lid, ← List.append_assoc]
    rw [show H.length + L.length = (H ++ L).length by simp, List.take_left']
    rfl
  have hcut := HOk.cut (E := ⟨φ, hap H (L ++ [o]), w⟩) hok (lid H L.length) (by
    intro j bj hj hbj a ha
    refine lt (hok.refs hbj a ha) ?_
    simp only [hap] at hbj
    rcases Nat.lt_or_ge j H.length with hlt | hge
    · rw [List.getElem?_append_left hlt] at hbj
      exact (hH j bj hbj a ha).mono fun i hi => by show i ≠ H.length + L.length; have : i < H.length := hi; omega
    · rw [List.getElem?_append_right hge] at hbj
      have hj2 : j - H.length < L.length := by simp only [lid] at hj; omega
      rw [List.getElem?_append_left hj2] at hbj
      exact a0x.1 (hL bj (List.mem_of_getElem? hbj) a ha))
  simp only [htake] at hcut
  obtain ⟨v, w', fr, r, φ', H', q1, q2, q3, q4, q5, q6⟩ := h φ w tmps b k cs hg (by simp [hap]; omega) hb hk htd hsz hcut.1 (fun t => (hrep t).mono hcut.2 (lt (hrep t).ref (c5E he t)))
  exact ⟨v, w', fr, r, φ', H', q1, q2, q3, q4, (hcut.2.sub fun i hi => by show i < H.length + L.length; have : i < x.n0 := hi; omega).trans q5, q6⟩
theorem Safe.freezeB {x : Cx} {todo : List AItem} {env : Env} {H : Heap} {R : AV → Heap → Prop} (i : Nat) {L : Heap} {b : Blk} (hH : a0S H) (hx : x.n0 ≤ H.length) (hl : L[i]? = some (some b)) (hcl : ∀ c ∈ b.flat, Cl c)
    (h : Safe x todo (frzE (lid H i) b env) (hap H ((frzL (lid H i) b L).set i none)) R) (hpos : 0 < b.wd := by exact Nat.zero_lt_succ _) : Safe x todo env (hap H L) R := by
  refine Safe.freezeG (id := lid H i) (b := b) (Nat.le_trans hx (a4h H i)) ?_ hcl ?_ hpos
  · unfold hap lid
    rw [List.getElem?_append_right (by omega), Nat.add_sub_cancel_left]; exact hl
  · rw [c3S hH]; exact h
/-- A matrix as it comes out of a function: the outer row, the inner ones behind it. -/
def a6g (β n w c : Nat) (oc : Option Nat) (S : Nat → Nat → AV) : Heap := some ⟨1, orow β n c oc fun i => i⟩ :: (List.range n).map fun j => some ⟨w, fr c (S j)⟩
theorem b9o (β n w c : Nat) (oc : Option Nat) (S : Nat → Nat → AV) : (a6g β n w c oc S).length = n + 1 := by simp [a6g]
theorem c5w {β n w c : Nat} {oc : Option Nat} {S : Nat → Nat → AV} {j : Nat} (h : j < n) : (a6g β n w c oc S)[j + 1]? = some (some ⟨w, fr c (S j)⟩) := by simp [a6g, h]
theorem d9r (H X : Heap) (n w c : Nat) (oc : Option Nat) (S : Nat → Nat → AV) : hM (hap H (X ++ a6g (lid H X.length) n w c oc S)) (lid H X.length) n w c oc (fun i => i) S = hap H (X ++ a6g (lid H X.length) n w c oc S) := by
  refine d3O ?_ fun j hj => ?_
  · simp only [hap, lid, ← List.append_assoc]
    rw [List.getElem?_append_right (by simp)]
    simp [a6g, lid]
  · simp only [hap, lid, ← List.append_assoc]
    rw [List.getElem?_append_right (by simp; omega)]
    have : H.length + X.length + 1 + j - (H ++ X).length = j + 1 := by simp; omega
    rw [this]; exact c5w hj
theorem d6m (H X : Heap) (n w c : Nat) (oc : Option Nat) (S : Nat → Nat → AV) : lid H X.length + n < (hap H (X ++ a6g (lid H X.length) n w c oc S)).length := by
  simp [hap, lid, b9o]; omega
theorem c5l {β n c : Nat} {oc : Option Nat} {π : Nat → Nat} {P : Nat → Prop} (h : ∀ i, i < n → P (β + 1 + π i)) : ∀ a ∈ (Blk.mk 1 (orow β n c oc π)).flat, Ref P a := by
  intro a ha
  obtain ⟨y, hy, hya⟩ := List.mem_flatMap.1 ha
  obtain ⟨i, hi, rfl⟩ := c9q hy
  simp [AV.cells] at hya
  subst hya
  exact .mu _ _ _ _ (h i hi)
theorem b5z {w c : Nat} {f : Nat → AV} (h : ∀ k, k < c → Cl (f k)) : ∀ a ∈ (Blk.mk w (fr c f)).flat, Cl a := by
  intro a ha
  obtain ⟨y, hy, hya⟩ := List.mem_flatMap.1 ha
  obtain ⟨k, hk, rfl⟩ := c9q hy
  exact d7g (h k hk) a hya
theorem d1g {H X : Heap} (hH : a0S H) (hX : ∀ b, some b ∈ X → ∀ a ∈ b.flat, Cl a) {n w c : Nat} {oc : Option Nat} {S : Nat → Nat → AV} (hS : ∀ j k, j < n → k < c → Cl (S j k)) : a0S (hap H (X ++ a6g (lid H X.length) n w c oc S)) := by
  have hlen : (hap H (X ++ a6g (lid H X.length) n w c oc S)).length = lid H X.length + 1 + n := by simp [hap, lid, b9o]; omega
  intro id b hb a ha
  rw [hlen]
  simp only [hap] at hb
  rcases Nat.lt_or_ge id H.length with h1 | h1
  · rw [List.getElem?_append_left h1] at hb
    exact (hH id b hb a ha).mono fun i hi => by have : i < H.length := hi; show i < _; unfold lid; omega
  · rw [List.getElem?_append_right h1] at hb
    rcases Nat.lt_or_ge (id - H.length) X.length with h2 | h2
    · rw [List.getElem?_append_left h2] at hb
      exact (hX b (List.mem_of_getElem? hb) a ha).ref
    · rw [List.getElem?_append_right h2] at hb
      generalize id - H.length - X.length = j at hb
      cases j with
      | zero =>
        simp [a6g] at hb; subst hb
        exact c5l (fun i hi => by show _ < _; omega) a ha
      | succ j =>
        have hj := a0e hb
        rw [b9o] at hj
        rw [c5w (by omega)] at hb
        cases hb
        exact (b5z (fun k hk => hS j k (by omega) hk) a ha).ref
theorem d3R {G : Heap} {β n w c : Nat} {oc : Option Nat} {π π' : Nat → Nat} {S S' : Nat → Nat → AV} (hG : β + n < G.length) (h : a0S (hM G β n w c oc π S)) (hπ : ∀ i, i < n → π' i < n) (hS : ∀ j k, j < n → k < c → Cl (S' j k)) : a0S (hM G β n w c oc π' S') := by
  intro id b hb a ha
  rw [c5M]
  have hid := a0h hb
  rw [c5M] at hid
  unfold hM at hb
  rw [a1R _ _ _ _ _ _ hid] at hb
  split at hb
  · cases hb
    exact c5l (fun i hi => by show _ < _; have := hπ i hi; omega) a ha
  · split at hb
    · cases hb
      exact (b5z (fun k hk => hS _ k (by omega) hk) a ha).ref
    · rename_i h1 h2
      have := h id b (by unfold hM; rw [a1R _ _ _ _ _ _ hid, if_neg h1, if_neg h2]; exact hb) a ha
      rwa [c5M] at this
theorem e1E (G L : Heap) (β n : Nat) (O : List AV) (R : Nat → Option Blk) (hG : β + n < G.length) : hap (hm G β n O R) L = hm (hap G L) β n O R := by
  apply List.ext_getElem?
  intro j
  have hl : (hap G L).length = G.length + L.length := by simp [hap]
  rcases Nat.lt_or_ge j (G.length + L.length) with hj | hj
  · rw [a1R _ _ _ _ _ _ (by omega)]
    unfold hap
    rcases Nat.lt_or_ge j G.length with h1 | h1
    · rw [List.getElem?_append_left (by rw [a1B]; exact h1), a1R _ _ _ _ _ _ h1, List.getElem?_append_left h1]
    · rw [List.getElem?_append_right (by rw [a1B]; exact h1), List.getElem?_append_right h1, if_neg (by omega), if_neg (by omega), a1B]
  · rw [List.getElem?_eq_none (by simp [hap, a1B]; omega), List.getElem?_eq_none (by rw [a1B]; omega)]
theorem e1F (G L : Heap) (β n w c : Nat) (oc : Option Nat) (π : Nat → Nat) (S : Nat → Nat → AV) (hG : β + n < G.length) : hap (hM G β n w c oc π S) L = hM (hap G L) β n w c oc π S := e1E G L β n _ _ hG
theorem a2R {G L : Heap} {β n w c : Nat} {oc : Option Nat} {π : Nat → Nat} {S : Nat → Nat → AV} (m i off : Nat) (v : AV) (env : Env) : a1y m (.loc (lid G i) 0 off) v env (hap (hM G β n w c oc π S) L) = (L[i]?).join.bind fun b =>
    if 0 < b.xs.length ∧ v.fit = true ∧ v.cells.length = m ∧ off + m ≤ b.wd then some (.top, env, hap (hM G β n w c oc π S) (L.set i (some ⟨b.wd, b.xs.set 0 (upd (b.xs.getD 0 .top) b.wd off m v)⟩))) else none := by
  simp only [a1y, a1L, a2z]
theorem Safe.dropM {G : Heap} {β n w c : Nat} {oc : Option Nat} {π : Nat → Nat} {S : Nat → Nat → AV} {x : Cx} {todo : List AItem} {env : Env} {R : AV → Heap → Prop} (L : Heap) {o : Option Blk} (hH : a0S (hM G β n w c oc π S)) (hx : x.n0 ≤ G.length)
    (he : env.all (fun p => nref (lid G L.length) p.2) = true) (hL : ∀ b, some b ∈ L → ∀ a ∈ b.flat, Cl a) (h : Safe x todo env (hap (hM G β n w c oc π S) L) R) : Safe x todo env (hap (hM G β n w c oc π S) (L ++ [o])) R :=
  Safe.dropG hH (by rw [c5M]; exact hx) (by rw [a4y]; exact he) (fun b hb a ha => a1o (hL b hb a ha)) h
theorem Safe.freezeM {G : Heap} {β n w c : Nat} {oc : Option Nat} {π : Nat → Nat} {S : Nat → Nat → AV} {x : Cx} {todo : List AItem} {env : Env} {R : AV → Heap → Prop} (i : Nat) {L : Heap} {b : Blk} (hH : a0S (hM G β n w c oc π S)) (hx : x.n0 ≤ G.length) (hl : L[i]? = some (some b)) (hcl : ∀ c ∈ b.flat, Cl c)
    (h : Safe x todo (frzE (lid G i) b env) (hap (hM G β n w c oc π S) ((frzL (lid G i) b L).set i none)) R) (hpos : 0 < b.wd := by exact Nat.zero_lt_succ _) : Safe x todo env (hap (hM G β n w c oc π S) L) R :=
  Safe.freezeB i hH (by rw [c5M]; exact hx) hl hcl (by rw [a4y]; exact h) hpos
theorem a6c (H L M : Heap) : hap (hap H L) M = hap H (L ++ M) := by simp [hap]
theorem c9h {G L : Heap} {β n id : Nat} {O : List AV} {R : Nat → Option Blk} (hG : β + n < G.length) (hid : id < β) : hrow (hap (hm G β n O R) L) id = hrow G id := by
  rw [a7H _ _ _ (by rw [a1B]; omega)]
  simp only [hrow]
  rw [a1R _ _ _ _ _ _ (by omega), if_neg (by omega), if_neg (by omega)]
theorem d2t {G L : Heap} {β n id : Nat} {O : List AV} {R : Nat → Option Blk} (hG : β + n < G.length) (hid : id < β) (b : Option Blk) : (hap (hm G β n O R) L).set id b = hap (hm (G.set id b) β n O R) L := by
  rw [b8o _ _ _ _ (by rw [a1B]; omega)]
  congr 1
  apply List.ext_getElem?
  intro j
  rcases Nat.lt_or_ge j G.length with hj | hj
  · rw [List.getElem?_set, a1R _ _ _ _ _ _ hj, a1R _ _ _ _ _ _ (by rw [List.length_set]; exact hj), a1B, List.getElem?_set]
    by_cases h : id = j
    · subst h
      rw [if_pos rfl, if_pos (by omega), if_neg (by omega), if_neg (by omega), if_pos rfl]
    · rw [if_neg h, if_neg h]
  · rw [List.getElem?_eq_none (by rw [List.length_set, a1B]; exact hj), List.getElem?_eq_none (by rw [a1B, List.length_set]; exact hj)]
theorem e0S {G L : Heap} {β n w c id m : Nat} {oc : Option Nat} {π : Nat → Nat} {S : Nat → Nat → AV} (hG : β + n < G.length) (hid : id < β) {x v : AV} (h : G[id]? = some (some ⟨m, [x]⟩)) (hf : v.fit = true) (hv : v.cells.length = m) (env : Env) :
    a1y m (.loc id 0 0) v env (hap (hM G β n w c oc π S) L) = some (.top, env, hap (hM (G.set id (some ⟨m, [v]⟩)) β n w c oc π S) L) := by
  have hr : hrow (hap (hM G β n w c oc π S) L) id = some ⟨m, [x]⟩ := by unfold hM; rw [c9h hG hid]; simp [hrow, h]
  simp only [a1y, hr, Option.bind_some]
  rw [if_pos ⟨by simp, hf, hv, by omega⟩, a2n, List.set_cons_zero]
  unfold hM
  rw [d2t hG hid]
theorem e2e {G L : Heap} {β n w c id m : Nat} {oc : Option Nat} {π : Nat → Nat} {S : Nat → Nat → AV} (hG : β + n < G.length) (hid : id < β) {x : AV} (h : G[id]? = some (some ⟨m, [x]⟩)) : atV (hap (hM G β n w c oc π S) L) (.loc id 0 0) = some x.cells := by
  have hr : hrow (hap (hM G β n w c oc π S) L) id = some ⟨m, [x]⟩ := by unfold hM; rw [c9h hG hid]; simp [hrow, h]
  rw [a9X, hr]; rfl
theorem d7Z {H L : Heap} {β n w c : Nat} {oc : Option Nat} {π : Nat → Nat} {S : Nat → Nat → AV} (hβ : H.length ≤ β) (hG : β + n < (hap H L).length) : ∃ L', hM (hap H L) β n w c oc π S = hap H L' := by
  refine ⟨(hM (hap H L) β n w c oc π S).drop H.length, ?_⟩
  have ht : (hM (hap H L) β n w c oc π S).take H.length = H := by
    apply List.ext_getElem?
    intro j
    rw [List.getElem?_take]
    split
    · rename_i hj
      unfold hM
      have hl : (hap H L).length = H.length + L.length := by simp [hap]
      rw [a1R _ _ _ _ _ _ (by omega), if_neg (by omega), if_neg (by omega)]
      simp only [hap]
      rw [List.getElem?_append_left hj]
    · rename_i hj
      rw [List.getElem?_eq_none (by omega)]
  exact (List.take_append_drop H.length _).symm.trans (by rw [ht]; rfl)
end Go.Abs
namespace Go.Abs
theorem HOk.hrefs {φ : Nat → Option Nat} {H : Heap} {w : World} (h : HOk ⟨φ, H, w⟩) : a0S H := fun id b hb a ha => h.refs (E := ⟨φ, H, w⟩) hb a ha
/-- A row of what is handed out is no longer written. -/
theorem a0o.frz {P : Program} {f : FuncId} {args : List AV} {H : Heap} {R R2 : AV → Heap → Prop} (h : a0o P f args H R)
    (hR : a0S H → ∀ r H', R r H' → ∃ id b, H'[id]? = some (some b) ∧ (0 < b.wd ∧ ∀ c ∈ b.flat, Cl c) ∧ R2 (Abs.frz id b r) (frzH id b H')) : a0o P f args H R2 := by
  refine ⟨h.1, fun φ w vs hok hl hrep => (h.2 φ w vs hok hl hrep).mono ?_⟩
  rintro e w' ⟨v, r, φ', H', rfl, hr, q1, q2, q3, q4⟩
  obtain ⟨id, b, h1, ⟨h0, h2⟩, h3⟩ := hR hok.hrefs r H' hr
  exact ⟨v, _, φ', _, rfl, h3, d8b q1 h0 h1 h2, c7V q1 h0 h1 h2 q2, by simpa [frzH] using q3, q4.trans ((c7W (E := ⟨φ', H', w'⟩)).sub fun _ _ => trivial)⟩
theorem d6L {P : Nat → Prop} {id : Nat} {b : Blk} {a : AV} (h : Ref P a) : Ref P (frz id b a) := by
  induction h with
  | top => simp only [frz]; exact .top
  | int k n => simp only [frz]; exact .int k n
  | bool b' => simp only [frz]; exact .bool b'
  | str s => simp only [frz]; exact .str s
  | nil => simp only [frz]; exact .nil
  | lit v => simp only [frz]; exact .lit v
  | sl wd xs => simp only [frz]; exact .sl wd xs
  | ro x off => simp only [frz]; exact .ro x off
  | mu i off len oc h =>
    simp only [frz]; split
    · split
      · exact .sl _ _
      · exact .top
    · exact .mu i off len oc h
  | loc i k off h =>
    simp only [frz]; split
    · split
      · exact .ro _ _
      · exact .top
    · exact .loc i k off h
  | mp k i h =>
    simp only [frz]; split
    · exact .top
    · exact .mp k i h
  | mo l => simp only [frz]; exact .mo l
  | io i n seen => simp only [frz]; exact .io i n seen
  | agg cs h ih => simp only [frz]; exact .agg _ fun c hc => by obtain ⟨d, hd, rfl⟩ := List.mem_map.1 hc; exact ih d hd
  | tup cs h ih => simp only [frz]; exact .tup _ fun c hc => by obtain ⟨d, hd, rfl⟩ := List.mem_map.1 hc; exact ih d hd
  | fn f cs h ih => simp only [frz]; exact .fn f _ fun c hc => by obtain ⟨d, hd, rfl⟩ := List.mem_map.1 hc; exact ih d hd
  | bfn f cs h ih => simp only [frz]; exact .bfn f _ fun c hc => by obtain ⟨d, hd, rfl⟩ := List.mem_map.1 hc; exact ih d hd
theorem d3N {H : Heap} (h : a0S H) (id : Nat) (b : Blk) : a0S (frzH id b H) := by
  intro j x hx a ha
  obtain ⟨_, y, hy, rfl⟩ := a2t hx
  rw [b3B] at ha
  obtain ⟨c, hc, rfl⟩ := List.mem_map.1 ha
  have := d6L (id := id) (b := b) (h j y hy c hc)
  simpa [frzH] using this
theorem d9B {G : Heap} {β n m : Nat} {O : List AV} {R : Nat → Option Blk} (hG : β + n < G.length) (hm' : m < n) (b : Blk) : frzH (β + 1 + m) b (hm G β n O R) = hm (frzH (β + 1 + m) b G) β n (O.map (frz (β + 1 + m) b)) (fun t => if t = m then none else (R t).map (frzB (β + 1 + m) b)) := by
  apply List.ext_getElem?
  intro j
  have hl : (frzH (β + 1 + m) b G).length = G.length := by simp [frzH]
  rcases Nat.lt_or_ge j G.length with hj | hj
  · rw [c3T, a1R G _ _ _ _ j hj, a1R (frzH (β + 1 + m) b G) _ _ _ _ j (by omega), a1B, c3T]
    by_cases h1 : j = β
    · rw [if_neg (by omega), if_pos h1, if_pos h1]; rfl
    · rw [if_neg h1, if_neg h1]
      by_cases h2 : β < j ∧ j ≤ β + n
      · rw [if_pos h2, if_pos h2]
        by_cases h3 : j = β + 1 + m
        · rw [if_pos h3, if_pos (by omega), if_pos (by omega)]
        · rw [if_neg h3, if_neg (by omega)]; rfl
      · rw [if_neg h2, if_neg h2, if_neg (by omega)]
  · rw [List.getElem?_eq_none (by simp [frzH, a1B]; exact hj), List.getElem?_eq_none (by rw [a1B, hl]; exact hj)]
end Go.Abs
namespace Go.Abs
section
variable (n0 : Nat) (env : Env) (H L : Heap)
theorem d6Y : ev n0 .mkmap env H = some (.mp true H.length, env, H ++ [some ⟨0, [.mo []]⟩]) := rfl
def d6l (m k v : AV) (env : Env) (H : Heap) : Option (AV × Env × Heap) := match m, k, v with
    | .mp true id, .int .i64 x, .int .i64 y => (a5h H (.mp true id)).bind fun L =>
        if mget L x = none then some (.top, env, H.set id (some ⟨0, [.mo (L ++ [(x, y)])]⟩)) else none
    | _, _, _ => none
theorem d9L (m k v : Src) : ev n0 (.mset m k v) env H = d6l (m.ev env) (k.ev env) (v.ev env) env H := rfl
def d9h (m : AV) (env : Env) (H : Heap) : Option (AV × Env × Heap) := match m with
    | .mp true id => (a5h H (.mp true id)).bind fun L => some (.mp false H.length, env, H ++ [some ⟨0, [.io id L.length []]⟩])
    | _ => none
theorem d9M (m : Src) : ev n0 (.mrng m) env H = d9h (m.ev env) env H := rfl
def d3g (H : Heap) (m k : AV) : Option AV := match a5h H m, k with
    | some L, .int .i64 x => some (.tup [.int .i64 ((mget L x).getD 0), .bool (mget L x).isSome])
    | _, _ => none
theorem d5D (m k : Src) : pv (.mlook m k) env H = d3g H (m.ev env) (k.ev env) := rfl
def d9i (H : Heap) (a : AV) : Option AV := match a8i H a with
    | some (mid, n, seen) => match a5h H (.mp true mid), seen.getLast? with
      | some L, some i => if L.length = n then (L[i]?).map fun p => .tup [.int .i64 p.1, .int .i64 p.2] else none
      | _, _ => none
    | none => none
theorem d8O (a : Src) : pv (.ment a) env H = d9i H (a.ev env) := rfl
theorem d4P (P : Program) (a : Src) (d : Option Nat) (K : Env → Heap → Prop) : a4M P n0 (.nxt a) d K env H = d0E (a.ev env) H (ares K d env) := rfl
variable {H L}
theorem a9p {i : Nat} {l : List (Int × Int)} (hl : L[i]? = some (some ⟨0, [.mo l]⟩)) : a5h (hap H L) (.mp true (lid H i)) = some l := by
  simp [a5h, a1u, hl]
theorem c2I {i m n : Nat} {seen : List Nat} (hl : L[i]? = some (some ⟨0, [.io m n seen]⟩)) : a8i (hap H L) (.mp false (lid H i)) = some (m, n, seen) := by
  simp [a8i, a1u, hl]
theorem d6k {i : Nat} {l : List (Int × Int)} (hl : L[i]? = some (some ⟨0, [.mo l]⟩)) {x y : Int} (hx : mget l x = none) :
    d6l (.mp true (lid H i)) (.int .i64 x) (.int .i64 y) env (hap H L) = some (.top, env, hap H (L.set i (some ⟨0, [.mo (l ++ [(x, y)])]⟩))) := by
  simp only [d6l, a9p hl, Option.bind_some, a3D]
  rw [if_pos hx]
theorem d6n {i : Nat} {l : List (Int × Int)} (hl : L[i]? = some (some ⟨0, [.mo l]⟩)) :
    d9h (.mp true (lid H i)) env (hap H L) = some (.mp false (lid H L.length), env, hap H (L ++ [some ⟨0, [.io (lid H i) l.length []]⟩])) := by
  simp only [d9h, a9p hl, Option.bind_some, b5h, b2K]
theorem d3f {i : Nat} {l : List (Int × Int)} (hl : L[i]? = some (some ⟨0, [.mo l]⟩)) (x : Int) :
    d3g (hap H L) (.mp true (lid H i)) (.int .i64 x) = some (.tup [.int .i64 ((mget l x).getD 0), .bool (mget l x).isSome]) := by
  simp only [d3g, a9p hl]
theorem d6q {i mi : Nat} {l : List (Int × Int)} {seen : List Nat} {j : Nat} {p : Int × Int} (hl : L[i]? = some (some ⟨0, [.io (lid H mi) l.length (seen ++ [j])]⟩)) (hm : L[mi]? = some (some ⟨0, [.mo l]⟩)) (hp : l[j]? = some p) :
    d9i (hap H L) (.mp false (lid H i)) = some (.tup [.int .i64 p.1, .int .i64 p.2]) := by
  simp [d9i, c2I hl, a9p hm, hp]
theorem d6c {i mi : Nat} {l : List (Int × Int)} {seen : List Nat} (hl : L[i]? = some (some ⟨0, [.io (lid H mi) l.length seen]⟩)) (hm : L[mi]? = some (some ⟨0, [.mo l]⟩)) {K : AV → Heap → Prop}
    (h1 : ∀ j p, j ∉ seen → l[j]? = some p → K (.tup [.bool true, .int .i64 p.1, .int .i64 p.2]) (hap H (L.set i (some ⟨0, [.io (lid H mi) l.length (seen ++ [j])]⟩))))
    (h2 : (∀ j, j < l.length → j ∈ seen) → K (.tup [.bool false]) (hap H L)) : d0E (.mp false (lid H i)) (hap H L) K := by
  simp only [d0E, c2I hl, a9p hm, a3D]
  exact ⟨trivial, h1, h2⟩
end
theorem a3k (H : Heap) (i j : Nat) (k : Bool) (h : j ≠ i) : nref (lid H i) (.mp k (lid H j)) = true :=
  a0x.2 (.mp _ _ (by simp only [lid]; omega))
theorem c5R (H : Heap) (i j : Nat) (b : Blk) (k : Bool) (h : j ≠ i) : frz (lid H i) b (.mp k (lid H j)) = .mp k (lid H j) := by
  have : lid H j ≠ lid H i := by simp only [lid]; omega
  simp [frz, this]
theorem d8c (id : Nat) (b : Blk) (l : List (Int × Int)) : frz id b (.mo l) = .mo l := by simp [frz]
theorem e1K (id : Nat) (b : Blk) (i n : Nat) (s : List Nat) : frz id b (.io i n s) = .io i n s := by simp [frz]
theorem c5x {l : List (Int × Int)} {x : Int} (h : ∀ p ∈ l, x ≠ p.1) : mget l x = none := by
  induction l with
  | nil => rfl
  | cons p l ih => simp only [mget, if_neg (h p (by simp))]; exact ih fun q hq => h q (by simp [hq])
theorem d3i {l : List (Int × Int)} {x : Int} (h : ∃ p ∈ l, x = p.1) : (mget l x).isSome = true := by
  induction l with
  | nil => obtain ⟨p, hp, _⟩ := h; simp at hp
  | cons p l ih =>
    simp only [mget]
    split
    · rfl
    · rename_i hne
      refine ih ?_
      obtain ⟨q, hq, e⟩ := h
      rcases List.mem_cons.1 hq with rfl | hq
      · exact absurd e hne
      · exact ⟨q, hq, e⟩
/-- How many places were not met yet. -/
def c5H (r : Nat) (seen : List Nat) : Nat := ((List.range r).filter fun i => decide (i ∉ seen)).length
theorem b0h (r : Nat) (seen : List Nat) : c5H (r + 1) seen = c5H r seen + if r ∈ seen then 0 else 1 := by
  unfold c5H
  rw [List.range_succ, List.filter_append, List.length_append]
  by_cases h : r ∈ seen <;> simp [h]
theorem c9d (seen : List Nat) (j : Nat) : ∀ r, c5H r (seen ++ [j]) ≤ c5H r seen
  | 0 => Nat.le_refl _
  | r + 1 => by
    have ih := c9d seen j r
    rw [b0h, b0h]
    by_cases h : r ∈ seen
    · rw [if_pos h, if_pos (by simp [h])]; omega
    · rw [if_neg h]; split <;> omega
theorem c9c {seen : List Nat} {j : Nat} (h : j ∉ seen) : ∀ {r}, j < r → c5H r (seen ++ [j]) < c5H r seen
  | 0, hj => absurd hj (by omega)
  | r + 1, hj => by
    rw [b0h, b0h]
    by_cases e : j = r
    · subst e
      have := c9d seen j j
      rw [if_pos (by simp), if_neg h]; omega
    · have ih := c9c h (r := r) (by omega)
      by_cases h2 : r ∈ seen
      · rw [if_pos h2, if_pos (by simp [h2])]; omega
      · rw [if_neg h2]; split <;> omega
end Go.Abs
namespace Go.Abs
abbrev LB : Nat := 4294967296
def val : List Nat → Nat
  | [] => 0
  | d :: l => d + LB * val l
def Lim (l : List Nat) : Prop := ∀ d ∈ l, d < LB
/-- The limbs of a number, no nought at the end. -/
def limbs (n : Nat) : List Nat := if h : n = 0 then [] else n % LB :: limbs (n / LB)
termination_by n
decreasing_by exact Nat.div_lt_self (by omega) (by decide)
theorem a0V : limbs 0 = [] := by rw [limbs]; simp
theorem a5i {n : Nat} (h : n ≠ 0) : limbs n = n % LB :: limbs (n / LB) := by rw [limbs]; simp [h]
theorem a0i (n : Nat) : val (limbs n) = n := by
  induction n using Nat.strongRecOn with
  | _ n ih =>
    by_cases h : n = 0
    · subst h; rw [a0V]; rfl
    · rw [a5i h, val, ih (n / LB) (Nat.div_lt_self (by omega) (by decide))]
      exact Nat.mod_add_div n LB
theorem a0w (n : Nat) : Lim (limbs n) := by
  induction n using Nat.strongRecOn with
  | _ n ih =>
    by_cases h : n = 0
    · subst h; rw [a0V]; intro d hd; simp at hd
    · rw [a5i h]
      intro d hd
      rcases List.mem_cons.1 hd with rfl | hd
      · exact Nat.mod_lt _ (by decide)
      · exact ih (n / LB) (Nat.div_lt_self (by omega) (by decide)) d hd
theorem c3F : Lim [] := fun d hd => by simp at hd
theorem c9a {d : Nat} {l : List Nat} : Lim (d :: l) ↔ d < LB ∧ Lim l := by
  constructor
  · intro h; exact ⟨h d (by simp), fun e he => h e (by simp [he])⟩
  · rintro ⟨h1, h2⟩ e he
    rcases List.mem_cons.1 he with rfl | he
    · exact h1
    · exact h2 e he
theorem b5g {a b : List Nat} : Lim (a ++ b) ↔ Lim a ∧ Lim b := by
  constructor
  · intro h; exact ⟨fun d hd => h d (by simp [hd]), fun d hd => h d (by simp [hd])⟩
  · rintro ⟨h1, h2⟩ d hd
    rcases List.mem_append.1 hd with hd | hd
    · exact h1 d hd
    · exact h2 d hd
theorem Lim.take {l : List Nat} (h : Lim l) (n : Nat) : Lim (l.take n) := fun d hd => h d (List.mem_of_mem_take hd)
theorem Lim.drop {l : List Nat} (h : Lim l) (n : Nat) : Lim (l.drop n) := fun d hd => h d (List.mem_of_mem_drop hd)
theorem a6K (a b : List Nat) : val (a ++ b) = val a + LB ^ a.length * val b := by
  induction a with
  | nil => simp [val]
  | cons d a ih =>
    simp only [List.cons_append, val, ih, List.length_cons]
    rw [Nat.mul_add, ← Nat.mul_assoc, ← Nat.pow_succ', Nat.add_assoc]
theorem a1P {l : List Nat} (h : Lim l) : val l < LB ^ l.length := by
  induction l with
  | nil => simp [val]
  | cons d l ih =>
    have h' := c9a.1 h
    have := ih h'.2
    simp only [val, List.length_cons, Nat.pow_succ']
    have h1 : LB * (val l + 1) ≤ LB * LB ^ l.length := Nat.mul_le_mul_left _ this
    rw [Nat.mul_add, Nat.mul_one] at h1
    have := h'.1
    omega
theorem c3i (n : Nat) : val (List.replicate n 0) = 0 := by
  induction n with
  | zero => rfl
  | succ n ih => simp [List.replicate_succ, val, ih]
/-- A row without a nought at its end is the limbs of its number. -/
theorem a9q : ∀ {l : List Nat}, Lim l → (l.getLast?).getD 1 ≠ 0 → limbs (val l) = l
  | [], _, _ => a0V
  | d :: l, h, hl => by
    obtain ⟨h1, h2⟩ := c9a.1 h
    have hl' : (l.getLast?).getD 1 ≠ 0 := by
      cases l with
      | nil => simp
      | cons e l => simpa [List.getLast?_cons_cons] using hl
    have hne : val (d :: l) ≠ 0 := by
      intro h0
      simp only [val] at h0
      have hd : d = 0 := by omega
      have hv : val l = 0 := by
        have : LB * val l = 0 := by omega
        rcases Nat.mul_eq_zero.1 this with h | h
        · exact absurd h (by decide)
        · exact h
      have := a9q h2 hl'
      rw [hv, a0V] at this
      subst this
      subst hd
      simp at hl
    rw [a5i hne]
    simp only [val]
    rw [Nat.add_mul_mod_self_left, Nat.mod_eq_of_lt h1, Nat.add_mul_div_left _ _ (by decide), Nat.div_eq_of_lt h1, Nat.zero_add, a9q h2 hl']
theorem b0g (n : Nat) : ((limbs n).getLast?).getD 1 ≠ 0 := by
  induction n using Nat.strongRecOn with
  | _ n ih =>
    by_cases h : n = 0
    · subst h; rw [a0V]; simp
    · rw [a5i h]
      have := ih (n / LB) (Nat.div_lt_self (by omega) (by decide))
      cases hq : limbs (n / LB) with
      | nil =>
        have h0 : n / LB = 0 := by
          have := a0i (n / LB)
          rw [hq] at this
          exact this.symm
        have : n % LB = n := Nat.mod_eq_of_lt (by
          rcases Nat.lt_or_ge n LB with h' | h'
          · exact h'
          · have := Nat.div_pos h' (by decide); omega)
        simp [this, h]
      | cons e l =>
        rw [hq] at this
        simpa [List.getLast?_cons_cons] using this
theorem a0W {n k : Nat} (h : n < LB ^ k) : (limbs n).length ≤ k := by
  induction k generalizing n with
  | zero =>
    have : n = 0 := by simpa using h
    subst this; rw [a0V]; simp
  | succ k ih =>
    by_cases h0 : n = 0
    · subst h0; rw [a0V]; simp
    · rw [a5i h0, List.length_cons]
      have : n / LB < LB ^ k := by
        rw [Nat.div_lt_iff_lt_mul (by decide)]
        rwa [Nat.pow_succ] at h
      have := ih this
      omega
theorem c5G {n : Nat} (h : limbs n ≠ []) : LB ^ ((limbs n).length - 1) ≤ n := by
  induction n using Nat.strongRecOn with
  | _ n ih =>
    by_cases h0 : n = 0
    · subst h0; rw [a0V] at h; simp at h
    · rw [a5i h0, List.length_cons, Nat.add_sub_cancel]
      by_cases hq : limbs (n / LB) = []
      · rw [hq]; simp; omega
      · have := ih (n / LB) (Nat.div_lt_self (by omega) (by decide)) hq
        have hl : 0 < (limbs (n / LB)).length := List.length_pos_iff.2 hq
        have h1 : LB ^ (limbs (n / LB)).length = LB ^ ((limbs (n / LB)).length - 1) * LB := by
          rw [← Nat.pow_succ]; congr 1; omega
        rw [h1]
        exact Nat.le_trans (Nat.mul_le_mul_right _ this) (Nat.div_mul_le_self n LB)
theorem d1S (l : List Nat) : val (l ++ [0]) = val l := by rw [a6K]; simp [val]
theorem a4A (l : List Nat) (d : Nat) : val (l ++ [d]) = val l + LB ^ l.length * d := by rw [a6K]; simp [val]
theorem c3h {l : List Nat} {i : Nat} (h : i < l.length) : val (l.take (i + 1)) = val (l.take i) + LB ^ i * l[i] := by
  rw [List.take_succ_eq_append_getElem h, a4A, List.length_take, Nat.min_eq_left (by omega)]
theorem a1W {l : List Nat} (h : Lim l) (i : Nat) : l.getD i 0 < LB := by
  rw [List.getD_eq_getElem?_getD]
  rcases Nat.lt_or_ge i l.length with hi | hi
  · rw [List.getElem?_eq_getElem hi, Option.getD_some]; exact h _ (List.getElem_mem hi)
  · rw [List.getElem?_eq_none hi]; decide
/-- Up to a place; behind the end nothing comes. -/
theorem a0u (l : List Nat) (i : Nat) : val (l.take (i + 1)) = val (l.take i) + LB ^ i * l.getD i 0 := by
  rcases Nat.lt_or_ge i l.length with h | h
  · rw [c3h h, List.getD_eq_getElem?_getD, List.getElem?_eq_getElem h, Option.getD_some]
  · rw [List.take_of_length_le (by omega), List.take_of_length_le h, List.getD_eq_getElem?_getD, List.getElem?_eq_none h]; simp
theorem a4B (i : Nat) : 0 < LB ^ i := Nat.pow_pos (by decide)
/-- Which of two is greater is told from the top. -/
theorem b2X {a b : List Nat} {i : Nat} (ha : Lim a) (hb : Lim b) (h : a.drop (i + 1) = b.drop (i + 1)) (hi : i < a.length) (hi' : i < b.length) (hl : a.length = b.length) (hlt : a.getD i 0 < b.getD i 0) : val a < val b := by
  have e1 : a = a.take (i + 1) ++ a.drop (i + 1) := (List.take_append_drop _ _).symm
  have e2 : b = b.take (i + 1) ++ b.drop (i + 1) := (List.take_append_drop _ _).symm
  rw [e1, e2, a6K, a6K, h, a0u, a0u]
  have l1 : (a.take (i + 1)).length = i + 1 := by rw [List.length_take]; omega
  have l2 : (b.take (i + 1)).length = i + 1 := by rw [List.length_take]; omega
  rw [l1, l2]
  have h1 := a1P (ha.take i)
  rw [List.length_take, Nat.min_eq_left (by omega)] at h1
  have h2 : LB ^ i * (a.getD i 0 + 1) ≤ LB ^ i * b.getD i 0 := Nat.mul_le_mul_left _ hlt
  rw [Nat.mul_add] at h2
  omega
def blen (n : Nat) : Nat := if n = 0 then 0 else Nat.log2 n + 1
theorem c6q : blen 0 = 0 := rfl
theorem c8o (n : Nat) : n < 2 ^ blen n := by
  unfold blen
  split
  · rename_i h; subst h; decide
  · exact Nat.lt_log2_self
theorem c0z {n : Nat} (h : n ≠ 0) : 2 ^ (blen n - 1) ≤ n := by
  unfold blen
  rw [if_neg h, Nat.add_sub_cancel]
  exact Nat.log2_self_le h
theorem e0k {n k : Nat} (h1 : n < 2 ^ k) (h2 : k = 0 ∨ 2 ^ (k - 1) ≤ n) : blen n = k := by
  by_cases h0 : n = 0
  · subst h0
    rcases h2 with h2 | h2
    · rw [h2]; rfl
    · have := Nat.pow_pos (n := k - 1) (show 0 < 2 by decide); omega
  · have a := c8o n
    have b := c0z h0
    have c : 0 < blen n := by unfold blen; rw [if_neg h0]; omega
    have d : blen n - 1 < k := (Nat.pow_lt_pow_iff_right (by decide)).1 (Nat.lt_of_le_of_lt b h1)
    have e : k - 1 < blen n := by
      rcases h2 with h2 | h2
      · omega
      · exact (Nat.pow_lt_pow_iff_right (by decide)).1 (Nat.lt_of_le_of_lt h2 a)
    omega
/-- The lowest k bits do not count where others stand above them. -/
theorem c9F {h k r : Nat} (hh : h ≠ 0) (hr : r < 2 ^ k) : blen (r + 2 ^ k * h) = k + blen h := by
  have a := c8o h
  have b := c0z hh
  have c : 0 < blen h := by unfold blen; rw [if_neg hh]; omega
  refine e0k ?_ (.inr ?_)
  · rw [Nat.pow_add]
    have : 2 ^ k * (h + 1) ≤ 2 ^ k * 2 ^ blen h := Nat.mul_le_mul_left _ a
    rw [Nat.mul_add] at this
    omega
  · rw [show k + blen h - 1 = k + (blen h - 1) by omega, Nat.pow_add]
    have : 2 ^ k * 2 ^ (blen h - 1) ≤ 2 ^ k * h := Nat.mul_le_mul_left _ b
    omega
theorem c9E {n k : Nat} (h : 2 ^ k ≤ n) : blen n = k + blen (n / 2 ^ k) := by
  have hp : 0 < 2 ^ k := Nat.pow_pos (by decide)
  have h0 : n / 2 ^ k ≠ 0 := by
    have := Nat.div_pos h hp; omega
  have := c9F (r := n % 2 ^ k) h0 (Nat.mod_lt _ hp)
  rwa [Nat.mod_add_div] at this
theorem d7W (i : Nat) : LB ^ i = 2 ^ (32 * i) := by rw [Nat.pow_mul]
theorem d1G {l : List Nat} {d : Nat} (hl : Lim l) (hd : d ≠ 0) : blen (val (l ++ [d])) = 32 * l.length + blen d := by
  rw [a4A, d7W]
  exact c9F hd (by rw [← d7W]; exact a1P hl)
theorem a1z {l : List Nat} (h : Lim l) : (limbs (val l)).length ≤ l.length := a0W (a1P h)
/-- A row that may be handed round. -/
structure Nt (l : List Nat) : Prop where
  lim : Lim l
  len : l.length ≤ 17592186044416
theorem Nt.limbs {l : List Nat} (h : Nt l) : Nt (limbs (val l)) := ⟨a0w _, Nat.le_trans (a1z h.lim) h.len⟩
theorem c3n (x : List Nat) (k d : Nat) : (x ++ List.replicate (k + 1) 0).set x.length d = (x ++ [d]) ++ List.replicate k 0 := by
  rw [List.set_append_right _ _ (Nat.le_refl _), Nat.sub_self, List.replicate_succ, List.set_cons_zero]; simp
/-- One place of a sum. -/
theorem c8D {vd pa pb B c x y i : Nat} (h : vd + B * c = pa + pb) : (vd + B * ((c + x + y) % LB)) + (B * LB) * ((c + x + y) / LB) = (pa + B * x) + (pb + B * y) := by
  have e : (c + x + y) % LB + LB * ((c + x + y) / LB) = c + x + y := Nat.mod_add_div _ _
  have e2 : B * ((c + x + y) % LB) + (B * LB) * ((c + x + y) / LB) = B * (c + x + y) := by rw [Nat.mul_assoc, ← Nat.mul_add, e]
  have e3 : B * (c + x + y) = B * c + B * x + B * y := by rw [Nat.mul_add, Nat.mul_add]
  omega
theorem a3b {x : List Nat} {d : Nat} (h : Lim x) (hd : d < LB) : Lim (x ++ [d]) := b5g.2 ⟨h, by intro e he; simp at he; omega⟩
theorem d8r {w : List Nat} {k d : Nat} (h : k < w.length) : val (w.set k d) + LB ^ k * w.getD k 0 = val w + LB ^ k * d := by
  induction w generalizing k with
  | nil => simp at h
  | cons e w ih =>
    cases k with
    | zero => simp only [List.set_cons_zero, val, Nat.pow_zero, Nat.one_mul, List.getD_cons_zero]; omega
    | succ k =>
      simp only [List.set_cons_succ, val, List.getD_cons_succ, Nat.pow_succ']
      have := ih (k := k) (by simpa using h)
      have e1 : LB * (val (w.set k d) + LB ^ k * w.getD k 0) = LB * (val w + LB ^ k * d) := by rw [this]
      rw [Nat.mul_add, Nat.mul_add, ← Nat.mul_assoc, ← Nat.mul_assoc] at e1
      omega
theorem d9j {w : List Nat} {k d : Nat} (h : Lim w) (hd : d < LB) : Lim (w.set k d) := by
  intro e he
  rcases List.mem_or_eq_of_mem_set he with h' | h'
  · exact h e h'
  · rw [h']; exact hd
/-- One place of a difference. -/
theorem d3v {vx va vb B bo bo' d x y : Nat} (h : va + B * bo = vx + vb) (hd : x + LB * bo' = d + bo + y) : (va + B * x) + (B * LB) * bo' = (vx + B * d) + (vb + B * y) := by
  have e : B * (x + LB * bo') = B * (d + bo + y) := by rw [hd]
  rw [Nat.mul_add, Nat.mul_add, Nat.mul_add, ← Nat.mul_assoc] at e
  omega
/-- One place of a product. -/
theorem d6i {vw vx A B C c x y q vb vs t : Nat} (hC : C = A * B) (h : vw + C * c = vx + A * (x * vb)) (hs : vs + C * q = vw + C * (t % LB)) (ht : t = c + x * y + q) :
    vs + (C * LB) * (t / LB) = vx + A * (x * (vb + B * y)) := by
  have e : t % LB + LB * (t / LB) = t := Nat.mod_add_div _ _
  have e1 : C * (t % LB) + (C * LB) * (t / LB) = C * t := by rw [Nat.mul_assoc, ← Nat.mul_add, e]
  have e2 : C * t = C * c + C * (x * y) + C * q := by rw [ht, Nat.mul_add, Nat.mul_add]
  have e3 : A * (x * (vb + B * y)) = A * (x * vb) + C * (x * y) := by
    rw [hC, Nat.mul_add, Nat.mul_add, Nat.mul_assoc A B, Nat.mul_left_comm B x y]
  omega
theorem d6j {c x y q : Nat} (hc : c < LB) (hx : x < LB) (hy : y < LB) (hq : q < LB) : c + x * y + q < LB * LB := by
  have : x * y ≤ (LB - 1) * (LB - 1) := Nat.mul_le_mul (by omega) (by omega)
  have e : (LB - 1) * (LB - 1) + (LB - 1) + (LB - 1) < LB * LB := by decide
  omega
theorem d3V (a : List Nat) (n i : Nat) : (a.drop n).getD i 0 = a.getD (n + i) 0 := by simp [List.getD_eq_getElem?_getD, List.getElem?_drop]
theorem a6J (a : List Nat) (n : Nat) : val a = val (a.take n) + LB ^ n * val (a.drop n) := by
  rcases Nat.lt_or_ge a.length n with h | h
  · rw [List.take_of_length_le (by omega), List.drop_of_length_le (by omega)]; simp [val]
  · have := a6K (a.take n) (a.drop n)
    rwa [List.take_append_drop, List.length_take, Nat.min_eq_left h] at this
theorem a3C {a : List Nat} (h : Lim a) (n : Nat) : val (a.take n) < LB ^ n := by
  have h1 := a1P (h.take n)
  have h2 : LB ^ (a.take n).length ≤ LB ^ n := Nat.pow_le_pow_right (by decide) (by rw [List.length_take]; omega)
  omega
theorem b3y {a : List Nat} {i : Nat} (h : a.length ≤ i) : a.getD i 0 = 0 := by rw [List.getD_eq_getElem?_getD, List.getElem?_eq_none h]; rfl
theorem c4P {l : List Nat} {i : Nat} (h : i < l.length) : l.take (i + 1) = l.take i ++ [l.getD i 0] := by
  rw [List.take_succ_eq_append_getElem h, List.getD_eq_getElem?_getD, List.getElem?_eq_getElem h, Option.getD_some]
end Go.Abs
namespace Go.Abs
def u32s (l : List Nat) : List AV := l.map fun n : Nat => .int .u32 (n : Int)
def natV (l : List Nat) : AV := .sl 1 (u32s l)
theorem a0M (l : List Nat) : (u32s l).length = l.length := by simp [u32s]
theorem c6U (a b : List Nat) : u32s (a ++ b) = u32s a ++ u32s b := by simp [u32s]
theorem d5l : u32s [] = [] := rfl
theorem c4N (d : Nat) (l : List Nat) : u32s (d :: l) = .int .u32 (d : Int) :: u32s l := rfl
theorem b2Y (l : List Nat) (n : Nat) : (u32s l).take n = u32s (l.take n) := by simp [u32s, List.map_take]
theorem b7r (l : List Nat) (i d : Nat) : (u32s l).set i (.int .u32 (d : Int)) = u32s (l.set i d) := by simp [u32s, List.map_set]
theorem a8A {l : List Nat} {i : Nat} (h : i < l.length) : (u32s l).getD i .top = .int .u32 (l.getD i 0 : Nat) := by
  simp [u32s, h]
theorem d1U (l : List Nat) : (u32s l).flatMap AV.cells = u32s l := by
  induction l with
  | nil => rfl
  | cons d l ih => rw [c4N, List.flatMap_cons, ih]; rfl
theorem d5k (n : Nat) : List.replicate n (AV.int .u32 0) = u32s (List.replicate n 0) := by simp [u32s]
theorem d1V {l : List Nat} {a : AV} (h : a ∈ u32s l) : Cl a := by
  obtain ⟨n, _, rfl⟩ := List.mem_map.1 h; exact .int _ _
theorem b7s {l : List Nat} {a : AV} (h : a ∈ (u32s l).flatMap AV.cells) : Cl a := by rw [d1U] at h; exact d1V h
theorem a0t (l : List Nat) : ∀ a ∈ (Blk.mk 1 (u32s l)).flat, Cl a := fun a h => b7s h
theorem a2I (l : List Nat) : Cl (natV l) := .sl 1 _ fun c h => b7s h
theorem d1f (l : List Nat) : (natV l).cells = [natV l] := rfl
theorem d6g (l : List Nat) : (natV l).fit = true := rfl
theorem d3a (id : Nat) (l : List Nat) : nref id (natV l) = true := a1o (a2I l)
theorem d6h (l : List Nat) : clb (natV l) = true := c0w (a2I l)
theorem d6f (id : Nat) (b : Blk) (l : List Nat) : frz id b (natV l) = natV l := a6X (a2I l)
theorem d3b (id : Nat) (b : Blk) (l : List Nat) : (u32s l).map (frz id b) = u32s l := by
  rw [List.map_congr_left (g := fun x => x) fun a h => a6X (d1V h)]; simp
theorem a5M (H : Heap) (l : List Nat) : lenV H (natV l) = some (.int .i64 l.length) := by simp [natV, c7I, a0M]
theorem b7z (H : Heap) (l : List Nat) : a0N H 1 false (natV l) = some (u32s l) := a8D H 1 _
theorem a0Q (H : Heap) (l : List Nat) (k : IntKind) (i : Nat) (h : i < l.length) : idxV H 1 (natV l) (.int k i) = some (.ro (.int .u32 (l.getD i 0 : Nat)) 0) := by
  rw [natV, d3L _ _ _ _ _ (by omega) (by rw [a0M]; omega)]
  rw [Int.toNat_natCast, a8A h]
theorem d6d (H : Heap) (l : List Nat) (k : IntKind) (n : Nat) (h : n ≤ l.length) : slcV H 1 (natV l) none (some (.int k n)) none = some (natV (l.take n)) := by
  simp only [natV, slcV, a4l, Option.bind_some, a0M]
  rw [if_pos ⟨trivial, by omega, by omega, by omega⟩]
  simp [b2Y]
theorem d7V (H L : Heap) (i off len : Nat) (oc : Option Nat) {b : Blk} (h : L[i]? = some (some b)) : lenV (hap H L) (.mu (lid H i) off len oc) = some (.int .i64 len) := by
  rw [b9J, a1u, h]; simp
theorem b3m (H L : Heap) (wd i off len : Nat) (oc : Option Nat) (k : IntKind) (j : Nat) {b : Blk} (h : L[i]? = some (some b)) (hw : b.wd = wd) (hj : j < len) :
    idxV (hap H L) wd (.mu (lid H i) off len oc) (.int k j) = some (.loc (lid H i) (off + j) 0) := by
  rw [b5r _ _ _ _ _ _ _ _ (by omega) (by omega), a1u, h]; simp [hw]
theorem b7B (H L : Heap) (i k : Nat) {b : Blk} (h : L[i]? = some (some b)) (hk : k < b.xs.length) : atV (hap H L) (.loc (lid H i) k 0) = some (b.xs.getD k .top).cells := by
  rw [a9X, a1u, h]; simp [hk]
theorem b7q {n : Int} (h0 : 0 ≤ n) (h1 : n < 4294967296) : IntKind.wrap .u32 n = n := by
  simp [IntKind.wrap, IntKind.bits, IntKind.signed]; omega
theorem a1I {n : Int} (h0 : 0 ≤ n) (h1 : n < 18446744073709551616) : IntKind.wrap .u64 n = n := by
  simp [IntKind.wrap, IntKind.bits, IntKind.signed]; omega
theorem a0b {n : Int} (h0 : -9223372036854775808 ≤ n) (h1 : n < 9223372036854775808) : IntKind.wrap .i64 n = n := by
  simp [IntKind.wrap, IntKind.bits, IntKind.signed]; omega
theorem a2m (n : Nat) : IntKind.wrap .u32 (n : Int) = ((n % LB : Nat) : Int) := by
  simp [IntKind.wrap, IntKind.bits, IntKind.signed]
theorem a1O (n : Int) : IntKind.wrap .u64 n = n % 18446744073709551616 := by
  simp [IntKind.wrap, IntKind.bits, IntKind.signed]
theorem c8q (n0 : Nat) (env : Env) (H L : Heap) (l : List Nat) (h : l.length ≤ 17592186044416) :
    appV n0 1 4 false .nil (natV l) env (hap H L) = some (.mu (lid H L.length) 0 l.length none, env, hap H (L ++ [some ⟨1, u32s l⟩])) := by
  have := c9L n0 env H L 1 4 false (natV l) (u32s l) (b7z _ l) (by decide) (by rw [a0M]; omega) (by rw [a0M]; omega)
  rwa [a0M] at this
theorem b5y (H : Heap) (i : Nat) (l : List Nat) (oc : Option Nat) : frz (lid H i) ⟨1, u32s l⟩ (.mu (lid H i) 0 l.length oc) = natV l := by
  rw [b9U _ _ _ _ _ (by rw [a0M])]; rfl
/-- The rules for numbers. -/
def EN := And.intro @a5M (And.intro @b5y (And.intro @d3b (And.intro @d3a (And.intro @d6h (And.intro @d1f (And.intro @d6g (And.intro @d6f (And.intro @b7z @a0M))))))))
theorem d8Z (H : Heap) (X : Blk) (len : Nat) (oc : Option Nat) : lenV (hap H [some X]) (.mu (lid H 0) 0 len oc) = some (.int .i64 len) := d7V H [some X] 0 0 len oc rfl
theorem b4M (H : Heap) (X : List AV) (wd len : Nat) (oc : Option Nat) (k : IntKind) (j : Nat) (h : j < len) : idxV (hap H [some ⟨wd, X⟩]) wd (.mu (lid H 0) 0 len oc) (.int k j) = some (.loc (lid H 0) j 0) := by
  rw [b3m H [some ⟨wd, X⟩] wd 0 0 len oc k j rfl rfl h, Nat.zero_add]
theorem e1u (H : Heap) (x : List Nat) (j : Nat) (h : j < x.length) : atV (hap H [some ⟨1, u32s x⟩]) (.loc (lid H 0) j 0) = some [.int .u32 (x.getD j 0 : Nat)] := by
  rw [b7B H [some ⟨1, u32s x⟩] 0 j rfl (by simpa [a0M] using h)]
  simp only [a8A h, AV.cells]
theorem c5n (H : Heap) (env : Env) (x : List Nat) (j d : Nat) (h : j < x.length) : a1y 1 (.loc (lid H 0) j 0) (.int .u32 (d : Int)) env (hap H [some ⟨1, u32s x⟩]) = some (.top, env, hap H [some ⟨1, u32s (x.set j d)⟩]) := by
  rw [a3d env H [some ⟨1, u32s x⟩] 1 0 j 0 _ rfl (by simpa [a0M] using h) rfl rfl (Nat.le_refl 1)]
  simp only [a2n, b7r, List.set_cons_zero]
theorem b3n (env : Env) (H L : Heap) (k k' : IntKind) (n : Nat) (h : n ≤ 35184372088832) : b9p 1 4 (.int .u32 0) (.int k n) (.int k' n) env (hap H L) = some (.mu (lid H L.length) 0 n (some n), env, hap H (L ++ [some ⟨1, u32s (List.replicate n 0)⟩])) := by
  rw [a8P env H L 1 4 _ k k' n n (by decide) (Nat.le_refl _) (by omega) (by omega), d5k]
theorem b2W (n : Int) : IntKind.wrap .u32 n = n % 4294967296 := by
  simp [IntKind.wrap, IntKind.bits, IntKind.signed]
theorem e0V (t : Nat) : Int.fdiv (t : Int) (2 ^ min (Int.toNat 32) IntKind.u64.bits) = ((t / LB : Nat) : Int) := by
  rw [show (2 : Int) ^ min (Int.toNat 32) IntKind.u64.bits = (LB : Int) by decide, Int.fdiv_eq_ediv_of_nonneg _ (by decide)]; rfl
def E1 := And.intro EV (And.intro EVC EN)
end Go.Abs
namespace Go.Abs
def sgn (neg : Bool) (n : Nat) : Int := if neg then -(n : Int) else n
/-- A number as it is handed round: a sign, limbs. -/
structure ZI where
  neg : Bool
  mag : List Nat
def ZI.av (x : ZI) : AV := .agg [.bool x.neg, natV x.mag]
def ZI.z (x : ZI) : Int := sgn x.neg (val x.mag)
/-- The number in its one form. -/
def canZ (z : Int) : ZI := ⟨decide (z < 0), limbs z.natAbs⟩
def Z (z : Int) : AV := .agg [.bool (decide (z < 0)), natV (limbs z.natAbs)]
theorem b5C (z : Int) : (canZ z).av = Z z := rfl
theorem a0y (z : Int) : (canZ z).z = z := by
  unfold canZ ZI.z sgn
  simp only [a0i, decide_eq_true_eq]
  split <;> omega
theorem e2C (neg : Bool) (n : Nat) : .agg [.bool (neg && decide (0 < n)), natV (limbs n)] = Z (sgn neg n) := by
  unfold Z sgn
  cases neg
  · simp <;> omega
  · rcases Nat.eq_zero_or_pos n with h | h
    · subst h; simp
    · simp [h]
theorem b7u (neg : Bool) : sgn neg 0 = 0 := by cases neg <;> rfl
theorem b8n (neg : Bool) (n : Nat) : (sgn neg n).natAbs = n := by cases neg <;> simp [sgn]
theorem Z_cl (z : Int) : Cl (Z z) := .agg _ (by intro c hc; simp at hc; rcases hc with rfl | rfl; exact .bool _; exact a2I _)
theorem ZI.cl (x : ZI) : Cl x.av := .agg _ (by intro c hc; simp at hc; rcases hc with rfl | rfl; exact .bool _; exact a2I _)
theorem d4W : Z 0 = .agg [.bool false, natV []] := by unfold Z; simp [a0V]
theorem le_zero : Le (.agg [.bool false, .nil]) (Z 0) := by rw [d4W]; exact Le.agg2 (Le.refl _) (Le.nil 1 (by decide))
/-- The number's limbs. -/
structure Zok (k : Nat) (x : ZI) : Prop where
  lim : Lim x.mag
  len : x.mag.length ≤ k
theorem Zok.mono {k m : Nat} {x : ZI} (h : Zok k x) (hk : k ≤ m) : Zok m x := ⟨h.lim, Nat.le_trans h.len hk⟩
theorem Zok.lt {k : Nat} {x : ZI} (h : Zok k x) : val x.mag < LB ^ k := by
  have h1 := a1P h.lim
  have h2 : LB ^ x.mag.length ≤ LB ^ k := Nat.pow_le_pow_right (by decide) h.len
  omega
theorem Zok.abs {k : Nat} {x : ZI} (h : Zok k x) : x.z.natAbs < LB ^ k := by unfold ZI.z; rw [b8n]; exact h.lt
theorem a0z {k : Nat} {z : Int} (h : z.natAbs < LB ^ k) : Zok k (canZ z) := ⟨a0w _, a0W h⟩
section
variable (n0 : Nat) (env : Env) (H L : Heap)
def cpyV (wd : Nat) (x y : AV) (env : Env) (H : Heap) : Option (AV × Env × Heap) := (a0N H wd false y).bind fun ys => match x with
      | .mu id off len _ => (hrow H id).bind fun r =>
          if r.wd = wd ∧ off + len ≤ r.xs.length then
            some (.int .i64 (min ys.length len : Nat), env, H.set id (some ⟨wd, r.xs.take off ++ ys.take (min ys.length len) ++ r.xs.drop (off + min ys.length len)⟩)) else none
      | _ => none
theorem e1R (wd : Nat) (a b : Src) : ev n0 (.cpy wd a b) env H = cpyV wd (a.ev env) (b.ev env) env H := by
  simp only [ev, cpyV]; cases a0N H wd false (b.ev env) <;> simp only [Option.bind_none, Option.bind_some]; split <;> simp_all
theorem c9y (wd i len : Nat) (oc : Option Nat) (y : AV) (xs ys : List AV) (hl : L[i]? = some (some ⟨wd, xs⟩)) (hlen : len = xs.length) (hy : a0N (hap H L) wd false y = some ys) (hle : len ≤ ys.length) :
    cpyV wd (.mu (lid H i) 0 len oc) y env (hap H L) = some (.int .i64 len, env, hap H (L.set i (some ⟨wd, ys.take len⟩))) := by
  subst hlen
  simp only [cpyV, hy, Option.bind_some, a1u, hl, Option.join_some, a3D]
  rw [if_pos ⟨trivial, by omega⟩]
  simp [Nat.min_eq_right hle]
end
def EI := @e1R
def E2 := And.intro @EV2 (And.intro @EI @E1)
end Go.Abs
namespace Go.Abs
theorem ZI.av_fit (x : ZI) : x.av.fit = true := rfl
theorem ZI.av_cells (x : ZI) : x.av.cells = [.bool x.neg, natV x.mag] := rfl
theorem ZI.av_nref (id : Nat) (x : ZI) : nref id x.av = true := a1o x.cl
theorem ZI.av_frz (id : Nat) (b : Blk) (x : ZI) : frz id b x.av = x.av := a6X x.cl
theorem e0v (z : Int) : (Z z).cells = [.bool (decide (z < 0)), natV (limbs z.natAbs)] := rfl
theorem e2i (z : Int) : (Z z).fit = true := rfl
theorem e2h (id : Nat) (z : Int) : nref id (Z z) = true := a1o (Z_cl z)
theorem e2D (id : Nat) (b : Blk) (z : Int) : frz id b (Z z) = Z z := a6X (Z_cl z)
def vecV (v : List ZI) : AV := .sl 2 (v.map ZI.av)
def matV (b : List (List ZI)) : AV := .sl 1 (b.map vecV)
theorem b2I {a : AV} (h : Cl a) : ∀ c ∈ a.cells, Cl c := by
  intro c hc
  cases a with
  | agg cs => cases h with | agg _ h => exact h c hc
  | mo l => cases h
  | io i n s => cases h
  | _ => simp [AV.cells] at hc; subst hc; exact h
theorem e0h {α : Type} (wd : Nat) (f : α → AV) (l : List α) (h : ∀ x, Cl (f x)) : Cl (.sl wd (l.map f)) := by
  refine .sl wd _ fun c hc => ?_
  obtain ⟨x, hx, hc⟩ := List.mem_flatMap.1 hc
  obtain ⟨y, _, rfl⟩ := List.mem_map.1 hx
  exact b2I (h y) c hc
theorem a0d (v : List ZI) : Cl (vecV v) := e0h 2 _ v ZI.cl
theorem a9o (b : List (List ZI)) : Cl (matV b) := e0h 1 _ b a0d
theorem d0b (v : List ZI) : (vecV v).cells = [vecV v] := rfl
theorem d5g (v : List ZI) : (vecV v).fit = true := rfl
theorem d1R (id : Nat) (v : List ZI) : nref id (vecV v) = true := a1o (a0d v)
theorem d5h (v : List ZI) : clb (vecV v) = true := c0w (a0d v)
theorem d5f (id : Nat) (b : Blk) (v : List ZI) : frz id b (vecV v) = vecV v := a6X (a0d v)
theorem d1n (v : List (List ZI)) : (matV v).cells = [matV v] := rfl
theorem d6s (v : List (List ZI)) : (matV v).fit = true := rfl
theorem d3m (id : Nat) (v : List (List ZI)) : nref id (matV v) = true := a1o (a9o v)
theorem d6t (v : List (List ZI)) : clb (matV v) = true := c0w (a9o v)
theorem d6r (id : Nat) (b : Blk) (v : List (List ZI)) : frz id b (matV v) = matV v := a6X (a9o v)
section
variable (H : Heap)
theorem d2h {α : Type} (wd : Nat) (f : α → AV) (l : List α) : lenV H (.sl wd (l.map f)) = some (.int .i64 l.length) := by rw [c7I, List.length_map]
theorem d2i {α : Type} (wd : Nat) (f : α → AV) (l : List α) (k : IntKind) (i : Nat) (h : i < l.length) : idxV H wd (.sl wd (l.map f)) (.int k i) = some (.ro (f l[i]) 0) := by
  rw [d3L _ _ _ _ _ (by omega) (by rw [List.length_map]; omega)]
  simp [h]
theorem c3g (v : List ZI) : lenV H (vecV v) = some (.int .i64 v.length) := d2h H 2 _ v
theorem a0B (v : List ZI) (k : IntKind) (i : Nat) (h : i < v.length) : idxV H 2 (vecV v) (.int k i) = some (.ro v[i].av 0) := d2i H 2 _ v k i h
theorem b5d (v : List (List ZI)) : lenV H (matV v) = some (.int .i64 v.length) := d2h H 1 _ v
theorem a2g (v : List (List ZI)) (k : IntKind) (i : Nat) (h : i < v.length) : idxV H 1 (matV v) (.int k i) = some (.ro (vecV v[i]) 0) := d2i H 1 _ v k i h
/-- The elements of a row of the call's own, each closed. -/
theorem a1j {α : Type} (wd : Nat) (f : α → AV) (l : List α) (h : ∀ x, Cl (f x)) : ∀ a ∈ (Blk.mk wd (l.map f)).flat, Cl a := by
  intro a ha
  obtain ⟨x, hx, hc⟩ := List.mem_flatMap.1 ha
  obtain ⟨y, _, rfl⟩ := List.mem_map.1 hx
  exact b2I (h y) a hc
theorem d3Y {α : Type} (id : Nat) (b : Blk) (f : α → AV) (l : List α) (h : ∀ x, Cl (f x)) : (l.map f).map (frz id b) = l.map f := by
  rw [List.map_map]
  exact List.map_congr_left fun x _ => a6X (h x)
theorem c2O {α : Type} (i : Nat) (wd : Nat) (f : α → AV) (l : List α) (oc : Option Nat) : frz (lid H i) ⟨wd, l.map f⟩ (.mu (lid H i) 0 l.length oc) = .sl wd (l.map f) := by
  rw [b9U _ _ _ _ _ (by rw [List.length_map])]
end
structure Vok (k : Nat) (v : List ZI) : Prop where
  len : v.length ≤ 2097152
  el : ∀ x ∈ v, Zok k x
structure Mok (k : Nat) (b : List (List ZI)) : Prop where
  len : b.length ≤ 2097152
  el : ∀ v ∈ b, Vok k v
theorem Vok.mono {k m : Nat} {v : List ZI} (h : Vok k v) (hk : k ≤ m) : Vok m v := ⟨h.len, fun x hx => (h.el x hx).mono hk⟩
theorem Mok.mono {k m : Nat} {b : List (List ZI)} (h : Mok k b) (hk : k ≤ m) : Mok m b := ⟨h.len, fun x hx => (h.el x hx).mono hk⟩
theorem Vok.get {k : Nat} {v : List ZI} (h : Vok k v) {i : Nat} (hi : i < v.length) : Zok k v[i] := h.el _ (List.getElem_mem hi)
theorem Mok.get {k : Nat} {v : List (List ZI)} (h : Mok k v) {i : Nat} (hi : i < v.length) : Vok k v[i] := h.el _ (List.getElem_mem hi)
theorem c4G : (0 < 2) = True := by decide
/-- The rules for vectors. -/
def EM := And.intro c4G <| And.intro @c3g (And.intro @b5d (And.intro @d0b (And.intro @d5g (And.intro @d1R (And.intro @d5h (And.intro @d5f (And.intro @d1n (And.intro @d6s (And.intro @d3m (And.intro @d6t (And.intro @d6r
  (And.intro @ZI.av_fit (And.intro @ZI.av_cells (And.intro @ZI.av_nref (And.intro @ZI.av_frz (And.intro @e0v (And.intro @e2i (And.intro @e2h @e2D))))))))))))))))))
def ordZ : List Int → List Int → Int
  | [], [] => 0
  | [], _ :: _ => -1
  | _ :: _, [] => 1
  | a :: u, b :: v => if (a - b).sign = 0 then ordZ u v else (a - b).sign
theorem c5m : ∀ {u v : List Int}, ordZ u v = 0 ↔ u = v
  | [], [] => by simp [ordZ]
  | [], b :: v => by simp [ordZ]
  | a :: u, [] => by simp [ordZ]
  | a :: u, b :: v => by
    simp only [ordZ]
    split
    · rename_i h
      have hab : a = b := by
        have := Int.sign_eq_zero_iff_zero.1 h
        omega
      rw [c5m]; simp [hab]
    · rename_i h
      constructor
      · intro h'; exact absurd h' h
      · intro h'; simp at h'; exact absurd (by rw [h'.1]; simp) h
def zs (v : List ZI) : List Int := v.map ZI.z
def E3 := And.intro EM @E2
end Go.Abs
namespace Go.Abs
/-- The i-th entry of a vector, a matrix. -/
def zg (v : List ZI) (i : Nat) : Int := (v.getD i ⟨false, []⟩).z
def mg (b : List (List ZI)) (i : Nat) : List ZI := b.getD i []
theorem b2T {v : List ZI} {i : Nat} (h : i < v.length) : zg v i = v[i].z := by simp [zg, h]
theorem a5A {b : List (List ZI)} {i : Nat} (h : i < b.length) : mg b i = b[i] := by simp [mg, h]
/-- The vector in the one form of these entries. -/
def vec (n : Nat) (f : Nat → Int) : List ZI := (List.range n).map fun i => canZ (f i)
def mat (n : Nat) (f : Nat → List ZI) : List (List ZI) := (List.range n).map f
theorem a0a (n : Nat) (f : Nat → Int) : (vec n f).length = n := by simp [vec]
theorem a0c (n : Nat) (f : Nat → List ZI) : (mat n f).length = n := by simp [mat]
theorem a4z (n : Nat) (f : Nat → Int) : vec (n + 1) f = vec n f ++ [canZ (f n)] := by simp [vec, List.range_succ]
theorem a5S (n : Nat) (f : Nat → List ZI) : mat (n + 1) f = mat n f ++ [f n] := by simp [mat, List.range_succ]
theorem a1T {n : Nat} {f : Nat → Int} {i : Nat} (h : i < (vec n f).length) : (vec n f)[i] = canZ (f i) := by simp [vec]
theorem a3H {n : Nat} {f : Nat → List ZI} {i : Nat} (h : i < (mat n f).length) : (mat n f)[i] = f i := by simp [mat]
theorem a4W {n : Nat} {f g : Nat → Int} (h : ∀ i, i < n → f i = g i) : vec n f = vec n g :=
  List.map_congr_left fun i hi => by rw [h i (List.mem_range.1 hi)]
theorem d3l {n : Nat} {f g : Nat → List ZI} (h : ∀ i, i < n → f i = g i) : mat n f = mat n g :=
  List.map_congr_left fun i hi => h i (List.mem_range.1 hi)
theorem a6I {n : Nat} {f : Nat → Int} {i : Nat} (h : i < n) : zg (vec n f) i = f i := by
  rw [b2T (by rw [a0a]; exact h), a1T, a0y]
theorem c8W {n : Nat} {f : Nat → List ZI} {i : Nat} (h : i < n) : mg (mat n f) i = f i := by
  rw [a5A (by rw [a0c]; exact h), a3H]
theorem a4V {k n : Nat} {f : Nat → Int} (hn : n ≤ 2097152) (h : ∀ i, i < n → (f i).natAbs < LB ^ k) : Vok k (vec n f) := by
  refine ⟨by rw [a0a]; exact hn, fun x hx => ?_⟩
  obtain ⟨i, hi, rfl⟩ := List.mem_map.1 hx
  exact a0z (h i (List.mem_range.1 hi))
theorem d5b {k m n : Nat} {f : Nat → Int} (hn : n ≤ 2097152) (h : ∀ i, i < n → (f i).natAbs < LB ^ k) (hkm : k ≤ m) : Vok m (vec n f) := (a4V hn h).mono hkm
theorem c3y {k n : Nat} {f : Nat → List ZI} (hn : n ≤ 2097152) (h : ∀ i, i < n → Vok k (f i)) : Mok k (mat n f) := by
  refine ⟨by rw [a0c]; exact hn, fun x hx => ?_⟩
  obtain ⟨i, hi, rfl⟩ := List.mem_map.1 hx
  exact h i (List.mem_range.1 hi)
theorem Vok.abs {k : Nat} {v : List ZI} (h : Vok k v) (i : Nat) : (zg v i).natAbs < LB ^ k := by
  rcases Nat.lt_or_ge i v.length with hi | hi
  · rw [b2T hi]; exact (h.get hi).abs
  · simp [zg, hi, ZI.z, sgn, val]
    exact Nat.pow_pos (by decide)
theorem Mok.row {k : Nat} {b : List (List ZI)} (h : Mok k b) (i : Nat) : Vok k (mg b i) := by
  rcases Nat.lt_or_ge i b.length with hi | hi
  · rw [a5A hi]; exact h.get hi
  · simp [mg, hi]
    exact ⟨by simp, by simp⟩
theorem d3y (a b : Nat) : LB ^ (a + b) = LB ^ a * LB ^ b := Nat.pow_add _ _ _
theorem a2G (a : Nat) : 0 < LB ^ a := Nat.pow_pos (by decide)
theorem c7J {a b : Nat} (h : a ≤ b) : LB ^ a ≤ LB ^ b := Nat.pow_le_pow_right (by decide) h
theorem b5b {x y : Int} {k l : Nat} (hx : x.natAbs < LB ^ k) (hy : y.natAbs < LB ^ l) : (x * y).natAbs < LB ^ (k + l) := by
  rw [Int.natAbs_mul, d3y]
  exact Nat.mul_lt_mul'' hx hy
theorem e0t {x y : Int} {k : Nat} (hx : x.natAbs < LB ^ k) (hy : y.natAbs < LB ^ k) : (x + y).natAbs < LB ^ (k + 1) := by
  have h := Int.natAbs_add_le x y
  rw [d3y]
  have : LB = 4294967296 := rfl
  have := a2G k
  rw [Nat.pow_one]
  generalize LB ^ k = c at *
  calc (x + y).natAbs ≤ x.natAbs + y.natAbs := h
    _ < c * 2 := by omega
    _ ≤ c * LB := Nat.mul_le_mul_left _ (by decide)
theorem d8v {x y : Int} {k : Nat} (hx : x.natAbs < LB ^ k) (hy : y.natAbs < LB ^ k) : (x - y).natAbs < LB ^ (k + 1) := by
  rw [Int.sub_eq_add_neg]
  exact e0t hx (by rwa [Int.natAbs_neg])
/-- Sums. -/
def b0q (f : Nat → Int) : Nat → Int
  | 0 => 0
  | n + 1 => b0q f n + f n
theorem b8k {f g : Nat → Int} : ∀ {n : Nat}, (∀ i, i < n → f i = g i) → b0q f n = b0q g n
  | 0, _ => rfl
  | n + 1, h => by rw [b0q, b0q, b8k fun i hi => h i (by omega), h n (by omega)]
theorem c8E {f : Nat → Int} {B : Nat} : ∀ (n : Nat), (∀ i, i < n → (f i).natAbs < B) → (b0q f n).natAbs ≤ n * B
  | 0, _ => by simp [b0q]
  | n + 1, h => by
    have h1 := c8E n fun i hi => h i (by omega)
    have h2 := h n (by omega)
    have h3 := Int.natAbs_add_le (b0q f n) (f n)
    rw [b0q, Nat.add_mul]
    omega
/-- A sum of so many, each of k limbs, has two limbs more. -/
theorem d1Z {f : Nat → Int} {k n : Nat} (hn : n ≤ 2097152) (h : ∀ i, i < n → (f i).natAbs < LB ^ k) : (b0q f n).natAbs < LB ^ (k + 2) := by
  have h1 := c8E n h
  rw [d3y]
  have hp := a2G k
  generalize LB ^ k = c at *
  have h2 : n * c ≤ 2097152 * c := Nat.mul_le_mul_right _ hn
  have h3 : c * LB ^ 2 = 18446744073709551616 * c := by rw [Nat.mul_comm]; rfl
  omega
section
variable {H : Heap}
/-- c2X rows. -/
def RC (L : Heap) : Prop := ∀ b, some b ∈ L → ∀ a ∈ b.flat, Cl a
theorem RC.nil : RC [] := fun b h => by cases h
theorem RC.none {L : Heap} (h : RC L) : RC (none :: L) := fun b hb a ha => by
  rcases List.mem_cons.1 hb with e | e
  · cases e
  · exact h b e a ha
theorem RC.cons {b : Blk} {L : Heap} (hb : ∀ a ∈ b.flat, Cl a) (h : RC L) : RC (some b :: L) := fun c hc a ha => by
  rcases List.mem_cons.1 hc with e | e
  · cases e; exact hb a ha
  · exact h c e a ha
theorem RC.row {α : Type} {wd : Nat} {f : α → AV} {l : List α} {L : Heap} (hf : ∀ x, Cl (f x)) (h : RC L) : RC (some ⟨wd, l.map f⟩ :: L) := .cons (a1j wd f l hf) h
theorem RC.one {wd : Nat} {x : AV} {L : Heap} (hx : Cl x) (h : RC L) : RC (some ⟨wd, [x]⟩ :: L) := .cons (fun a ha => by
  simp only [Blk.flat, List.flatMap_cons, List.flatMap_nil, List.append_nil] at ha
  exact b2I hx a ha) h
theorem RC.emp {wd : Nat} {L : Heap} (h : RC L) : RC (some ⟨wd, []⟩ :: L) := .cons (fun a ha => by cases ha) h
theorem RC.mo {l : List (Int × Int)} {L : Heap} (h : RC L) : RC (some ⟨0, [.mo l]⟩ :: L) := .cons (fun a ha => by cases ha) h
theorem RC.io {i n : Nat} {s : List Nat} {L : Heap} (h : RC L) : RC (some ⟨0, [.io i n s]⟩ :: L) := .cons (fun a ha => by cases ha) h
theorem RC.zero {L : Heap} (h : RC L) : RC (some ⟨2, [.agg [.bool false, .nil]]⟩ :: L) := .one (.agg _ (by
  intro c hc
  simp only [List.mem_cons, List.not_mem_nil, or_false] at hc
  rcases hc with rfl | rfl
  · exact .bool _
  · exact .nil)) h
theorem a9Y {α : Type} (hH : a0S H) {L : Heap} (i : Nat) {n0 : Nat} (hn : n0 ≤ lid H i) {env : Env} {wd bytes : Nat} {f : α → AV} (hf : ∀ x, Cl (f x)) (l : List α) (x : α) (l' : List α) {y : AV} {len : Nat}
    (hlen : len = l.length) (hl : L[i]? = some (some ⟨wd, l.map f⟩)) (hL : RC L) (hy : y = f x) (hl' : l' = l ++ [x]) (hb : (len + 1) * bytes ≤ 140737488355328) (hbb : len + 1 ≤ 9223372036854775807) :
    appV n0 wd bytes false (.mu (lid H i) 0 len none) (.sl wd [y]) env (hap H L) = some (.mu (lid H i) 0 (len + 1) none, scrub (lid H i) env, hap H (L.set i (some ⟨wd, l'.map f⟩))) := by
  subst hy
  subst hl'
  have := c4x n0 env H L wd bytes false i len none (.sl wd [f x]) (l.map f) [f x] hH hl (by rw [List.length_map]; exact hlen) hn (a8D _ wd _) (c9K hL) (by
    intro a ha
    simp at ha
    exact (b2I (hf x) a ha).ref) (by simpa using hb) (by simpa using hbb) rfl
  simpa [a1Z] using this
theorem c4v {α : Type} {L : Heap} (i : Nat) {n0 : Nat} (hn : n0 ≤ lid H i) {env : Env} {wd bytes : Nat} {f : α → AV} (l : List α) (x : α) (l' : List α) {y : AV} {len c : Nat}
    (hlen : len = l.length) (hl : L[i]? = some (some ⟨wd, l.map f⟩)) (hy : y = f x) (hl' : l' = l ++ [x]) (hc : len + 1 ≤ c) :
    appV n0 wd bytes false (.mu (lid H i) 0 len (some c)) (.sl wd [y]) env (hap H L) = some (.mu (lid H i) 0 (len + 1) (some c), env, hap H (L.set i (some ⟨wd, l'.map f⟩))) := by
  subst hy
  subst hl'
  have := d4Q n0 env H L wd bytes false i len c (.sl wd [f x]) (l.map f) [f x] hl (by rw [List.length_map]; exact hlen) hn (a8D _ wd _) (by simp) (by simpa using hc)
  simpa using this
theorem c3z (env : Env) (L : Heap) (wd bytes : Nat) (z : AV) (k k' : IntKind) (c : Nat) (h0 : 0 < wd) (h2 : bytes * c ≤ 281474976710656) (h3 : c ≤ 9223372036854775807) :
    b9p wd bytes z (.int k 0) (.int k' c) env (hap H L) = some (.mu (lid H L.length) 0 0 (some c), env, hap H (L ++ [some ⟨wd, []⟩])) := by
  have := a8P env H L wd bytes z k k' 0 c h0 (Nat.zero_le _) h2 h3
  simpa using this
theorem c3Q {α : Type} (i wd : Nat) (f : α → AV) (l : List α) (len : Nat) (oc : Option Nat) (h : len = l.length) : frz (lid H i) ⟨wd, l.map f⟩ (.mu (lid H i) 0 len oc) = .sl wd (l.map f) := by
  subst h; exact c2O H i wd f l oc
section
variable {x : Cx} {todo : List AItem} {env : Env} {R : AV → Heap → Prop} {a b c d e : Option Blk}
theorem Safe.drop1 (hH : a0S H) (hx : x.n0 = H.length) (he : env.all (fun p => nref (lid H 1) p.2) = true) (hL : RC [a]) (h : Safe x todo env (hap H [a]) R) : Safe x todo env (hap H [a, b]) R := Safe.dropC (L := [a]) hH hx he hL h
theorem Safe.drop2 (hH : a0S H) (hx : x.n0 = H.length) (he : env.all (fun p => nref (lid H 2) p.2) = true) (hL : RC [a, b]) (h : Safe x todo env (hap H [a, b]) R) : Safe x todo env (hap H [a, b, c]) R := Safe.dropC (L := [a, b]) hH hx he hL h
theorem Safe.drop3 (hH : a0S H) (hx : x.n0 = H.length) (he : env.all (fun p => nref (lid H 3) p.2) = true) (hL : RC [a, b, c]) (h : Safe x todo env (hap H [a, b, c]) R) : Safe x todo env (hap H [a, b, c, d]) R := Safe.dropC (L := [a, b, c]) hH hx he hL h
theorem Safe.drop4 (hH : a0S H) (hx : x.n0 = H.length) (he : env.all (fun p => nref (lid H 4) p.2) = true) (hL : RC [a, b, c, d]) (h : Safe x todo env (hap H [a, b, c, d]) R) : Safe x todo env (hap H [a, b, c, d, e]) R := Safe.dropC (L := [a, b, c, d]) hH hx he hL h
end
/-- A number not yet written is told as 0. -/
theorem Safe.told0 (i : Nat) {x : Cx} {todo : List AItem} {env : Env} {L : Heap} {R : AV → Heap → Prop} (hl : L[i]? = some (some ⟨2, [.agg [.bool false, .nil]]⟩)) (h : Safe x todo env (hap H (L.set i (some ⟨2, [Z 0]⟩))) R) : Safe x todo env (hap H L) R := by
  rw [d4W] at h
  refine Safe.toldRow (b' := ⟨2, [.agg [.bool false, natV []]]⟩) i hl rfl (by intro y hy; simp at hy; subst hy; rfl) rfl (by simp) ?_ h
  intro k a c ha hc
  match k with
  | 0 => cases ha; cases hc; exact Le.refl _
  | 1 => cases ha; cases hc; exact Le.nil 1 (by decide)
  | k + 2 => simp [Blk.flat, AV.cells] at ha
end
end Go.Abs
namespace Go.Abs
section
variable {x : Cx} {todo : List AItem} {env : Env} {R : AV → Heap → Prop} {H : Heap} {b : Option Blk}
theorem Safe.drop0 (hH : a0S H) (hx : x.n0 = H.length) (he : env.all (fun p => nref (lid H 0) p.2) = true) (hL : RC []) (h : Safe x todo env (hap H []) R) : Safe x todo env (hap H [b]) R := Safe.dropC (L := []) hH hx he hL h
theorem b6N {n : Nat} {a : AV} {k : Nat} {c : AV} (h : ((List.replicate n a).flatMap AV.cells)[k]? = some c) : ∃ j, a.cells[j]? = some c ∧ j = k % a.cells.length ∧ k / a.cells.length < n := by
  induction n generalizing k with
  | zero => simp at h
  | succ n ih =>
    rw [List.replicate_succ, List.flatMap_cons] at h
    rcases Nat.lt_or_ge k a.cells.length with hk | hk
    · rw [List.getElem?_append_left hk] at h
      exact ⟨k, h, (Nat.mod_eq_of_lt hk).symm, by rw [Nat.div_eq_of_lt hk]; omega⟩
    · rw [List.getElem?_append_right hk] at h
      obtain ⟨j, h1, h2, h3⟩ := ih h
      have hp : 0 < a.cells.length := by
        rcases Nat.eq_zero_or_pos a.cells.length with h0 | h0
        · have := a0e h1; omega
        · exact h0
      refine ⟨j, h1, ?_, ?_⟩
      · rw [h2, Nat.mod_eq_sub_mod hk]
      · rw [Nat.div_eq_sub_div hp hk]; omega
theorem b5Z {n wd : Nat} {a : AV} (h : a.cells.length = wd) : ((List.replicate n a).flatMap AV.cells).length = n * wd := by
  rw [a2d (wd := wd)]
  · simp
  · intro x hx; rw [List.eq_of_mem_replicate hx]; exact h
/-- Numbers not yet written are told as 0. -/
theorem Safe.toldRep (i n : Nat) {L : Heap} (hl : L[i]? = some (some ⟨2, List.replicate n (.agg [.bool false, .nil])⟩)) (h : Safe x todo env (hap H (L.set i (some ⟨2, (vec n fun _ => 0).map ZI.av⟩))) R) : Safe x todo env (hap H L) R := by
  have e : (vec n fun _ => 0).map ZI.av = List.replicate n (.agg [.bool false, natV []]) := by
    apply List.ext_getElem
    · simp [a0a]
    · intro j h1 h2
      simp only [List.getElem_map, a1T, b5C, d4W, List.getElem_replicate]
  rw [e] at h
  refine Safe.toldRow (b' := ⟨2, List.replicate n (.agg [.bool false, natV []])⟩) i hl rfl (by intro y hy; rw [List.eq_of_mem_replicate hy]; rfl) ?_ (by simp) ?_ h
  · show ((List.replicate n _).flatMap AV.cells).length = ((List.replicate n _).flatMap AV.cells).length
    rw [b5Z (wd := 2) rfl, b5Z (wd := 2) rfl]
  · intro k a c ha hc
    obtain ⟨j, h1, h2, _⟩ := b6N ha
    obtain ⟨j', h1', h2', _⟩ := b6N hc
    have : j' = j := by rw [h2, h2']; rfl
    subst this
    match j' with
    | 0 => cases h1; cases h1'; exact Le.refl _
    | 1 => cases h1; cases h1'; exact Le.nil 1 (by decide)
    | j + 2 => simp [AV.cells] at h1
end
/-- One entry written. -/
def updF (f : Nat → Int) (i : Nat) (z : Int) : Nat → Int := fun k => if k = i then z else f k
theorem c6R (n : Nat) (f : Nat → Int) (i : Nat) (z : Int) : ((vec n f).map ZI.av).set i (Z z) = (vec n (updF f i z)).map ZI.av := by
  apply List.ext_getElem
  · simp [a0a]
  · intro j h1 h2
    rw [List.getElem_set]
    simp only [List.getElem_map, a1T, updF]
    by_cases h : i = j
    · subst h; simp [b5C]
    · rw [if_neg h, if_neg (fun e => h e.symm)]
theorem b9Y (p : Nat → Prop) [DecidablePred p] : ∀ (n : Nat), (∀ i, i < n → p i) ∨ ∃ i, i < n ∧ ¬ p i ∧ ∀ j, j < i → p j
  | 0 => .inl fun i hi => absurd hi (by omega)
  | n + 1 => by
    rcases b9Y p n with h | ⟨i, hi, h1, h2⟩
    · by_cases hp : p n
      · exact .inl fun i hi => by
          rcases Nat.lt_or_ge i n with h' | h'
          · exact h i h'
          · rw [show i = n by omega]; exact hp
      · exact .inr ⟨n, by omega, hp, h⟩
    · exact .inr ⟨i, by omega, h1, h2⟩
def lead? (v : List ZI) : Option Nat := (List.range v.length).find? fun i => decide (zg v i ≠ 0)
def b3s (v : List ZI) : Int := match lead? v with
  | some i => i
  | none => -1
def upS (v : List ZI) : Int := match lead? v with
  | some i => if zg v i < 0 then -1 else 1
  | none => 1
theorem d3x {v : List ZI} {i : Nat} (hi : i < v.length) (h0 : zg v i ≠ 0) (h : ∀ j, j < i → zg v j = 0) : lead? v = some i := by
  unfold lead?
  have e : List.range v.length = List.range i ++ (i :: (List.range' (i + 1) (v.length - (i + 1)))) := by
    rw [List.range_eq_range', List.range_eq_range', ← List.range'_succ, show v.length = i + (v.length - i) by omega, ← List.range'_append_1]
    rw [show i + (v.length - i) - (i + 1) + 1 = v.length - i by omega]
    simp
  rw [e, List.find?_append]
  have : (List.range i).find? (fun i => decide (zg v i ≠ 0)) = none := by
    rw [List.find?_eq_none]
    intro x hx
    simp [h x (List.mem_range.1 hx)]
  rw [this]
  simp [h0]
theorem c5I {v : List ZI} (h : ∀ j, j < v.length → zg v j = 0) : lead? v = none := by
  unfold lead?
  rw [List.find?_eq_none]
  intro x hx
  simp [h x (List.mem_range.1 hx)]
theorem a4R (v : List ZI) : (∃ i, i < v.length ∧ zg v i ≠ 0 ∧ (∀ j, j < i → zg v j = 0) ∧ b3s v = i ∧ upS v = if zg v i < 0 then -1 else 1) ∨ ((∀ j, j < v.length → zg v j = 0) ∧ b3s v = -1 ∧ upS v = 1) := by
  rcases b9Y (fun i => zg v i = 0) v.length with h | ⟨i, hi, h1, h2⟩
  · exact .inr ⟨h, by rw [b3s, c5I h], by rw [upS, c5I h]⟩
  · exact .inl ⟨i, hi, h1, h2, by rw [b3s, d3x hi h1 h2], by rw [upS, d3x hi h1 h2]⟩
def Rect (b : List (List ZI)) : Prop := ∀ i, i < b.length → (mg b i).length = (mg b 0).length
def wid (b : List (List ZI)) : Nat := (mg b 0).length
theorem d0t (b : List (List ZI)) : Rect b ∨ ∃ i, i < b.length ∧ (mg b i).length ≠ (mg b 0).length ∧ ∀ j, j < i → (mg b j).length = (mg b 0).length :=
  b9Y (fun i => (mg b i).length = (mg b 0).length) b.length
theorem b3q (H : Heap) (v : List (List ZI)) (k : IntKind) (h : 0 < v.length) : idxV H 1 (matV v) (.int k 0) = some (.ro (vecV v[0]) 0) := a2g H v k 0 h
theorem a7I (H : Heap) (i : Nat) (v : List ZI) (len : Nat) (oc : Option Nat) (h : len = v.length) : frz (lid H i) ⟨2, v.map ZI.av⟩ (.mu (lid H i) 0 len oc) = vecV v := c3Q i 2 ZI.av v len oc h
theorem c3R (H : Heap) (i : Nat) (v : List (List ZI)) (len : Nat) (oc : Option Nat) (h : len = v.length) : frz (lid H i) ⟨1, v.map vecV⟩ (.mu (lid H i) 0 len oc) = matV v := c3Q i 1 vecV v len oc h
theorem a1p (id : Nat) (b : Blk) (v : List ZI) : (v.map ZI.av).map (frz id b) = v.map ZI.av := d3Y id b ZI.av v ZI.cl
theorem a1V (id : Nat) (b : Blk) (v : List (List ZI)) : (v.map vecV).map (frz id b) = v.map vecV := d3Y id b vecV v a0d
end Go.Abs
namespace Go.Abs
section
variable {H L : Heap} {a b : Option Blk} {wd len j n : Nat} {X : List AV} {oc : Option Nat} {k : IntKind} {f : Nat → Int} {z : Int} {env : Env}
theorem d7X (h : j < len) : idxV (hap H (some ⟨wd, X⟩ :: L)) wd (.mu (lid H 0) 0 len oc) (.int k j) = some (.loc (lid H 0) j 0) := by
  rw [b3m H _ wd 0 0 len oc k j rfl rfl h, Nat.zero_add]
theorem d5e (h : j < n) : ((vec n f).map ZI.av).getD j .top = Z (f j) := by
  rw [List.getD_eq_getElem?_getD, List.getElem?_map, List.getElem?_eq_getElem (by rw [a0a]; exact h), a1T]
  rfl
theorem e2A (h : j < n) : atV (hap H (some ⟨2, (vec n f).map ZI.av⟩ :: L)) (.loc (lid H 0) j 0) = some (Z (f j)).cells := by
  rw [b7B H _ 0 j rfl (by rw [List.length_map, a0a]; exact h), d5e h]
theorem e2r (h : j < n) : a1y 2 (.loc (lid H 0) j 0) (Z z) env (hap H (some ⟨2, (vec n f).map ZI.av⟩ :: L)) = some (.top, env, hap H (some ⟨2, (vec n (updF f j z)).map ZI.av⟩ :: L)) := by
  rw [a3d env H _ 2 0 j 0 (Z z) rfl (by rw [List.length_map, a0a]; exact h) rfl rfl (Nat.le_refl 2)]
  rw [← c6R]; rfl
end
/-- Sums of rows. -/
def cmbS (x : List ZI) (b : List (List ZI)) (k i : Nat) : Int := b0q (fun l => zg x l * zg (mg b l) k) i
def c4p (x : List ZI) (b : List (List ZI)) : List ZI := vec (wid b) fun k => cmbS x b k b.length
def a0k (b : List (List ZI)) : List (List ZI) := mat (wid b) fun k => vec b.length fun i => zg (mg b i) k
/-- Row i being added: the first j entries are done. -/
def cmbF (x : List ZI) (b : List (List ZI)) (i j : Nat) : Nat → Int := fun k => if k < j then cmbS x b k (i + 1) else cmbS x b k i
theorem d4x (x : List ZI) (b : List (List ZI)) (i : Nat) : cmbF x b i 0 = fun k => cmbS x b k i := by
  funext k; simp [cmbF]
theorem d4y (x : List ZI) (b : List (List ZI)) (i j n : Nat) : vec n (updF (cmbF x b i j) j (cmbF x b i j j + zg x i * zg (mg b i) j)) = vec n (cmbF x b i (j + 1)) := by
  refine a4W fun k _ => ?_
  simp only [updF, cmbF, Nat.lt_irrefl, if_false]
  by_cases h : k = j
  · subst h
    rw [if_pos rfl, if_pos (by omega)]; rfl
  · rw [if_neg h]
    by_cases h2 : k < j
    · rw [if_pos h2, if_pos (by omega)]
    · rw [if_neg h2, if_neg (by omega)]
theorem d7e (x : List ZI) (b : List (List ZI)) (i n : Nat) : vec n (cmbF x b i n) = vec n fun k => cmbS x b k (i + 1) := by
  refine a4W fun k hk => ?_
  simp [cmbF, hk]
theorem c9z {x : List ZI} {b : List (List ZI)} {p q : Nat} (hx : Vok p x) (hb : Mok q b) (k : Nat) {i : Nat} (hi : i ≤ b.length) : (cmbS x b k i).natAbs < LB ^ (p + q + 2) :=
  d1Z (Nat.le_trans hi (Nat.le_trans hb.len (by decide))) fun l _ => b5b (hx.abs l) ((hb.row l).abs k)
theorem d7f {x : List ZI} {b : List (List ZI)} {p q : Nat} (hx : Vok p x) (hb : Mok q b) {i j : Nat} (hi : i < b.length) (k : Nat) : (cmbF x b i j k).natAbs < LB ^ (p + q + 2) := by
  unfold cmbF
  split
  · exact c9z hx hb k (by omega)
  · exact c9z hx hb k (by omega)
theorem b8h {b : List (List ZI)} {p : Nat} (hb : Mok p b) : Mok p (a0k b) := c3y (hb.row 0).len fun k _ => a4V hb.len fun i _ => (hb.row i).abs k
theorem mgz {b : List (List ZI)} {i j : Nat} (hi : i < b.length) (hj : j < b[i].length) : b[i][j].z = zg (mg b i) j := by rw [a5A hi, b2T hj]
theorem d2C {b : List (List ZI)} (hr : Rect b) {i : Nat} (hi : i < b.length) : b[i].length = wid b := by
  have := hr i hi
  rwa [a5A hi] at this
end Go.Abs
namespace Go.Abs
/-- The guess is not below the digit. -/
theorem d6J {u v : List Nat} {n : Nat} (hu : Lim u) (hv : Lim v) (hun : u.length = n + 1) (hvn : v.length = n) (hn : 0 < n) (hv0 : 0 < val v) (hlt : val u < LB * val v) (ht : 0 < v.getD (n - 1) 0) :
    val u / val v ≤ min ((u.getD n 0 * LB + u.getD (n - 1) 0) / v.getD (n - 1) 0) (LB - 1) := by
  have hq1 : val u / val v ≤ LB - 1 := by
    have : val u / val v < LB := by rw [Nat.div_lt_iff_lt_mul hv0]; exact hlt
    omega
  refine Nat.le_min.2 ⟨?_, hq1⟩
  rw [Nat.le_div_iff_mul_le ht]
  have hs := a6J u (n - 1)
  have hsv := a6J v (n - 1)
  have hdu : val (u.drop (n - 1)) = u.getD (n - 1) 0 + LB * u.getD n 0 := by
    have e : u.drop (n - 1) = [u.getD (n - 1) 0, u.getD n 0] := by
      apply List.ext_getElem
      · simp; omega
      · intro i h1 h2
        match i with
        | 0 => simp [List.getD_eq_getElem?_getD, List.getElem?_eq_getElem (show n - 1 < u.length by omega)]
        | 1 =>
          simp only [List.getElem_drop, List.getElem_cons_succ, List.getElem_cons_zero]
          rw [List.getD_eq_getElem?_getD, List.getElem?_eq_getElem (show n < u.length by omega)]
          simp only [show n - 1 + 1 = n by omega]; rfl
        | i + 2 => simp at h2; omega
    rw [e]; simp [val]
  have hdv : val (v.drop (n - 1)) = v.getD (n - 1) 0 := by
    have e : v.drop (n - 1) = [v.getD (n - 1) 0] := by
      apply List.ext_getElem
      · simp; omega
      · intro i h1 h2
        match i with
        | 0 => simp [List.getD_eq_getElem?_getD, List.getElem?_eq_getElem (show n - 1 < v.length by omega)]
        | i + 1 => simp at h2
    rw [e]; simp [val]
  have htu := a3C hu (n - 1)
  have hle : val u / val v * val v ≤ val u := Nat.div_mul_le_self _ _
  generalize val u / val v = q at *
  generalize hP : LB ^ (n - 1) = P at *
  have hPp : 0 < P := by rw [← hP]; exact Nat.pow_pos (by decide)
  rw [hdu] at hs
  rw [hdv] at hsv
  generalize v.getD (n - 1) 0 = vt at *
  have e2 : LB * u.getD n 0 = u.getD n 0 * LB := Nat.mul_comm _ _
  generalize u.getD (n - 1) 0 = ua at *
  have hbig : q * vt * P < (u.getD n 0 * LB + ua + 1) * P := by
    have h1 : q * (P * vt) ≤ q * val v := Nat.mul_le_mul_left _ (by omega)
    have h2 : q * (P * vt) = q * vt * P := by rw [Nat.mul_comm P vt, Nat.mul_assoc]
    have h3 : (u.getD n 0 * LB + ua + 1) * P = P * (ua + LB * u.getD n 0) + P := by
      rw [Nat.add_mul, Nat.one_mul, Nat.mul_comm _ P, e2, Nat.add_comm ua]
    omega
  have := Nat.lt_of_mul_lt_mul_right hbig
  omega
end Go.Abs
namespace Go.Abs
def fl (n : Nat) (f : Nat → Nat) : List Nat := (List.range n).map f
/-- A digit. -/
def dig (M i : Nat) : Nat := M / LB ^ i % LB
theorem c9v (M i : Nat) : dig M i < LB := Nat.mod_lt _ (by decide)
theorem a1N (n : Nat) (f : Nat → Nat) : (fl n f).length = n := by simp [fl]
theorem b9X {n : Nat} {f : Nat → Nat} {i : Nat} (h : i < n) : (fl n f).getD i 0 = f i := by
  simp [fl, List.getD_eq_getElem?_getD, h]
theorem a3w {n : Nat} {f g : Nat → Nat} (h : ∀ i, i < n → f i = g i) : fl n f = fl n g := List.map_congr_left fun i hi => h i (List.mem_range.1 hi)
theorem d4e (n : Nat) (f : Nat → Nat) (i v : Nat) : (fl n f).set i v = fl n fun j => if j = i then v else f j := by
  apply List.ext_getElem
  · simp [fl]
  · intro j h1 h2
    rw [List.getElem_set]
    simp only [fl, List.getElem_map, List.getElem_range]
    by_cases h : i = j
    · subst h; simp
    · rw [if_neg h, if_neg (fun e => h e.symm)]
theorem d8d {n : Nat} {f : Nat → Nat} (h : ∀ i, i < n → f i < LB) : Lim (fl n f) := by
  intro d hd
  obtain ⟨i, hi, rfl⟩ := List.mem_map.1 hd
  exact h i (List.mem_range.1 hi)
theorem d9D (n : Nat) : List.replicate n 0 = fl n fun _ => 0 := by
  apply List.ext_getElem <;> simp [fl]
theorem c7Y (n : Nat) (f : Nat → Nat) : fl (n + 1) f = fl n f ++ [f n] := by simp [fl, List.range_succ]
theorem d9E {l : List Nat} {n : Nat} (h : l.length = n) : l = fl n fun i => l.getD i 0 := by
  subst h
  apply List.ext_getElem
  · simp [fl]
  · intro i h1 h2; simp [fl, List.getD_eq_getElem?_getD, h1]
theorem c7X {n k : Nat} (f : Nat → Nat) (h : k ≤ n) : (fl n f).take k = fl k f := by
  apply List.ext_getElem
  · simp [fl]; omega
  · intro i h1 h2; simp [fl]
theorem d7S (M : Nat) : ∀ n, val (fl n (dig M)) = M % LB ^ n
  | 0 => by simp [fl, val, Nat.mod_one]
  | n + 1 => by
    rw [c7Y, a4A, d7S M n, a1N, Nat.pow_succ, Nat.mod_mul]; rfl
theorem a4Q {M n : Nat} (h : M < LB ^ n) : val (fl n (dig M)) = M := by rw [d7S, Nat.mod_eq_of_lt h]
theorem a7E (M n : Nat) : Lim (fl n (dig M)) := d8d fun i _ => c9v M i
/-- A row's digits. -/
theorem d4m {l : List Nat} (hl : Lim l) (i : Nat) : dig (val l) i = l.getD i 0 := by
  unfold dig
  rw [a6J l i]
  rcases Nat.lt_or_ge l.length i with h | h
  · have : l.drop i = [] := List.drop_eq_nil_of_le (by omega)
    rw [this, List.take_of_length_le (by omega), b3y (by omega)]
    simp only [val, Nat.mul_zero, Nat.add_zero]
    have h2 : val l < LB ^ i := Nat.lt_of_lt_of_le (a1P hl) (Nat.pow_le_pow_right (by decide) (by omega))
    rw [Nat.div_eq_of_lt h2]; rfl
  · have h1 := a3C hl i
    rw [Nat.add_mul_div_left _ _ (a4B i), Nat.div_eq_of_lt h1, Nat.zero_add]
    have : l.getD i 0 = (l.drop i).getD 0 0 := by rw [d3V, Nat.add_zero]
    rw [this]
    cases hd : l.drop i with
    | nil => rfl
    | cons d r =>
      have hlt : d < LB := (hl.drop i) d (by rw [hd]; simp)
      simp only [val, List.getD_cons_zero]
      rw [Nat.add_mul_mod_self_left, Nat.mod_eq_of_lt hlt]
theorem b5f {l : List Nat} (hl : Lim l) {n : Nat} (h : l.length = n) : l = fl n (dig (val l)) := by
  rw [d9E h]
  refine a3w fun i _ => ?_
  rw [← d9E h, d4m hl]
theorem b0k {M i : Nat} (h : M < LB ^ i) : dig M i = 0 := by unfold dig; rw [Nat.div_eq_of_lt h]; rfl
theorem d4n (M a i : Nat) : dig (M / LB ^ a) i = dig M (a + i) := by
  unfold dig; rw [Nat.div_div_eq_div_mul, ← Nat.pow_add]
theorem c0q {M a i : Nat} (K : Nat) (h : i < a) : dig (M + LB ^ a * K) i = dig M i := by
  unfold dig
  have : LB ^ a * K = LB ^ i * (LB * (LB ^ (a - i - 1) * K)) := by
    rw [← Nat.mul_assoc LB, ← Nat.pow_succ', Nat.succ_eq_add_one, show a - i - 1 + 1 = a - i by omega, ← Nat.mul_assoc, ← Nat.pow_add, show i + (a - i) = a by omega]
  rw [this, Nat.add_mul_div_left _ _ (a4B i), Nat.add_mul_mod_self_left]
/-- Words side by side. -/
theorem e1t {x y : Nat} (k : Nat) (hx : x < 2 ^ (64 - k)) (hk : k ≤ 64) (hy : y < 2 ^ k) : (BitVec.ofInt 64 ((x * 2 ^ k : Nat) : Int) ||| BitVec.ofInt 64 ((y : Nat) : Int)).toNat = x * 2 ^ k + y := by
  have e : 2 ^ 64 = 2 ^ (64 - k) * 2 ^ k := by rw [← Nat.pow_add]; congr 1; omega
  have hx2 : x * 2 ^ k < 2 ^ 64 := by rw [e]; exact Nat.mul_lt_mul_of_pos_right hx (Nat.pow_pos (by decide))
  have hy2 : y < 2 ^ 64 := Nat.lt_of_lt_of_le hy (Nat.pow_le_pow_right (by decide) hk)
  rw [BitVec.toNat_or]
  simp only [BitVec.ofInt_natCast, BitVec.toNat_ofNat]
  rw [Nat.mod_eq_of_lt hx2, Nat.mod_eq_of_lt hy2]
  have := Nat.shiftLeft_add_eq_or_of_lt hy x
  rw [Nat.shiftLeft_eq] at this
  exact this.symm
theorem d5M {x y : Nat} (k : Nat) (hx : x < 2 ^ (32 - k)) (hk : k ≤ 32) (hy : y < 2 ^ k) : (BitVec.ofInt 32 ((y : Nat) : Int) ||| BitVec.ofInt 32 ((x * 2 ^ k : Nat) : Int)).toNat = x * 2 ^ k + y := by
  have e : 2 ^ 32 = 2 ^ (32 - k) * 2 ^ k := by rw [← Nat.pow_add]; congr 1; omega
  have hx2 : x * 2 ^ k < 2 ^ 32 := by rw [e]; exact Nat.mul_lt_mul_of_pos_right hx (Nat.pow_pos (by decide))
  have hy2 : y < 2 ^ 32 := Nat.lt_of_lt_of_le hy (Nat.pow_le_pow_right (by decide) hk)
  rw [BitVec.toNat_or]
  simp only [BitVec.ofInt_natCast, BitVec.toNat_ofNat]
  rw [Nat.mod_eq_of_lt hx2, Nat.mod_eq_of_lt hy2, Nat.or_comm]
  have := Nat.shiftLeft_add_eq_or_of_lt hy x
  rw [Nat.shiftLeft_eq] at this
  exact this.symm
theorem c6Z (B d L : Nat) : (B / L % d) * L + B % L = B - d * ((B / L / d) * L) ∧ d * ((B / L / d) * L) ≤ B := by
  have h1 := Nat.mod_add_div B L
  have h2 := Nat.mod_add_div (B / L) d
  have h3 : (B / L % d) * L + (d * (B / L / d)) * L = B / L * L := by rw [← Nat.add_mul, h2]
  have h4 : B / L * L = L * (B / L) := Nat.mul_comm _ _
  have h5 : d * (B / L / d * L) = (d * (B / L / d)) * L := (Nat.mul_assoc _ _ _).symm
  omega
theorem e0X (B d L : Nat) : ((B / L % d) * L + B % L) % d = B % d := by
  rw [(c6Z B d L).1, Nat.sub_mul_mod (c6Z B d L).2]
theorem e0Y (B d L : Nat) : ((B / L % d) * L + B % L) / d = B / d % L := by
  rw [(c6Z B d L).1, Nat.sub_mul_div]
  have h2 : B / L / d = B / d / L := by rw [Nat.div_div_eq_div_mul, Nat.mul_comm, ← Nat.div_div_eq_div_mul]
  rw [h2]
  have h4 := Nat.mod_add_div (B / d) L
  have h5 : L * (B / d / L) = B / d / L * L := Nat.mul_comm _ _
  omega
theorem a9R (A i : Nat) : A / LB ^ (i + 1) = A / LB ^ i / LB := by rw [Nat.pow_succ, Nat.div_div_eq_div_mul]
theorem d2l (A d i : Nat) : ((A / LB ^ (i + 1) % d) * LB + dig A i) % d = A / LB ^ i % d := by
  rw [a9R]; exact e0X _ _ _
theorem d2m (A d i : Nat) : ((A / LB ^ (i + 1) % d) * LB + dig A i) / d = dig (A / d) i := by
  rw [a9R]
  have e : dig (A / d) i = A / LB ^ i / d % LB := by unfold dig; rw [Nat.div_div_eq_div_mul, Nat.mul_comm d, ← Nat.div_div_eq_div_mul]
  rw [e]
  exact e0Y _ _ _
end Go.Abs
namespace Go.Abs
theorem a3a {x : Nat} (h : x < 18446744073709551616) : IntKind.wrap .u64 (x : Int) = (x : Int) := a1I (by omega) (by omega)
theorem c4K {x : Nat} (h : x < 9223372036854775808) : IntKind.wrap .i64 (x : Int) = (x : Int) := a0b (by omega) (by omega)
theorem d2E {x y : Nat} (h : 0 < y) (hx : x < 18446744073709551616) : binV .quo (.int .u64 (x : Int)) (.int .u64 (y : Int)) = some (.int .u64 ((x / y : Nat) : Int)) := by
  rw [c9H _ _ _ (by omega), Int.tdiv_eq_ediv_of_nonneg (by omega)]
  have h2 : x / y ≤ x := Nat.div_le_self _ _
  have : (x : Int) / (y : Int) = ((x / y : Nat) : Int) := rfl
  rw [this, a3a (by omega)]
theorem d8I {x y : Nat} (h : 0 < y) : binV .rem (.int .u64 (x : Int)) (.int .u64 (y : Int)) = some (.int .u64 ((x % y : Nat) : Int)) := by
  rw [c9G _ _ _ (by omega), Int.tmod_eq_emod_of_nonneg (by omega)]; rfl
theorem e1e {x y : Nat} (h : 0 < y) (hx : x < 9223372036854775808) : binV .quo (.int .i64 (x : Int)) (.int .i64 (y : Int)) = some (.int .i64 ((x / y : Nat) : Int)) := by
  rw [c9H _ _ _ (by omega), Int.tdiv_eq_ediv_of_nonneg (by omega)]
  have h2 : x / y ≤ x := Nat.div_le_self _ _
  have : (x : Int) / (y : Int) = ((x / y : Nat) : Int) := rfl
  rw [this, c4K (by omega)]
theorem e1c {x y : Nat} (h : 0 < y) : binV .rem (.int .i64 (x : Int)) (.int .i64 (y : Int)) = some (.int .i64 ((x % y : Nat) : Int)) := by
  rw [c9G _ _ _ (by omega), Int.tmod_eq_emod_of_nonneg (by omega)]; rfl
theorem c1j {x : Nat} (h : x < LB) : IntKind.wrap .u32 (x : Int) = (x : Int) := b7q (by omega) (by have : LB = 4294967296 := rfl; omega)
theorem b4C {x y : Nat} (h : x + y < 18446744073709551616) : IntKind.wrap .u64 ((x : Int) + (y : Int)) = ((x + y : Nat) : Int) := by rw [a1I (by omega) (by omega)]; omega
theorem c9Z {x y : Nat} (h : x * y < 18446744073709551616) : IntKind.wrap .u64 ((x : Int) * (y : Int)) = ((x * y : Nat) : Int) := by
  rw [← Int.natCast_mul]; exact a3a h
/-- Shifts by less than 32. -/
theorem e0W {x n : Nat} (hx : x < LB) (hn : n < 33) : b0r .shl .u64 (x : Int) (n : Int) = some (.int .u64 ((x * 2 ^ n : Nat) : Int)) := by
  rw [d2n _ _ _ (by omega)]
  have hm : min (Int.toNat (n : Int)) IntKind.u64.bits = n := by
    show min n 64 = n
    omega
  rw [hm]
  have h2 : x * 2 ^ n < 18446744073709551616 := by
    have h3 : 2 ^ n ≤ 2 ^ 32 := Nat.pow_le_pow_right (by decide) (by omega)
    have h4 : x * 2 ^ n ≤ x * 2 ^ 32 := Nat.mul_le_mul_left _ h3
    have : LB = 4294967296 := rfl
    have : (2 : Nat) ^ 32 = 4294967296 := by decide
    omega
  have : (x : Int) * 2 ^ n = ((x * 2 ^ n : Nat) : Int) := by simp
  rw [this, a3a h2]
theorem d8B {x : Nat} (hx : x < LB) : b0r .shl .u64 (x : Int) 32 = some (.int .u64 ((x * LB : Nat) : Int)) := e0W (n := 32) hx (by decide)
theorem e0U {x n : Nat} (hn : n ≤ 64) : b0r .shr .u64 (x : Int) (n : Int) = some (.int .u64 ((x / 2 ^ n : Nat) : Int)) := by
  rw [a4e _ _ _ (by omega)]
  have hm : min (Int.toNat (n : Int)) IntKind.u64.bits = n := by
    show min n 64 = n
    omega
  rw [hm, Int.fdiv_eq_ediv_of_nonneg _ (by exact Int.pow_nonneg (by decide))]
  have : (2 : Int) ^ n = ((2 ^ n : Nat) : Int) := by simp
  rw [this]; rfl
theorem d2k (x : Nat) : b0r .shr .u64 (x : Int) 32 = some (.int .u64 ((x / LB : Nat) : Int)) := e0U (n := 32) (by decide)
theorem b8g {x y : Nat} (hx : x < LB) (hy : y < LB) : IntKind.wrap .u64 (((BitVec.ofInt (IntKind.bits .u64) ((x * LB : Nat) : Int) ||| BitVec.ofInt (IntKind.bits .u64) (y : Int)).toNat : Nat) : Int) = ((x * LB + y : Nat) : Int) := by
  have h := e1t (x := x) (y := y) 32 hx (by decide) hy
  have e : (2 : Nat) ^ 32 = LB := by decide
  rw [e] at h
  have h' : (BitVec.ofInt (IntKind.bits .u64) ((x * LB : Nat) : Int) ||| BitVec.ofInt (IntKind.bits .u64) (y : Int)).toNat = x * LB + y := h
  rw [h', a3a (by
    have : LB = 4294967296 := rfl
    have : x * LB ≤ 4294967295 * LB := Nat.mul_le_mul_right _ (by omega)
    omega)]
theorem c9Y {x y : Nat} (hx : x < LB) (hy : y < LB) : IntKind.wrap .u64 (((BitVec.ofInt (IntKind.bits .u64) (y : Int) ||| BitVec.ofInt (IntKind.bits .u64) ((x * LB : Nat) : Int)).toNat : Nat) : Int) = ((x * LB + y : Nat) : Int) := by
  rw [BitVec.or_comm]; exact b8g hx hy
theorem d1Q {x y : Nat} (k : Nat) (hx : x < 2 ^ (32 - k)) (hk : k ≤ 32) (hy : y < 2 ^ k) : IntKind.wrap .u32 (((BitVec.ofInt (IntKind.bits .u32) (y : Int) ||| BitVec.ofInt (IntKind.bits .u32) ((x * 2 ^ k : Nat) : Int)).toNat : Nat) : Int) = ((x * 2 ^ k + y : Nat) : Int) := by
  have h : (BitVec.ofInt (IntKind.bits .u32) (y : Int) ||| BitVec.ofInt (IntKind.bits .u32) ((x * 2 ^ k : Nat) : Int)).toNat = x * 2 ^ k + y := d5M k hx hk hy
  rw [h, c1j]
  have e : 2 ^ 32 = 2 ^ (32 - k) * 2 ^ k := by rw [← Nat.pow_add]; congr 1; omega
  have h1 : (x + 1) * 2 ^ k ≤ 2 ^ (32 - k) * 2 ^ k := Nat.mul_le_mul_right _ hx
  rw [← e, Nat.add_mul] at h1
  have : LB = 2 ^ 32 := by decide
  omega
section
variable {H L : Heap} {n j len : Nat} {f : Nat → Nat} {oc : Option Nat} {k : IntKind} {env : Env}
theorem d6U (h : j < len) {X : List AV} : idxV (hap H (some ⟨1, X⟩ :: L)) 1 (.mu (lid H 0) 0 len oc) (.int k j) = some (.loc (lid H 0) j 0) := by
  rw [b3m H _ 1 0 0 len oc k j rfl rfl h, Nat.zero_add]
theorem e2y {a : Option Blk} (h : j < len) {X : List AV} : idxV (hap H (a :: some ⟨1, X⟩ :: L)) 1 (.mu (lid H 1) 0 len oc) (.int k j) = some (.loc (lid H 1) j 0) := by
  rw [b3m H _ 1 1 0 len oc k j rfl rfl h, Nat.zero_add]
theorem fat0 (h : j < n) : atV (hap H (some ⟨1, u32s (fl n f)⟩ :: L)) (.loc (lid H 0) j 0) = some [.int .u32 (f j : Nat)] := by
  rw [b7B H _ 0 j rfl (by rw [a0M, a1N]; exact h)]
  simp only [a8A (l := fl n f) (i := j) (by rw [a1N]; exact h), b9X h, AV.cells]
theorem fst0 (h : j < n) (d : Nat) : a1y 1 (.loc (lid H 0) j 0) (.int .u32 (d : Int)) env (hap H (some ⟨1, u32s (fl n f)⟩ :: L)) = some (.top, env, hap H (some ⟨1, u32s (fl n fun i => if i = j then d else f i)⟩ :: L)) := by
  rw [a3d env H _ 1 0 j 0 _ rfl (by rw [a0M, a1N]; exact h) rfl rfl (Nat.le_refl 1)]
  simp only [a2n, b7r, List.set_cons_zero, d4e]
theorem fst1 {a : Option Blk} (h : j < n) (d : Nat) : a1y 1 (.loc (lid H 1) j 0) (.int .u32 (d : Int)) env (hap H (a :: some ⟨1, u32s (fl n f)⟩ :: L)) = some (.top, env, hap H (a :: some ⟨1, u32s (fl n fun i => if i = j then d else f i)⟩ :: L)) := by
  rw [a3d env H _ 1 1 j 0 _ rfl (by rw [a0M, a1N]; exact h) rfl rfl (Nat.le_refl 1)]
  simp only [a2n, b7r, List.set_cons_succ, List.set_cons_zero, d4e]
theorem c3A {k' : IntKind} (h : n ≤ 35184372088832) : b9p 1 4 (.int .u32 0) (.int k n) (.int k' n) env (hap H L) = some (.mu (lid H L.length) 0 n (some n), env, hap H (L ++ [some ⟨1, u32s (fl n fun _ => 0)⟩])) := by
  rw [b3n env H L k k' n h, d9D]
theorem d3Z (i : Nat) : frz (lid H i) ⟨1, u32s (fl n f)⟩ (.mu (lid H i) 0 n oc) = natV (fl n f) := by
  have := b5y H i (fl n f) oc
  rwa [a1N] at this
end
end Go.Abs
namespace Go.Abs
def sumR (f : Nat → Rat) : Nat → Rat
  | 0 => 0
  | n + 1 => sumR f n + f n
theorem a0p {f g : Nat → Rat} : ∀ {n : Nat}, (∀ i, i < n → f i = g i) → sumR f n = sumR g n
  | 0, _ => rfl
  | n + 1, h => by rw [sumR, sumR, a0p fun i hi => h i (by omega), h n (by omega)]
theorem a2y (x y : Rat) (f g : Nat → Rat) : ∀ n, sumR (fun i => x * f i + y * g i) n = x * sumR f n + y * sumR g n
  | 0 => by simp only [sumR]; grind
  | n + 1 => by simp only [sumR, a2y x y f g n]; grind
theorem b8l {f : Nat → Rat} : ∀ {n : Nat}, (∀ i, i < n → f i = 0) → sumR f n = 0
  | 0, _ => rfl
  | n + 1, h => by rw [sumR, b8l fun i hi => h i (by omega), h n (by omega)]; grind
theorem a7i {f : Nat → Rat} {t : Nat} : ∀ {n : Nat}, t < n → (∀ i, i < n → i ≠ t → f i = 0) → sumR f n = f t
  | 0, h, _ => absurd h (by omega)
  | n + 1, h, h0 => by
    rw [sumR]
    by_cases e : t = n
    · subst e
      rw [b8l fun i hi => h0 i (by omega) (by omega)]; grind
    · rw [a7i (by omega) fun i hi he => h0 i (by omega) he, h0 n (by omega) (by omega)]; grind
theorem c8F {f : Nat → Rat} {t : Nat} : ∀ {n : Nat}, t + 1 < n → (∀ i, i < n → i ≠ t → i ≠ t + 1 → f i = 0) → sumR f n = f t + f (t + 1)
  | 0, h, _ => absurd h (by omega)
  | n + 1, h, h0 => by
    rw [sumR]
    by_cases e : t + 1 = n
    · subst e
      rw [a7i (t := t) (by omega) fun i hi he => h0 i (by omega) he (by omega)]
    · rw [c8F (t := t) (by omega) fun i hi h1 h2 => h0 i (by omega) h1 h2, h0 n (by omega) (by omega) (by omega)]; grind
def sg : Nat → Rat
  | 0 => 1
  | n + 1 => -sg n
def skip (i k : Nat) : Nat := if k < i then k else k + 1
def det : Nat → (Nat → Nat → Rat) → Rat
  | 0, _ => 1
  | n + 1, M => sumR (fun i => sg i * M i 0 * det n fun r c => M (skip i r) (c + 1)) (n + 1)
theorem d8z (i k : Nat) : skip i k ≠ i := by unfold skip; split <;> omega
theorem d2j {i k n : Nat} (hk : k < n) : skip i k < n + 1 := by unfold skip; split <;> omega
theorem a0D : ∀ {n : Nat} {M N : Nat → Nat → Rat}, (∀ r c, r < n → c < n → M r c = N r c) → det n M = det n N
  | 0, _, _, _ => rfl
  | n + 1, M, N, h => by
    unfold det
    refine a0p fun i hi => ?_
    rw [h i 0 hi (by omega), a0D (n := n) fun r c hr hc => h (skip i r) (c + 1) (d2j hr) (by omega)]
def a0j (M : Nat → Nat → Rat) (t : Nat) (u : Nat → Rat) : Nat → Nat → Rat := fun r c => if r = t then u c else M r c
theorem a2W (M : Nat → Nat → Rat) (t : Nat) : a0j M t (M t) = M := by
  funext r c; unfold a0j; split
  · rename_i h; rw [h]
  · rfl
/-- Row t of the part without row i. -/
def d5j (i t : Nat) : Nat := if t < i then t else t - 1
theorem d0q {i t r : Nat} (h : i ≠ t) : (skip i r = t) = (r = d5j i t) := by
  rw [eq_iff_iff]; unfold skip d5j
  split <;> split <;> omega
theorem a8G {M : Nat → Nat → Rat} {t i : Nat} {u : Nat → Rat} (h : i ≠ t) : (fun r c => a0j M t u (skip i r) (c + 1)) = a0j (fun r c => M (skip i r) (c + 1)) (d5j i t) fun c => u (c + 1) := by
  funext r c
  unfold a0j
  simp only [d0q h]
theorem a3E {M : Nat → Nat → Rat} {t : Nat} {u : Nat → Rat} : (fun r c => a0j M t u (skip t r) (c + 1)) = fun r c => M (skip t r) (c + 1) := by
  funext r c
  unfold a0j
  rw [if_neg (d8z t r)]
theorem b5A : ∀ {n : Nat} {M : Nat → Nat → Rat} {t : Nat} (x y : Rat) (u w : Nat → Rat), t < n → det n (a0j M t fun c => x * u c + y * w c) = x * det n (a0j M t u) + y * det n (a0j M t w)
  | 0, _, _, _, _, _, _, h => absurd h (by omega)
  | n + 1, M, t, x, y, u, w, h => by
    unfold det
    rw [← a2y]
    refine a0p fun i hi => ?_
    by_cases e : i = t
    · subst e
      rw [a3E, a3E, a3E]
      simp only [a0j, if_true]
      grind
    · rw [a8G e, a8G e, a8G e, b5A x y _ _ (by unfold d5j; split <;> omega)]
      simp only [a0j, if_neg e]
      grind
theorem c8j : ∀ {n : Nat} {M : Nat → Nat → Rat} {t : Nat}, t + 1 < n → (∀ c, M t c = M (t + 1) c) → det n M = 0
  | 0, _, _, h, _ => absurd h (by omega)
  | n + 1, M, t, h, he => by
    unfold det
    have hm : (fun r c => M (skip t r) (c + 1)) = fun r c => M (skip (t + 1) r) (c + 1) := by
      funext r c
      unfold skip
      by_cases h1 : r < t
      · rw [if_pos h1, if_pos (by omega)]
      · rw [if_neg h1]
        by_cases h2 : r = t
        · rw [if_pos (by omega), h2, he]
        · rw [if_neg (by omega)]
    rw [c8F (t := t) h fun i hi h1 h2 => by
      have hz : det n (fun r c => M (skip i r) (c + 1)) = 0 := by
        refine c8j (t := if i < t then t - 1 else t) (by split <;> omega) fun c => ?_
        unfold skip
        by_cases h3 : i < t
        · rw [if_pos h3, if_neg (by omega), if_neg (by omega)]
          rw [show t - 1 + 1 = t by omega]
          exact he _
        · rw [if_neg h3, if_pos (by omega), if_pos (by omega)]
          exact he _
      rw [hz]; grind]
    rw [hm, he 0]
    simp only [sg]
    grind
/-- Two rows exchanged. -/
def a0q (s t : Nat) (M : Nat → Nat → Rat) : Nat → Nat → Rat := fun r c => if r = s then M t c else if r = t then M s c else M r c
theorem a1g {M : Nat → Nat → Rat} {s t : Nat} {u w : Nat → Rat} (h : s ≠ t) : a0j (a0j M s u) t w = a0j (a0j M t w) s u := by
  funext r c; unfold a0j
  by_cases h1 : r = t
  · by_cases h2 : r = s
    · omega
    · simp [h1]; intro e; omega
  · by_cases h2 : r = s
    · simp [h2]; intro e; omega
    · simp [h1, h2]
theorem c8k {n : Nat} {M : Nat → Nat → Rat} {t : Nat} (u w : Nat → Rat) (h : t < n) : det n (a0j M t fun c => u c + w c) = det n (a0j M t u) + det n (a0j M t w) := by
  have := b5A (M := M) 1 1 u w h
  have e : (fun c => (1 : Rat) * u c + 1 * w c) = fun c => u c + w c := by funext c; grind
  rw [e] at this
  grind
/-- If equal rows give 0, exchanged ones give the negative. -/
theorem c0r {n : Nat} {M : Nat → Nat → Rat} {s t : Nat} (hst : s ≠ t) (hs : s < n) (ht : t < n) (heq : ∀ N : Nat → Nat → Rat, (∀ c, N s c = N t c) → det n N = 0) : det n (a0q s t M) = -det n M := by
  let u := M s
  let w := M t
  have A : ∀ p q : Nat → Rat, (∀ c, p c = q c) → det n (a0j (a0j M s p) t q) = 0 := fun p q h => heq _ fun c => by
    unfold a0j
    simp [hst, h c]
  have h0 := A (fun c => u c + w c) (fun c => u c + w c) fun _ => rfl
  rw [c8k _ _ ht, a1g hst, a1g hst, c8k _ _ hs, c8k _ _ hs, ← a1g hst, ← a1g hst, ← a1g hst, ← a1g hst, A u u fun _ => rfl, A w w fun _ => rfl] at h0
  have e1 : a0j (a0j M s u) t w = M := by
    show a0j (a0j M s (M s)) t (M t) = M
    rw [a2W]; exact a2W M t
  have e2 : a0j (a0j M s w) t u = a0q s t M := by
    funext r c; unfold a0j a0q
    by_cases h1 : r = s
    · subst h1; simp [hst]; rfl
    · by_cases h2 : r = t
      · subst h2; simp [h1]; rfl
      · simp [h1, h2]
  rw [e1, e2] at h0
  grind
theorem c6h {n : Nat} {M : Nat → Nat → Rat} {t : Nat} (h : t + 1 < n) : det n (a0q t (t + 1) M) = -det n M :=
  c0r (by omega) (by omega) h fun N he => c8j h he
theorem d4r : ∀ (d : Nat) {n : Nat} {M : Nat → Nat → Rat} {s : Nat}, s + d + 1 < n → (∀ c, M s c = M (s + d + 1) c) → det n M = 0
  | 0, n, M, s, h, he => c8j (t := s) h he
  | d + 1, n, M, s, h, he => by
    have hsw := c6h (M := M) (t := s + d + 1) (n := n) (by omega)
    have : det n (a0q (s + d + 1) (s + d + 1 + 1) M) = 0 := d4r d (s := s) (by omega) fun c => by
      unfold a0q
      rw [if_neg (by omega), if_neg (by omega), if_pos rfl, he c]
      rfl
    rw [this] at hsw
    grind
theorem b4t {n : Nat} {M : Nat → Nat → Rat} {s t : Nat} (hst : s ≠ t) (hs : s < n) (ht : t < n) (he : ∀ c, M s c = M t c) : det n M = 0 := by
  rcases Nat.lt_or_gt_of_ne hst with h | h
  · exact d4r (t - s - 1) (s := s) (by omega) fun c => by rw [he c]; congr 1; omega
  · exact d4r (s - t - 1) (s := t) (by omega) fun c => by rw [← he c]; congr 1; omega
theorem b7H {n : Nat} {M : Nat → Nat → Rat} {s t : Nat} (hst : s ≠ t) (hs : s < n) (ht : t < n) : det n (a0q s t M) = -det n M :=
  c0r hst hs ht fun N he => b4t hst hs ht he
/-- So many times another row added. -/
theorem d1D {n : Nat} {M : Nat → Nat → Rat} {s t : Nat} (x : Rat) (hst : s ≠ t) (hs : s < n) (ht : t < n) : det n (a0j M t fun c => M t c + x * M s c) = det n M := by
  have h := b5A (M := M) 1 x (M t) (M s) ht
  have e : (fun c => (1 : Rat) * M t c + x * M s c) = fun c => M t c + x * M s c := by funext c; grind
  rw [e, a2W] at h
  have h0 : det n (a0j M t (M s)) = 0 := b4t hst hs ht fun c => by unfold a0j; simp [hst]
  rw [h, h0]
  grind
/-- What is left behind the first row and the first column. -/
def a2H (M : Nat → Nat → Rat) : Nat → Nat → Rat := fun i k => M (i + 1) (k + 1) - M (i + 1) 0 / M 0 0 * M 0 (k + 1)
def a5v (M : Nat → Nat → Rat) (k : Nat) : Nat → Nat → Rat := fun r c => if 0 < r ∧ r ≤ k then M r c + -(M r 0 / M 0 0) * M 0 c else M r c
theorem c9w {n : Nat} (M : Nat → Nat → Rat) : ∀ k, k < n → det n (a5v M k) = det n M
  | 0, _ => by congr 1; funext r c; unfold a5v; rw [if_neg (by omega)]
  | k + 1, h => by
    rw [← c9w M k (by omega), ← d1D (M := a5v M k) (s := 0) (t := k + 1) (-(M (k + 1) 0 / M 0 0)) (by omega) (by omega) h]
    congr 1
    funext r c
    unfold a0j a5v
    by_cases e : r = k + 1
    · subst e
      rw [if_pos ⟨by omega, Nat.le_refl _⟩, if_pos rfl]
      show _ = (if 0 < k + 1 ∧ k + 1 ≤ k then _ else _) + _ * (if 0 < 0 ∧ 0 ≤ k then _ else _)
      rw [if_neg (by omega), if_neg (by omega)]
    · by_cases h2 : 0 < r ∧ r ≤ k
      · rw [if_pos ⟨h2.1, by omega⟩, if_neg e, if_pos h2]
      · rw [if_neg (by omega), if_neg e, if_neg h2]
theorem a9S {n : Nat} {M : Nat → Nat → Rat} (h : M 0 0 ≠ 0) : det (n + 1) M = M 0 0 * det n (a2H M) := by
  rw [← c9w M n (by omega)]
  rw [det, a7i (t := 0) (by omega) fun i hi h0 => by
    have : a5v M n i 0 = 0 := by
      unfold a5v
      rw [if_pos ⟨by omega, by omega⟩]
      grind
    rw [this]; grind]
  have e0 : a5v M n 0 0 = M 0 0 := by unfold a5v; rw [if_neg (by omega)]
  rw [e0]
  have : det n (fun r c => a5v M n (skip 0 r) (c + 1)) = det n (a2H M) := by
    refine a0D fun r c hr hc => ?_
    have hs : skip 0 r = r + 1 := by unfold skip; rw [if_neg (by omega)]
    rw [hs]
    unfold a5v a2H
    rw [if_pos ⟨by omega, by omega⟩]
    generalize M (r + 1) 0 / M 0 0 = x
    grind
  rw [this]
  simp only [sg]
  grind
/-- A determinant of whole numbers is whole. -/
theorem d4q : ∀ {n : Nat} {M : Nat → Nat → Rat}, (∀ r c, ∃ z : Int, M r c = z) → ∃ z : Int, det n M = z
  | 0, _, _ => ⟨1, rfl⟩
  | n + 1, M, h => by
    unfold det
    have hs : ∀ i, ∃ z : Int, sg i = z := by
      intro i
      induction i with
      | zero => exact ⟨1, rfl⟩
      | succ i ih => obtain ⟨z, hz⟩ := ih; exact ⟨-z, by rw [sg, hz, Rat.intCast_neg]⟩
    have ht : ∀ i, ∃ z : Int, sg i * M i 0 * det n (fun r c => M (skip i r) (c + 1)) = z := fun i => by
      obtain ⟨a, ha⟩ := hs i
      obtain ⟨b, hb⟩ := h i 0
      obtain ⟨c, hc⟩ := d4q (n := n) (M := fun r c => M (skip i r) (c + 1)) fun r c => h _ _
      exact ⟨a * b * c, by rw [ha, hb, hc, Rat.intCast_mul, Rat.intCast_mul]⟩
    have : ∀ k, ∃ z : Int, sumR (fun i => sg i * M i 0 * det n fun r c => M (skip i r) (c + 1)) k = z := by
      intro k
      induction k with
      | zero => exact ⟨0, rfl⟩
      | succ k ih =>
        obtain ⟨z, hz⟩ := ih
        obtain ⟨y, hy⟩ := ht k
        exact ⟨z + y, by rw [sumR, hz, hy, Rat.intCast_add]⟩
    exact this (n + 1)
end Go.Abs
namespace Go.Abs
def SS : Nat → (Nat → Nat → Rat) → Nat → Nat → Rat
  | 0, M => M
  | r + 1, M => SS r (a2H M)
def piv : Nat → (Nat → Nat → Rat) → Prop
  | 0, _ => True
  | r + 1, M => M 0 0 ≠ 0 ∧ piv r (a2H M)
theorem c8t : ∀ (r : Nat) (M : Nat → Nat → Rat), SS (r + 1) M = a2H (SS r M)
  | 0, _ => rfl
  | r + 1, M => c8t r (a2H M)
theorem b3b : ∀ (r : Nat) (M : Nat → Nat → Rat), piv (r + 1) M ↔ piv r M ∧ SS r M 0 0 ≠ 0
  | 0, M => by simp [piv, SS]
  | r + 1, M => by
    have h := b3b r (a2H M)
    show M 0 0 ≠ 0 ∧ piv (r + 1) (a2H M) ↔ (M 0 0 ≠ 0 ∧ piv r (a2H M)) ∧ SS r (a2H M) 0 0 ≠ 0
    rw [h, and_assoc]
theorem d8f : ∀ (r n : Nat) {M : Nat → Nat → Rat}, piv r M → det (r + n) M = det r M * det n (SS r M)
  | 0, n, M, _ => by simp only [Nat.zero_add, det, SS]; grind
  | r + 1, n, M, h => by
    rw [show r + 1 + n = (r + n) + 1 by omega, a9S h.1, a9S h.1, d8f r n h.2]
    show _ = M 0 0 * det r (a2H M) * det n (SS r (a2H M))
    grind
theorem d9X (M : Nat → Nat → Rat) : det 1 M = M 0 0 := by
  simp only [det, sumR, sg]; grind
theorem c4m (r : Nat) {M : Nat → Nat → Rat} (h : piv r M) : det (r + 1) M = det r M * SS r M 0 0 := by
  rw [d8f r 1 h, d9X]
theorem d8e : ∀ (r : Nat) {M : Nat → Nat → Rat}, piv r M → det r M ≠ 0
  | 0, _, _ => by simp only [det]; grind
  | r + 1, M, h => by
    have h' := (b3b r M).1 h
    rw [c4m r h'.1]
    have := d8e r h'.1
    have := h'.2
    grind
/-- What is left depends on the first rows and columns, and on its own row and column. -/
theorem c0C : ∀ (r : Nat) {M N : Nat → Nat → Rat} {i j k l : Nat}, (∀ a b, a < r → b < r → M a b = N a b) → (∀ b, b < r → M (r + i) b = N (r + j) b) → (∀ a, a < r → M a (r + k) = N a (r + l)) → M (r + i) (r + k) = N (r + j) (r + l) → SS r M i k = SS r N j l
  | 0, M, N, i, j, k, l, _, _, _, h => by simpa [SS] using h
  | r + 1, M, N, i, j, k, l, h1, h2, h3, h4 => by
    show SS r (a2H M) i k = SS r (a2H N) j l
    have e : ∀ x : Nat, r + 1 + x = r + x + 1 := fun x => by omega
    have h2' : ∀ b, b < r + 1 → M (r + i + 1) b = N (r + j + 1) b := fun b hb => by rw [← e, ← e]; exact h2 b hb
    have h3' : ∀ a, a < r + 1 → M a (r + k + 1) = N a (r + l + 1) := fun a ha => by rw [← e, ← e]; exact h3 a ha
    have h4' : M (r + i + 1) (r + k + 1) = N (r + j + 1) (r + l + 1) := by rw [← e, ← e, ← e, ← e]; exact h4
    refine c0C r (fun a b ha hb => ?_) (fun b hb => ?_) (fun a ha => ?_) ?_
    · simp only [a2H]; rw [h1 (a + 1) (b + 1) (by omega) (by omega), h1 (a + 1) 0 (by omega) (by omega), h1 0 0 (by omega) (by omega), h1 0 (b + 1) (by omega) (by omega)]
    · simp only [a2H]; rw [h2' (b + 1) (by omega), h2' 0 (by omega), h1 0 0 (by omega) (by omega), h1 0 (b + 1) (by omega) (by omega)]
    · simp only [a2H]; rw [h3' (a + 1) (by omega), h1 (a + 1) 0 (by omega) (by omega), h1 0 0 (by omega) (by omega), h3' 0 (by omega)]
    · simp only [a2H]; rw [h4', h2' 0 (by omega), h1 0 0 (by omega) (by omega), h3' 0 (by omega)]
theorem b2c : ∀ (r : Nat) {M N : Nat → Nat → Rat}, (∀ a b, a < r → b < r → M a b = N a b) → piv r M → piv r N
  | 0, _, _, _, _ => trivial
  | r + 1, M, N, h, hp => by
    rw [b3b] at hp ⊢
    refine ⟨b2c r (fun a b ha hb => h a b (by omega) (by omega)) hp.1, ?_⟩
    rw [← c0C r (M := M) (N := N) (i := 0) (j := 0) (k := 0) (l := 0) (fun a b ha hb => h a b (by omega) (by omega)) (fun b hb => h _ _ (by omega) (by omega)) (fun a ha => h _ _ (by omega) (by omega)) (h _ _ (by omega) (by omega))]
    exact hp.2
/-- The columns in their order: the heads' places first, then all. -/
def colm (cs : List Nat) (b : Nat) : Nat := if b < cs.length then cs.getD b 0 else b - cs.length
def a0C (B : Nat → Nat → Rat) (cs : List Nat) : Nat → Nat → Rat := fun a b => B a (colm cs b)
/-- Row i, as it stands when the a0C cs are done; i is not among their rows. -/
def a1c (B : Nat → Nat → Rat) (cs : List Nat) (i k : Nat) : Rat := SS cs.length (a0C B cs) (i - cs.length) k
def a3z (B : Nat → Nat → Rat) (cs : List Nat) : Rat := det cs.length (a0C B cs)
def Piv (B : Nat → Nat → Rat) (cs : List Nat) : Prop := piv cs.length (a0C B cs)
theorem b3A (B : Nat → Nat → Rat) (i k : Nat) : a1c B [] i k = B i k := by simp [a1c, SS, a0C, colm]
theorem d3B (B : Nat → Nat → Rat) : a3z B [] = 1 := rfl
theorem a3y {cs : List Nat} {c b : Nat} (h : b < cs.length) : colm (cs ++ [c]) b = colm cs b := by
  simp only [colm, List.length_append, List.length_cons, List.length_nil]
  rw [if_pos (by omega), if_pos h]
  simp [List.getD_eq_getElem?_getD, List.getElem?_append_left h]
theorem b0n {cs : List Nat} {c : Nat} : colm (cs ++ [c]) cs.length = c := by
  simp only [colm, List.length_append, List.length_cons, List.length_nil]
  rw [if_pos (by omega)]
  simp
theorem a2v (cs : List Nat) (k : Nat) : colm cs (cs.length + k) = k := by
  simp only [colm]; rw [if_neg (by omega)]; omega
theorem c9N {B : Nat → Nat → Rat} {cs : List Nat} {c : Nat} (i : Nat) : SS cs.length (a0C B (cs ++ [c])) i 0 = a1c B cs (cs.length + i) c := by
  unfold a1c
  rw [Nat.add_sub_cancel_left]
  refine c0C _ (fun a b _ hb => ?_) (fun b hb => ?_) (fun a _ => ?_) ?_
  · simp only [a0C]; rw [a3y hb]
  · simp only [a0C]; rw [a3y hb]
  · simp only [a0C]; rw [Nat.add_zero, b0n, a2v]
  · simp only [a0C]; rw [Nat.add_zero, b0n, a2v]
theorem d8k {B : Nat → Nat → Rat} {cs : List Nat} {c : Nat} (i k : Nat) : SS cs.length (a0C B (cs ++ [c])) i (k + 1) = a1c B cs (cs.length + i) k := by
  unfold a1c
  rw [Nat.add_sub_cancel_left]
  have e : colm (cs ++ [c]) (cs.length + (k + 1)) = k := by
    have := a2v (cs ++ [c]) k
    simp only [List.length_append, List.length_cons, List.length_nil] at this
    rw [show cs.length + (k + 1) = cs.length + (0 + 1) + k by omega]; exact this
  refine c0C _ (fun a b _ hb => ?_) (fun b hb => ?_) (fun a _ => ?_) ?_
  · simp only [a0C]; rw [a3y hb]
  · simp only [a0C]; rw [a3y hb]
  · simp only [a0C]; rw [e, a2v]
  · simp only [a0C]; rw [e, a2v]
theorem a1t (cs : List Nat) (c : Nat) : (cs ++ [c]).length = cs.length + 1 := by simp
/-- One more head. -/
theorem b5v (B : Nat → Nat → Rat) (cs : List Nat) (c : Nat) {i k : Nat} (hi : cs.length < i) : a1c B (cs ++ [c]) i k = a1c B cs i k - a1c B cs i c / a1c B cs cs.length c * a1c B cs cs.length k := by
  have h := c8t cs.length (a0C B (cs ++ [c]))
  have e : a1c B (cs ++ [c]) i k = a2H (SS cs.length (a0C B (cs ++ [c]))) (i - (cs.length + 1)) k := by
    unfold a1c
    rw [a1t, h]
  rw [e]
  simp only [a2H]
  rw [d8k, c9N, c9N, d8k, Nat.add_zero]
  rw [show cs.length + (i - (cs.length + 1) + 1) = i by omega]
  rfl
theorem c2G {B : Nat → Nat → Rat} {cs : List Nat} (hp : Piv B cs) (c : Nat) : a3z B (cs ++ [c]) = a3z B cs * a1c B cs cs.length c := by
  unfold a3z
  have hp' : piv cs.length (a0C B (cs ++ [c])) := b2c _ (fun a b _ hb => by simp only [a0C]; rw [a3y hb]) hp
  rw [a1t, c4m _ hp', c9N, Nat.add_zero]
  congr 1
  exact a0D fun a b _ hb => by simp only [a0C]; rw [a3y hb]
theorem c8M {B : Nat → Nat → Rat} {cs : List Nat} (hp : Piv B cs) {c : Nat} (h : a1c B cs cs.length c ≠ 0) : Piv B (cs ++ [c]) := by
  unfold Piv
  rw [a1t, b3b]
  refine ⟨b2c _ (fun a b _ hb => by simp only [a0C]; rw [a3y hb]) hp, ?_⟩
  rw [c9N, Nat.add_zero]; exact h
theorem a4F {B : Nat → Nat → Rat} {cs : List Nat} (hp : Piv B cs) : a3z B cs ≠ 0 := d8e _ hp
/-- Multiplied with the last head, what is left is whole. -/
theorem d3X {B : Nat → Nat → Rat} {cs : List Nat} (hp : Piv B cs) (hB : ∀ i k, ∃ z : Int, B i k = z) {i : Nat} (k : Nat) (hi : cs.length ≤ i) : ∃ z : Int, a3z B cs * a1c B cs i k = z := by
  let N : Nat → Nat → Rat := fun a b => B (if a = cs.length then i else a) (colm (cs ++ [k]) b)
  obtain ⟨z, hz⟩ := d4q (n := cs.length + 1) (M := N) fun r c => hB _ _
  refine ⟨z, ?_⟩
  have hN : ∀ a b, a < cs.length → b < cs.length → a0C B cs a b = N a b := fun a b ha hb => by
    simp only [N, a0C]
    rw [if_neg (by omega), a3y hb]
  rw [← hz, c4m _ (b2c _ hN hp)]
  unfold a3z a1c
  rw [a0D hN]
  congr 1
  refine c0C _ hN (fun b hb => ?_) (fun a ha => ?_) ?_
  · simp only [N, a0C]; rw [Nat.add_zero, if_pos rfl, a3y hb]
    rw [show cs.length + (i - cs.length) = i by omega]
  · simp only [N, a0C]; rw [if_neg (by omega), Nat.add_zero, b0n, a2v]
  · simp only [N, a0C]; rw [Nat.add_zero, if_pos rfl, b0n, a2v, show cs.length + (i - cs.length) = i by omega]
/-- Rows below the a0C exchanged. -/
theorem b0i {B : Nat → Nat → Rat} {cs : List Nat} {s t : Nat} (hs : cs.length ≤ s) (ht : cs.length ≤ t) {i : Nat} (k : Nat) (hi : cs.length ≤ i) : a1c (a0q s t B) cs i k = a1c B cs (if i = s then t else if i = t then s else i) k := by
  unfold a1c
  have hj : cs.length ≤ (if i = s then t else if i = t then s else i) := by split; exact ht; split; exact hs; exact hi
  generalize hj' : (if i = s then t else if i = t then s else i) = j at hj
  have hr : ∀ c, a0q s t B i c = B j c := fun c => by
    unfold a0q; rw [← hj']
    split
    · rfl
    · split <;> rfl
  refine c0C _ (fun a b ha hb => ?_) (fun b hb => ?_) (fun a ha => ?_) ?_
  · simp only [a0C, a0q]; rw [if_neg (by omega), if_neg (by omega)]
  · simp only [a0C]; rw [show cs.length + (i - cs.length) = i by omega, show cs.length + (j - cs.length) = j by omega, hr]
  · simp only [a0C, a0q]; rw [if_neg (by omega), if_neg (by omega)]
  · simp only [a0C]; rw [show cs.length + (i - cs.length) = i by omega, show cs.length + (j - cs.length) = j by omega, hr]
theorem b5o {B : Nat → Nat → Rat} {cs : List Nat} {s t : Nat} (hs : cs.length ≤ s) (ht : cs.length ≤ t) : a3z (a0q s t B) cs = a3z B cs := by
  unfold a3z
  exact a0D fun a b ha _ => by simp only [a0C, a0q]; rw [if_neg (by omega), if_neg (by omega)]
theorem c3t {B : Nat → Nat → Rat} {cs : List Nat} {s t : Nat} (hs : cs.length ≤ s) (ht : cs.length ≤ t) (hp : Piv B cs) : Piv (a0q s t B) cs := by
  unfold Piv at hp ⊢
  exact b2c _ (fun a b ha _ => by simp only [a0C, a0q]; rw [if_neg (by omega), if_neg (by omega)]) hp
end Go.Abs
namespace Go.Abs
/-- The first row from r on that has an entry there. -/
def a1r (f : Nat → Rat) (r n : Nat) : Option Nat := (List.range n).find? fun p => decide (r ≤ p) && decide (f p ≠ 0)
theorem a0v (f : Nat → Rat) (r n : Nat) : (∃ p, a1r f r n = some p ∧ r ≤ p ∧ p < n ∧ f p ≠ 0 ∧ ∀ j, r ≤ j → j < p → f j = 0) ∨ (a1r f r n = none ∧ ∀ j, r ≤ j → j < n → f j = 0) := by
  unfold a1r
  cases h : (List.range n).find? fun p => decide (r ≤ p) && decide (f p ≠ 0) with
  | none =>
    refine .inr ⟨rfl, fun j h1 h2 => ?_⟩
    rw [List.find?_eq_none] at h
    have := h j (List.mem_range.2 h2)
    simp [h1] at this
    exact this
  | some p =>
    refine .inl ⟨p, rfl, ?_⟩
    rw [List.find?_range_eq_some] at h
    obtain ⟨h1, h2, h3⟩ := h
    simp at h1
    refine ⟨h1.1, List.mem_range.1 h2, h1.2, fun j hj1 hj2 => ?_⟩
    have := h3 j hj2
    simp [hj1] at this
    exact this
structure GS where
  B : Nat → Nat → Rat
  cs : List Nat
  odd : Bool
def GS.g (s : GS) (i k : Nat) : Rat := a1c s.B s.cs i k
def GS.last (s : GS) : Rat := a3z s.B s.cs
def a4G (n : Nat) (s : GS) (c : Nat) : GS := match a1r (fun p => s.g p c) s.cs.length n with
  | none => s
  | some p => ⟨a0q p s.cs.length s.B, s.cs ++ [c], if p = s.cs.length then s.odd else !s.odd⟩
def gproc (n : Nat) (B : Nat → Nat → Rat) : Nat → GS
  | 0 => ⟨B, [], false⟩
  | c + 1 => a4G n (gproc n B c) c
structure GOk (n : Nat) (s : GS) : Prop where
  piv : Piv s.B s.cs
  len : s.cs.length ≤ n
theorem c1l (r : Nat) (M : Nat → Nat → Rat) : a0q r r M = M := by
  funext i k; unfold a0q
  split
  · rename_i h; rw [h]
  · rfl
theorem d5m {B : Nat → Nat → Rat} (h : ∀ i k, ∃ z : Int, B i k = z) (s t : Nat) : ∀ i k, ∃ z : Int, a0q s t B i k = z := by
  intro i k; unfold a0q
  split
  · exact h _ _
  · split <;> exact h _ _
theorem a0L {n c : Nat} {s : GS} (h : a1r (fun p => s.g p c) s.cs.length n = none) : a4G n s c = s := by unfold a4G; rw [h]
theorem a0s {n c p : Nat} {s : GS} (h : a1r (fun p => s.g p c) s.cs.length n = some p) : a4G n s c = ⟨a0q p s.cs.length s.B, s.cs ++ [c], if p = s.cs.length then s.odd else !s.odd⟩ := by unfold a4G; rw [h]
/-- The head as it stands behind the exchange. -/
theorem a3c {s : GS} {p : Nat} (hp : s.cs.length ≤ p) (k : Nat) : a1c (a0q p s.cs.length s.B) s.cs s.cs.length k = s.g p k := by
  rw [b0i hp (Nat.le_refl _) k (Nat.le_refl _)]
  unfold GS.g
  by_cases h : s.cs.length = p
  · rw [if_pos h, ← h]
  · rw [if_neg h, if_pos rfl]
theorem c3O {n c : Nat} {s : GS} (h : GOk n s) : GOk n (a4G n s c) := by
  rcases a0v (fun p => s.g p c) s.cs.length n with ⟨p, hf, h1, h2, h3, _⟩ | ⟨hf, _⟩
  · rw [a0s hf]
    refine ⟨c8M (c3t h1 (Nat.le_refl _) h.piv) ?_, by rw [a1t]; omega⟩
    rw [a3c h1]; exact h3
  · rw [a0L hf]; exact h
theorem a5k {n : Nat} {B : Nat → Nat → Rat} : ∀ c, GOk n (gproc n B c)
  | 0 => ⟨trivial, Nat.zero_le _⟩
  | c + 1 => c3O (a5k c)
theorem a3v {n : Nat} {B : Nat → Nat → Rat} (_hB : ∀ i k, ∃ z : Int, B i k = z) (c : Nat) : GOk n (gproc n B c) := a5k c
/-- Behind a step, for the rows below the new head. -/
theorem c3l {s : GS} {p : Nat} (hp : s.cs.length ≤ p) {i : Nat} (k c : Nat) (hi : s.cs.length < i) :
    a1c (a0q p s.cs.length s.B) (s.cs ++ [c]) i k = s.g (if i = p then s.cs.length else i) k - s.g (if i = p then s.cs.length else i) c / s.g p c * s.g p k := by
  rw [b5v _ _ _ hi, a3c hp, a3c hp, b0i hp (Nat.le_refl _) k (by omega), b0i hp (Nat.le_refl _) c (by omega)]
  unfold GS.g
  have e : (if i = p then s.cs.length else if i = s.cs.length then p else i) = if i = p then s.cs.length else i := by
    by_cases h : i = p
    · rw [if_pos h, if_pos h]
    · rw [if_neg h, if_neg h, if_neg (by omega)]
  rw [e]
theorem c4Q {n : Nat} {s : GS} (h : GOk n s) {p : Nat} (hp : s.cs.length ≤ p) (c : Nat) : a3z (a0q p s.cs.length s.B) (s.cs ++ [c]) = s.last * s.g p c := by
  rw [c2G (c3t hp (Nat.le_refl _) h.piv), a3c hp, b5o hp (Nat.le_refl _)]; rfl
/-- The cross product of whole rows is a multiple of the last head: the quotient is the next row. -/
theorem c4t {n : Nat} {s : GS} (h : GOk n s) (hint : ∀ i k, ∃ z : Int, s.B i k = z) {p c i k : Nat} (hp : s.cs.length ≤ p) (hf : s.g p c ≠ 0) (hi : s.cs.length < i) {last a b x y : Int} (hl : (last : Rat) = s.last)
    (ha : (a : Rat) = s.last * s.g p c) (hb : (b : Rat) = s.last * s.g (if i = p then s.cs.length else i) k) (hx : (x : Rat) = s.last * s.g (if i = p then s.cs.length else i) c) (hy : (y : Rat) = s.last * s.g p k) :
    ∃ z : Int, a * b - x * y = last * z ∧ (z : Rat) = (s.last * s.g p c) * a1c (a0q p s.cs.length s.B) (s.cs ++ [c]) i k := by
  have hok := c3O (c := c) h
  have hpiv : Piv (a0q p s.cs.length s.B) (s.cs ++ [c]) := c8M (c3t hp (Nat.le_refl _) h.piv) (by rw [a3c hp]; exact hf)
  obtain ⟨z, hz⟩ := d3X hpiv (d5m hint _ _) k (by rw [a1t]; omega : (s.cs ++ [c]).length ≤ i)
  rw [c4Q h hp] at hz
  refine ⟨z, ?_, hz.symm⟩
  have hq : ((a * b - x * y : Int) : Rat) = ((last * z : Int) : Rat) := by
    rw [Rat.intCast_sub, Rat.intCast_mul, Rat.intCast_mul, Rat.intCast_mul, ha, hb, hx, hy, hl, ← hz, c3l hp k c hi]
    have hne := a4F h.piv
    generalize s.g (if i = p then s.cs.length else i) k = u
    generalize s.g (if i = p then s.cs.length else i) c = v
    generalize s.last = l
    generalize s.g p k = w
    generalize s.g p c = t at *
    grind
  exact Rat.intCast_inj.1 hq
end Go.Abs
namespace Go.Abs
def a1H (M : Nat → Nat → Rat) (t : Nat) (u : Nat → Rat) : Nat → Nat → Rat := fun r c => if c = t then u r else M r c
theorem c0v (M : Nat → Nat → Rat) (t : Nat) : a1H M t (fun r => M r t) = M := by
  funext r c; unfold a1H; split
  · rename_i h; rw [h]
  · rfl
theorem a9T {M : Nat → Nat → Rat} {t i : Nat} {u : Nat → Rat} : (fun r c => a1H M (t + 1) u (skip i r) (c + 1)) = a1H (fun r c => M (skip i r) (c + 1)) t fun r => u (skip i r) := by
  funext r c; unfold a1H
  by_cases h : c = t
  · rw [if_pos (by omega), if_pos h]
  · rw [if_neg (by omega), if_neg h]
theorem a7Z {M : Nat → Nat → Rat} {i : Nat} {u : Nat → Rat} : (fun r c => a1H M 0 u (skip i r) (c + 1)) = fun r c => M (skip i r) (c + 1) := by
  funext r c; unfold a1H; rw [if_neg (by omega)]
theorem b0m : ∀ {n : Nat} {M : Nat → Nat → Rat} {t : Nat} (x y : Rat) (u w : Nat → Rat), t < n → det n (a1H M t fun r => x * u r + y * w r) = x * det n (a1H M t u) + y * det n (a1H M t w)
  | 0, _, _, _, _, _, _, h => absurd h (by omega)
  | n + 1, M, 0, x, y, u, w, h => by
    unfold det
    rw [← a2y]
    refine a0p fun i hi => ?_
    rw [a7Z, a7Z, a7Z]
    simp only [a1H, if_true]
    grind
  | n + 1, M, t + 1, x, y, u, w, h => by
    unfold det
    rw [← a2y]
    refine a0p fun i hi => ?_
    rw [a9T, a9T, a9T, b0m x y _ _ (by omega)]
    simp only [a1H]
    rw [if_neg (by omega), if_neg (by omega), if_neg (by omega)]
    grind
theorem a5w {n t : Nat} {M : Nat → Nat → Rat} (ht : t < n) (h : ∀ r, M r t = 0) : det n M = 0 := by
  have := b0m (n := n) (M := M) (t := t) 0 0 (fun r => M r t) (fun r => M r t) ht
  have e : (fun r => 0 * M r t + 0 * M r t) = fun r => M r t := by funext r; rw [h r]; grind
  rw [e, c0v] at this
  grind
/-- A zero column below the first row's, told for the entries that count. -/
theorem b7d {n t : Nat} {M : Nat → Nat → Rat} (ht : t < n) (h : ∀ r, r < n → M r t = 0) : det n M = 0 := by
  have e : det n M = det n (a1H M t fun _ => 0) := a0D fun r c hr _ => by
    unfold a1H; split
    · rename_i hc; rw [hc, h r hr]
    · rfl
  rw [e]
  exact a5w ht fun r => by unfold a1H; rw [if_pos rfl]
theorem d1C {n t : Nat} {M : Nat → Nat → Rat} (ht : t < n) (h : ∀ r, M r 0 = M r (t + 1)) : det (n + 1) M = 0 := by
  have key : ∀ N : Nat → Nat → Rat, (∀ r, N r 0 = N r (t + 1)) → N 0 0 ≠ 0 → det (n + 1) N = 0 := by
    intro N hN h0
    rw [a9S h0, a5w (n := n) (t := t) ht (M := a2H N) fun r => by
      unfold a2H
      rw [← hN, ← hN]
      grind]
    grind
  by_cases hz : ∀ r, r < n + 1 → M r 0 = 0
  · exact b7d (t := 0) (by omega) hz
  · have : ∃ p, p < n + 1 ∧ M p 0 ≠ 0 := Classical.byContradiction fun hc => hz fun r hr => Classical.byContradiction fun h1 => hc ⟨r, hr, h1⟩
    obtain ⟨p, hp, hp0⟩ := this
    by_cases h0 : p = 0
    · subst h0; exact key M h hp0
    · have hs := b7H (M := M) (s := 0) (t := p) (Ne.symm h0) (by omega) hp
      have hk := key (a0q 0 p M) (fun r => by
        unfold a0q
        split
        · exact h p
        · split
          · exact h 0
          · exact h r) (by unfold a0q; rw [if_pos rfl]; exact hp0)
      rw [hk] at hs
      grind
theorem c0s : ∀ (s : Nat) {n t : Nat} {M : Nat → Nat → Rat}, s + t + 1 < n → (∀ r, M r s = M r (s + t + 1)) → det n M = 0
  | s, 0, t, M, h, _ => absurd h (by omega)
  | 0, n + 1, t, M, h, he => d1C (t := t) (by omega) fun r => by have := he r; rwa [Nat.zero_add] at this
  | s + 1, n + 1, t, M, h, he => by
    unfold det
    refine b8l fun i hi => ?_
    rw [c0s s (t := t) (by omega) fun r => by
      have := he (skip i r)
      rwa [show s + 1 + t + 1 = s + t + 1 + 1 by omega] at this]
    grind
theorem c2S {n s t : Nat} {M : Nat → Nat → Rat} (hs : s < n) (ht : t < n) (hst : s ≠ t) (he : ∀ r, M r s = M r t) : det n M = 0 := by
  rcases Nat.lt_or_gt_of_ne hst with h | h
  · exact c0s s (t := t - s - 1) (by omega) fun r => by rw [show s + (t - s - 1) + 1 = t by omega]; exact he r
  · exact c0s t (t := s - t - 1) (by omega) fun r => by rw [show t + (s - t - 1) + 1 = s by omega]; exact (he r).symm
/-- Cramer's rule. -/
theorem d4v {n i : Nat} {A : Nat → Nat → Rat} (x : Nat → Rat) (hi : i < n) : ∀ m, m ≤ n → det n (a1H A i fun r => sumR (fun j => A r j * x j) m) = if i < m then x i * det n A else 0
  | 0, _ => by
    rw [if_neg (by omega)]
    exact a5w hi fun r => by unfold a1H; rw [if_pos rfl]; rfl
  | m + 1, h => by
    have hl := b0m (M := A) 1 (x m) (fun r => sumR (fun j => A r j * x j) m) (fun r => A r m) hi
    have e : (fun r => (1 : Rat) * sumR (fun j => A r j * x j) m + x m * A r m) = fun r => sumR (fun j => A r j * x j) (m + 1) := by
      funext r; simp only [sumR]; grind
    rw [e, d4v x hi m (by omega)] at hl
    rw [hl]
    by_cases him : i = m
    · subst him
      rw [if_neg (by omega), if_pos (by omega), c0v]
      grind
    · have h0 : det n (a1H A i fun r => A r m) = 0 := c2S hi (show m < n by omega) him fun r => by
        unfold a1H
        rw [if_pos rfl, if_neg (Ne.symm him)]
      rw [h0]
      by_cases h1 : i < m
      · rw [if_pos h1, if_pos (by omega)]; grind
      · rw [if_neg h1, if_neg (by omega)]; grind
theorem b4u : ∀ {n e : Nat} {M : Nat → Nat → Rat}, n ≤ LB → (∀ r c, r < n → c < n → ∃ z : Int, M r c = z ∧ z.natAbs ≤ LB ^ e) → ∃ z : Int, det n M = z ∧ z.natAbs ≤ LB ^ (n * (e + 1))
  | 0, e, _, _, _ => ⟨1, rfl, by simp⟩
  | n + 1, e, M, hn, h => by
    unfold det
    have hs : ∀ i, ∃ z : Int, sg i = z ∧ z.natAbs = 1 := by
      intro i
      induction i with
      | zero => exact ⟨1, rfl, rfl⟩
      | succ i ih => obtain ⟨z, hz, ha⟩ := ih; exact ⟨-z, by rw [sg, hz, Rat.intCast_neg], by rw [Int.natAbs_neg]; exact ha⟩
    have ht : ∀ i, i < n + 1 → ∃ z : Int, sg i * M i 0 * det n (fun r c => M (skip i r) (c + 1)) = z ∧ z.natAbs ≤ LB ^ e * LB ^ (n * (e + 1)) := fun i hi => by
      obtain ⟨a, ha, ha1⟩ := hs i
      obtain ⟨b, hb, hb1⟩ := h i 0 hi (by omega)
      obtain ⟨c, hc, hc1⟩ := b4u (n := n) (e := e) (M := fun r c => M (skip i r) (c + 1)) (by omega) fun r c hr hc => h _ _ (d2j hr) (by omega)
      refine ⟨a * b * c, by rw [ha, hb, hc, Rat.intCast_mul, Rat.intCast_mul], ?_⟩
      rw [Int.natAbs_mul, Int.natAbs_mul, ha1, Nat.one_mul]
      exact Nat.mul_le_mul hb1 hc1
    have : ∀ k, k ≤ n + 1 → ∃ z : Int, sumR (fun i => sg i * M i 0 * det n fun r c => M (skip i r) (c + 1)) k = z ∧ z.natAbs ≤ k * (LB ^ e * LB ^ (n * (e + 1))) := by
      intro k
      induction k with
      | zero => exact fun _ => ⟨0, rfl, by simp⟩
      | succ k ih =>
        intro hk
        obtain ⟨z, hz, hz1⟩ := ih (by omega)
        obtain ⟨y, hy, hy1⟩ := ht k (by omega)
        refine ⟨z + y, by rw [sumR, hz, hy, Rat.intCast_add], ?_⟩
        have := Int.natAbs_add_le z y
        rw [Nat.add_mul, Nat.one_mul]
        omega
    obtain ⟨z, hz, hz1⟩ := this (n + 1) (Nat.le_refl _)
    refine ⟨z, hz, Nat.le_trans hz1 ?_⟩
    rw [show (n + 1) * (e + 1) = 1 + (e + n * (e + 1)) by rw [Nat.add_mul]; omega, Nat.pow_add, Nat.pow_add, Nat.pow_one]
    exact Nat.mul_le_mul_right _ hn
end Go.Abs
namespace Go.Abs
structure JS where
  s : GS
  M : Nat → Nat → Rat
def JS.r (j : JS) : Nat := j.s.cs.length
/-- Row r by its entry at c; the others without it. -/
def jel (r c : Nat) (M : Nat → Nat → Rat) : Nat → Nat → Rat := fun i k => if i = r then M r k / M r c else M i k - M i c * (M r k / M r c)
def b5q (n : Nat) (j : JS) (c : Nat) : JS := match a1r (fun p => j.s.g p c) j.s.cs.length n with
  | none => j
  | some p => ⟨a4G n j.s c, jel j.s.cs.length c (a0q p j.s.cs.length j.M)⟩
def a0g (n : Nat) (B : Nat → Nat → Rat) : Nat → JS
  | 0 => ⟨⟨B, [], false⟩, B⟩
  | c + 1 => b5q n (a0g n B c) c
theorem d9k (n : Nat) (j : JS) (c : Nat) : (b5q n j c).s = a4G n j.s c := by
  unfold b5q
  cases h : a1r (fun p => j.s.g p c) j.s.cs.length n with
  | none => rw [a0L h]
  | some p => rfl
theorem a0J (n : Nat) (B : Nat → Nat → Rat) : ∀ c, (a0g n B c).s = gproc n B c
  | 0 => rfl
  | c + 1 => by rw [a0g, d9k, a0J n B c]; rfl
theorem a6U {n c : Nat} {j : JS} (h : a1r (fun p => j.s.g p c) j.s.cs.length n = none) : b5q n j c = j := by unfold b5q; rw [h]
theorem a6T {n c p : Nat} {j : JS} (h : a1r (fun p => j.s.g p c) j.s.cs.length n = some p) : b5q n j c = ⟨⟨a0q p j.s.cs.length j.s.B, j.s.cs ++ [c], if p = j.s.cs.length then j.s.odd else !j.s.odd⟩, jel j.s.cs.length c (a0q p j.s.cs.length j.M)⟩ := by
  have : b5q n j c = ⟨a4G n j.s c, jel j.s.cs.length c (a0q p j.s.cs.length j.M)⟩ := by unfold b5q; rw [h]
  rw [this, a0s h]
structure JOk (n : Nat) (j : JS) : Prop where
  g : GOk n j.s
  low : ∀ i k, j.s.cs.length ≤ i → j.M i k = j.s.g i k
  up : ∀ a k, j.s.B a k = sumR (fun i => j.s.B a (j.s.cs.getD i 0) * j.M i k) j.s.cs.length + if j.s.cs.length ≤ a then j.M a k else 0
theorem c8C (s t : Nat) (M : Nat → Nat → Rat) (a : Nat) : ∃ b, (∀ N : Nat → Nat → Rat, ∀ k, a0q s t N a k = N b k) ∧ ((s ≤ a ∨ t ≤ a) → True) ∧ (b = if a = s then t else if a = t then s else a) := by
  refine ⟨if a = s then t else if a = t then s else a, fun N k => ?_, fun _ => trivial, rfl⟩
  unfold a0q
  split
  · rfl
  · split <;> rfl
theorem d6B {n c : Nat} {j : JS} (h : JOk n j) : JOk n (b5q n j c) := by
  rcases a0v (fun p => j.s.g p c) j.s.cs.length n with ⟨p, hf, h1, h2, h3, _⟩ | ⟨hf, _⟩
  · have hg := c3O (c := c) h.g
    rw [a0s hf] at hg
    rw [a6T hf]
    have hlow : ∀ i k, j.s.cs.length ≤ i → a0q p j.s.cs.length j.M i k = j.s.g (if i = p then j.s.cs.length else if i = j.s.cs.length then p else i) k := by
      intro i k hi
      unfold a0q
      split
      · exact h.low _ _ (Nat.le_refl _)
      · split
        · exact h.low _ _ h1
        · exact h.low _ _ hi
    have hr : ∀ k, a0q p j.s.cs.length j.M j.s.cs.length k = j.s.g p k := by
      intro k
      rw [hlow _ _ (Nat.le_refl _)]
      by_cases e : j.s.cs.length = p
      · rw [if_pos e, e]
      · rw [if_neg e, if_pos rfl]
    refine ⟨hg, fun i k hi => ?_, fun a k => ?_⟩
    · simp only [a1t] at hi
      show jel _ c _ i k = a1c (a0q p j.s.cs.length j.s.B) (j.s.cs ++ [c]) i k
      unfold jel
      rw [if_neg (by omega), c3l h1 k c (by omega), hr, hr, hlow _ _ (by omega), hlow _ _ (by omega)]
      have e : (if i = p then j.s.cs.length else if i = j.s.cs.length then p else i) = if i = p then j.s.cs.length else i := by
        by_cases h : i = p
        · rw [if_pos h, if_pos h]
        · rw [if_neg h, if_neg h, if_neg (by omega)]
      rw [e]
      generalize j.s.g (if i = p then j.s.cs.length else i) k = u
      generalize j.s.g (if i = p then j.s.cs.length else i) c = v
      generalize j.s.g p k = w
      generalize j.s.g p c = t at *
      grind
    · -- the rows are made of those above
      show a0q p j.s.cs.length j.s.B a k = sumR (fun i => a0q p j.s.cs.length j.s.B a ((j.s.cs ++ [c]).getD i 0) * jel j.s.cs.length c (a0q p j.s.cs.length j.M) i k) (j.s.cs ++ [c]).length +
        if (j.s.cs ++ [c]).length ≤ a then jel j.s.cs.length c (a0q p j.s.cs.length j.M) a k else 0
      rw [a1t]
      obtain ⟨b, hb, _, hbe⟩ := c8C p j.s.cs.length j.s.B a
      have hba : (j.s.cs.length ≤ a) = (j.s.cs.length ≤ b) := by
        rw [hbe, eq_iff_iff]
        split
        · constructor <;> intro _ <;> omega
        · split
          · constructor <;> intro _ <;> omega
          · exact Iff.rfl
      have hinv : ∀ k, a0q p j.s.cs.length j.s.B a k = sumR (fun i => a0q p j.s.cs.length j.s.B a (j.s.cs.getD i 0) * j.M i k) j.s.cs.length + if j.s.cs.length ≤ a then a0q p j.s.cs.length j.M a k else 0 := by
        intro k
        simp only [hb, hba]
        exact h.up b k
      have hq0 : a0q p j.s.cs.length j.M j.s.cs.length c ≠ 0 := by rw [hr]; exact h3
      have hold : ∀ i, i < j.s.cs.length → ∀ k, a0q p j.s.cs.length j.M i k = j.M i k := by
        intro i hi k; unfold a0q; rw [if_neg (by omega), if_neg (by omega)]
      generalize hB : a0q p j.s.cs.length j.s.B = B' at *
      generalize hM : a0q p j.s.cs.length j.M = M0 at *
      generalize hq : M0 j.s.cs.length k / M0 j.s.cs.length c = q
      rw [sumR]
      have hs : sumR (fun i => B' a ((j.s.cs ++ [c]).getD i 0) * jel j.s.cs.length c M0 i k) j.s.cs.length = 1 * sumR (fun i => B' a (j.s.cs.getD i 0) * j.M i k) j.s.cs.length + (-q) * sumR (fun i => B' a (j.s.cs.getD i 0) * j.M i c) j.s.cs.length := by
        rw [← a2y]
        refine a0p fun i hi => ?_
        have e : (j.s.cs ++ [c]).getD i 0 = j.s.cs.getD i 0 := by
          simp [List.getD_eq_getElem?_getD, List.getElem?_append_left hi]
        rw [e]
        unfold jel
        rw [if_neg (by omega), hq, hold i hi, hold i hi]
        grind
      rw [hs]
      have e2 : (j.s.cs ++ [c]).getD j.s.cs.length 0 = c := by simp [List.getD_eq_getElem?_getD]
      rw [e2]
      have e3 : jel j.s.cs.length c M0 j.s.cs.length k = q := by unfold jel; rw [if_pos rfl, hq]
      rw [e3]
      have i1 := hinv k
      have i2 := hinv c
      by_cases ha : j.s.cs.length ≤ a
      · rw [if_pos ha] at i1 i2
        by_cases ha2 : j.s.cs.length + 1 ≤ a
        · rw [if_pos ha2]
          have e4 : jel j.s.cs.length c M0 a k = M0 a k - M0 a c * q := by unfold jel; rw [if_neg (by omega), hq]
          rw [e4]
          grind
        · rw [if_neg ha2]
          have : a = j.s.cs.length := by omega
          subst this
          have e5 : q * M0 j.s.cs.length c = M0 j.s.cs.length k := by rw [← hq]; exact Rat.div_mul_cancel hq0
          grind
      · rw [if_neg ha] at i1 i2
        rw [if_neg (by omega)]
        grind
  · rw [a6U hf]; exact h
theorem c5J {n : Nat} {B : Nat → Nat → Rat} : ∀ c, JOk n (a0g n B c)
  | 0 => ⟨⟨trivial, Nat.zero_le _⟩, fun i k _ => by simp [a0g, GS.g, b3A], fun a k => by simp only [a0g, sumR, List.length_nil, Nat.zero_le, if_true]; grind⟩
  | c + 1 => d6B (c5J c)
theorem a7F {n : Nat} {B : Nat → Nat → Rat} (_hB : ∀ i k, ∃ z : Int, B i k = z) (c : Nat) : JOk n (a0g n B c) := c5J c
def Bd (e : Nat) (B : Nat → Nat → Rat) : Prop := ∀ i k, ∃ z : Int, B i k = z ∧ z.natAbs ≤ LB ^ e
theorem Bd.swap {e : Nat} {B : Nat → Nat → Rat} (h : Bd e B) (s t : Nat) : Bd e (a0q s t B) := by
  intro i k; unfold a0q
  split
  · exact h _ _
  · split <;> exact h _ _
theorem Bd.gproc {e n : Nat} {B : Nat → Nat → Rat} (h : Bd e B) : ∀ c, Bd e (gproc n B c).B
  | 0 => h
  | c + 1 => by
    have ih := Bd.gproc (n := n) h c
    show Bd e (a4G n (Abs.gproc n B c) c).B
    unfold a4G
    cases a1r (fun p => (Abs.gproc n B c).g p c) (Abs.gproc n B c).cs.length n with
    | none => exact ih
    | some p => exact ih.swap _ _
theorem c7P {e : Nat} {B : Nat → Nat → Rat} (hB : Bd e B) (cs : List Nat) (hn : cs.length ≤ LB) : ∃ z : Int, a3z B cs = z ∧ z.natAbs ≤ LB ^ (cs.length * (e + 1)) :=
  b4u hn fun _ _ _ _ => hB _ _
/-- What is left, times the last head, is a determinant. -/
theorem b9T {e : Nat} {B : Nat → Nat → Rat} {cs : List Nat} (hp : Piv B cs) (hB : Bd e B) (hn : cs.length + 1 ≤ LB) {i : Nat} (k : Nat) (hi : cs.length ≤ i) : ∃ z : Int, a3z B cs * a1c B cs i k = z ∧ z.natAbs ≤ LB ^ ((cs.length + 1) * (e + 1)) := by
  let N : Nat → Nat → Rat := fun a b => B (if a = cs.length then i else a) (colm (cs ++ [k]) b)
  obtain ⟨z, hz, hz1⟩ := b4u (n := cs.length + 1) (e := e) (M := N) hn fun r c _ _ => hB _ _
  refine ⟨z, ?_, hz1⟩
  have hN : ∀ a b, a < cs.length → b < cs.length → a0C B cs a b = N a b := fun a b ha hb => by
    simp only [N, a0C]
    rw [if_neg (by omega), a3y hb]
  rw [← hz, c4m _ (b2c _ hN hp)]
  unfold a3z a1c
  rw [a0D hN]
  congr 1
  refine c0C _ hN (fun b hb => ?_) (fun a ha => ?_) ?_
  · simp only [N, a0C]; rw [Nat.add_zero, if_pos rfl, a3y hb]
    rw [show cs.length + (i - cs.length) = i by omega]
  · simp only [N, a0C]; rw [if_neg (by omega), Nat.add_zero, b0n, a2v]
  · simp only [N, a0C]; rw [Nat.add_zero, if_pos rfl, b0n, a2v, show cs.length + (i - cs.length) = i by omega]
/-- An entry above, times the last head, is a determinant. -/
theorem c6T {e n : Nat} {j : JS} (h : JOk n j) (hB : Bd e j.s.B) (hn : j.s.cs.length ≤ LB) {i : Nat} (k : Nat) (hi : i < j.s.cs.length) : ∃ z : Int, a3z j.s.B j.s.cs * j.M i k = z ∧ z.natAbs ≤ LB ^ (j.s.cs.length * (e + 1)) := by
  obtain ⟨z, hz, hz1⟩ := b4u (n := j.s.cs.length) (e := e) (M := a1H (a0C j.s.B j.s.cs) i fun a => j.s.B a k) hn fun r c _ _ => by
    unfold a1H; split
    · exact hB _ _
    · exact hB _ _
  refine ⟨z, ?_, hz1⟩
  have hc := d4v (A := a0C j.s.B j.s.cs) (fun t => j.M t k) hi j.s.cs.length (Nat.le_refl _)
  rw [if_pos hi] at hc
  have e1 : det j.s.cs.length (a1H (a0C j.s.B j.s.cs) i fun r => sumR (fun t => a0C j.s.B j.s.cs r t * j.M t k) j.s.cs.length) = det j.s.cs.length (a1H (a0C j.s.B j.s.cs) i fun a => j.s.B a k) := by
    refine a0D fun a b ha hb => ?_
    unfold a1H
    split
    · show sumR (fun t => a0C j.s.B j.s.cs a t * j.M t k) j.s.cs.length = j.s.B a k
      rw [h.up a k, if_neg (by omega)]
      rw [a0p (g := fun t => j.s.B a (j.s.cs.getD t 0) * j.M t k) fun t ht => by
        simp only [a0C, colm]; rw [if_pos ht]]
      grind
    · rfl
  rw [e1] at hc
  unfold a3z
  rw [← hz, hc]
  grind
def KB (e : Nat) : Nat := 65 * (e + 1)
theorem lbm {a b : Nat} (h : a ≤ b) : LB ^ a ≤ LB ^ b := Nat.pow_le_pow_right (by decide) h
theorem b7C {e n : Nat} {j : JS} (h : JOk n j) (hn : j.s.cs.length ≤ 64) (hB : Bd e j.s.B) : ∃ z : Int, a3z j.s.B j.s.cs = z ∧ z.natAbs ≤ LB ^ KB e := by
  have hl := h.g.len
  obtain ⟨z, hz, hz1⟩ := c7P hB j.s.cs (by have : LB = 4294967296 := rfl; omega)
  exact ⟨z, hz, Nat.le_trans hz1 (lbm (Nat.mul_le_mul_right _ (by omega)))⟩
theorem c3W {e n : Nat} {j : JS} (h : JOk n j) (hn : j.s.cs.length ≤ 64) (hB : Bd e j.s.B) (i k : Nat) : ∃ z : Int, a3z j.s.B j.s.cs * j.M i k = z ∧ z.natAbs ≤ LB ^ KB e := by
  have hl := h.g.len
  have hLB : LB = 4294967296 := rfl
  rcases Nat.lt_or_ge i j.s.cs.length with hi | hi
  · obtain ⟨z, hz, hz1⟩ := c6T (n := n) h hB (by omega) k hi
    exact ⟨z, hz, Nat.le_trans hz1 (lbm (Nat.mul_le_mul_right _ (by omega)))⟩
  · obtain ⟨z, hz, hz1⟩ := b9T h.g.piv hB (by omega) k hi
    rw [h.low i k hi]
    exact ⟨z, hz, Nat.le_trans hz1 (lbm (Nat.mul_le_mul_right _ (by omega)))⟩
end Go.Abs
namespace Go.Abs
def dv (n : Nat) (B : Nat → Nat → Rat) (t : Nat) : Rat := if (gproc n B t).cs.length = t then (if (gproc n B t).odd then -(gproc n B t).last else (gproc n B t).last) else 0
theorem a6W (n : Nat) (B : Nat → Nat → Rat) : ∀ t, (gproc n B t).cs.length ≤ t
  | 0 => Nat.le_refl _
  | t + 1 => by
    have ih := a6W n B t
    show (a4G n (gproc n B t) t).cs.length ≤ t + 1
    unfold a4G
    cases a1r (fun p => (gproc n B t).g p t) (gproc n B t).cs.length n with
    | none => exact Nat.le_succ_of_le ih
    | some p => simp only [a1t]; omega
theorem d9K {e n : Nat} {B : Nat → Nat → Rat} (hB : Bd e B) (t : Nat) (hn : n ≤ 64 ∨ t ≤ 64) : (gproc n B t).cs.length ≤ 64 := by
  have h1 := (a3v (n := n) (fun i k => by obtain ⟨z, h, _⟩ := hB i k; exact ⟨z, h⟩) t).len
  have h2 := a6W n B t
  omega
theorem b0Q {e n : Nat} {B : Nat → Nat → Rat} (hB : Bd e B) (t : Nat) (hn : n ≤ 64 ∨ t ≤ 64) : ∃ z : Int, (gproc n B t).last = z ∧ z.natAbs ≤ LB ^ KB e := by
  have hi : ∀ i k, ∃ z : Int, B i k = z := fun i k => by obtain ⟨z, h, _⟩ := hB i k; exact ⟨z, h⟩
  have := b7C (e := e) (a7F (n := n) hi t) (by rw [a0J]; exact d9K hB t hn) (by rw [a0J]; exact hB.gproc t)
  rwa [a0J] at this
theorem e1W {e n : Nat} {B : Nat → Nat → Rat} (hB : Bd e B) (t : Nat) (hn : n ≤ 64 ∨ t ≤ 64) : ∃ z : Int, dv n B t = z ∧ z.natAbs ≤ LB ^ KB e := by
  obtain ⟨z, hz, hz1⟩ := b0Q hB t hn
  unfold dv
  split
  · split
    · exact ⟨-z, by rw [hz, Rat.intCast_neg], by rw [Int.natAbs_neg]; exact hz1⟩
    · exact ⟨z, hz, hz1⟩
  · exact ⟨0, rfl, by simp⟩
end Go.Abs
namespace Go.Abs
/-- Row a as it stands: times the last head that was taken off it. -/
def Zg (s : GS) (a b : Nat) : Rat := a3z s.B (s.cs.take a) * a1c s.B (s.cs.take a) a b
theorem d4V {s : GS} {a : Nat} (b : Nat) (h : s.cs.length ≤ a) : Zg s a b = s.last * s.g a b := by
  unfold Zg; rw [List.take_of_length_le h]; rfl
theorem d1r {B : Nat → Nat → Rat} {cs : List Nat} {m a b : Nat} (hb : b < (cs.take m).length) : a0C B (cs.take m) a b = a0C B cs a b := by
  rw [List.length_take] at hb
  simp only [a0C, colm]
  rw [if_pos (by rw [List.length_take]; exact hb), if_pos (by omega)]
  congr 1
  simp [List.getD_eq_getElem?_getD, List.getElem?_take]
  rw [if_pos (by omega)]
theorem b7y {B : Nat → Nat → Rat} : ∀ (m : Nat) {cs : List Nat}, Piv B cs → Piv B (cs.take m) := by
  intro m cs h
  have key : ∀ k, piv (k + (cs.take m).length) (a0C B cs) → piv (cs.take m).length (a0C B cs) := by
    intro k
    induction k with
    | zero => intro h; rwa [Nat.zero_add] at h
    | succ k ih => intro h; rw [show k + 1 + (cs.take m).length = (k + (cs.take m).length) + 1 by omega, b3b] at h; exact ih h.1
  have h1 := key (cs.length - (cs.take m).length) (by
    have : cs.length - (cs.take m).length + (cs.take m).length = cs.length := by rw [List.length_take]; omega
    rw [this]; exact h)
  exact b2c _ (fun a b _ hb => (d1r hb).symm) h1
/-- Processed columns are empty below the a0C. -/
theorem c2N {n : Nat} {B : Nat → Nat → Rat} (hB : ∀ i k, ∃ z : Int, B i k = z) : ∀ t a b, (gproc n B t).cs.length ≤ a → a < n → b < t → (gproc n B t).g a b = 0
  | 0, _, _, _, _, h => absurd h (by omega)
  | t + 1, a, b, ha, han, hb => by
    have ih := c2N (n := n) hB t
    rcases a0v (fun p => (gproc n B t).g p t) (gproc n B t).cs.length n with ⟨p, hf, h1, h2, h3, _⟩ | ⟨hf, h4⟩
    · have e : gproc n B (t + 1) = _ := a0s hf
      rw [e] at ha ⊢
      simp only [a1t] at ha
      show a1c (a0q p (gproc n B t).cs.length (gproc n B t).B) ((gproc n B t).cs ++ [t]) a b = 0
      rw [c3l h1 b t (by omega)]
      have hj : (if a = p then (gproc n B t).cs.length else a) < n := by split <;> omega
      have hj2 : (gproc n B t).cs.length ≤ (if a = p then (gproc n B t).cs.length else a) := by split <;> omega
      generalize (if a = p then (gproc n B t).cs.length else a) = i at *
      by_cases hbt : b = t
      · subst hbt
        generalize (gproc n B b).g i b = u
        generalize (gproc n B b).g p b = v at *
        grind
      · rw [ih i b hj2 hj (by omega), ih p b h1 h2 (by omega)]
        grind
    · have e : gproc n B (t + 1) = _ := a0L hf
      rw [e] at ha ⊢
      by_cases hbt : b = t
      · subst hbt; exact h4 a ha han
      · exact ih a b ha han (by omega)
section
variable {n t p : Nat} {B : Nat → Nat → Rat} (hB : ∀ i k, ∃ z : Int, B i k = z) (hf : a1r (fun p => (gproc n B t).g p t) (gproc n B t).cs.length n = some p) (hp : (gproc n B t).cs.length ≤ p)
include hf hp
theorem d7L {a : Nat} (b : Nat) (ha : a < (gproc n B t).cs.length) : Zg (gproc n B (t + 1)) a b = Zg (gproc n B t) a b := by
  have e : gproc n B (t + 1) = _ := a0s hf
  rw [e]
  unfold Zg
  simp only
  have ht : ((gproc n B t).cs ++ [t]).take a = (gproc n B t).cs.take a := by rw [List.take_append_of_le_length (by omega)]
  have hl : ((gproc n B t).cs.take a).length = a := by rw [List.length_take]; omega
  rw [ht, b5o (by omega) (by omega), b0i (by omega) (by omega) b (by omega), if_neg (by omega), if_neg (by omega)]
theorem e0u (b : Nat) : Zg (gproc n B (t + 1)) (gproc n B t).cs.length b = (gproc n B t).last * (gproc n B t).g p b := by
  have e : gproc n B (t + 1) = _ := a0s hf
  rw [e]
  unfold Zg
  simp only
  rw [List.take_append_of_le_length (Nat.le_refl _), List.take_length, b5o hp (Nat.le_refl _), a3c hp]; rfl
omit hp in
theorem c9M {a : Nat} (b : Nat) (ha : (gproc n B t).cs.length < a) : Zg (gproc n B (t + 1)) a b = (gproc n B (t + 1)).last * (gproc n B (t + 1)).g a b := by
  have e : gproc n B (t + 1) = _ := a0s hf
  exact d4V b (by rw [e]; simp only [a1t]; omega)
theorem d3A (h : GOk n (gproc n B t)) : (gproc n B (t + 1)).last = (gproc n B t).last * (gproc n B t).g p t := by
  have e : gproc n B (t + 1) = _ := a0s hf
  rw [e]
  exact c4Q h hp t
end
theorem d7K {e n : Nat} {B : Nat → Nat → Rat} (hB : Bd e B) (hn : n ≤ 64) (t : Nat) {a : Nat} (b : Nat) (ha : a < n) : ∃ z : Int, Zg (gproc n B t) a b = z ∧ z.natAbs ≤ LB ^ KB e := by
  have hi : ∀ i k, ∃ z : Int, B i k = z := fun i k => by obtain ⟨z, h, _⟩ := hB i k; exact ⟨z, h⟩
  have hok := a3v (n := n) hi t
  have hl : ((gproc n B t).cs.take a).length ≤ a := by rw [List.length_take]; omega
  have hLB : LB = 4294967296 := rfl
  obtain ⟨z, hz, hz1⟩ := b9T (b7y a hok.piv) (hB.gproc t) (by omega) (i := a) b hl
  exact ⟨z, hz, Nat.le_trans hz1 (lbm (Nat.mul_le_mul_right _ (by omega)))⟩
end Go.Abs
namespace Go.Abs
def a2b (w : Nat → Int) : Nat → Nat
  | 0 => 0
  | n + 1 => Int.gcd (a2b w n) (w n)
/-- The sign of the first entry that is not 0. -/
def sgF (w : Nat → Int) : Nat → Int
  | 0 => 1
  | n + 1 => if (∀ i, i < n → w i = 0) ∧ w n < 0 then -1 else sgF w n
def a1a (w : Nat → Int) (c : Nat) (i : Nat) : Int := w i / (sgF w c * (a2b w c : Int))
theorem b9S {w v : Nat → Int} : ∀ {n : Nat}, (∀ i, i < n → w i = v i) → a2b w n = a2b v n
  | 0, _ => rfl
  | n + 1, h => by rw [a2b, a2b, b9S fun i hi => h i (by omega), h n (by omega)]
theorem c4W {w v : Nat → Int} : ∀ {n : Nat}, (∀ i, i < n → w i = v i) → sgF w n = sgF v n
  | 0, _ => rfl
  | n + 1, h => by
    have e : (∀ i, i < n → w i = 0) = (∀ i, i < n → v i = 0) := by
      rw [eq_iff_iff]
      exact ⟨fun q i hi => by rw [← h i (by omega)]; exact q i hi, fun q i hi => by rw [h i (by omega)]; exact q i hi⟩
    unfold sgF
    rw [c4W fun i hi => h i (by omega), h n (by omega)]
    simp only [e]
theorem c4U (w : Nat → Int) : ∀ n, sgF w n = 1 ∨ sgF w n = -1
  | 0 => .inl rfl
  | n + 1 => by
    unfold sgF; split
    · exact .inr rfl
    · exact c4U w n
theorem c5P (w : Nat → Int) : ∀ {n i : Nat}, i < n → (a2b w n : Int) ∣ w i
  | 0, _, h => absurd h (by omega)
  | n + 1, i, h => by
    rw [a2b]
    by_cases e : i = n
    · subst e; exact Int.gcd_dvd_right ..
    · exact Int.dvd_trans (Int.gcd_dvd_left ..) (c5P w (by omega))
theorem b5u {w : Nat → Int} : ∀ {n : Nat}, a2b w n = 0 ↔ ∀ i, i < n → w i = 0
  | 0 => ⟨fun _ i h => absurd h (by omega), fun _ => rfl⟩
  | n + 1 => by
    rw [a2b, Int.gcd_eq_zero_iff]
    constructor
    · rintro ⟨h1, h2⟩ i hi
      by_cases e : i = n
      · subst e; exact h2
      · exact (b5u (n := n)).1 (by omega) i (by omega)
    · intro h
      exact ⟨by rw [(b5u (n := n)).2 fun i hi => h i (by omega)]; rfl, h n (by omega)⟩
theorem c2M (a : Int) (w : Nat → Int) : ∀ n, a2b (fun i => a * w i) n = a.natAbs * a2b w n
  | 0 => rfl
  | n + 1 => by
    rw [a2b, a2b, c2M a w n]
    rw [Int.gcd, Int.gcd, Int.natAbs_mul, Int.natAbs_natCast, Int.natAbs_natCast, Nat.gcd_mul_left]
theorem c9l {w : Nat → Int} {M : Nat} (hM : 0 < M) : ∀ {n : Nat}, (∀ i, i < n → (w i).natAbs < M) → a2b w n < M
  | 0, _ => hM
  | n + 1, h => by
    rw [a2b, Int.gcd, Int.natAbs_natCast]
    have h1 := c9l hM (n := n) fun i hi => h i (by omega)
    rcases Nat.eq_zero_or_pos (a2b w n) with h0 | h0
    · rw [h0, Nat.gcd_zero_left]; exact h n (by omega)
    · exact Nat.lt_of_le_of_lt (Nat.gcd_le_left _ h0) h1
theorem c8H {a : Int} (ha : a ≠ 0) {w : Nat → Int} : ∀ {n : Nat}, (∃ i, i < n ∧ w i ≠ 0) → sgF (fun i => a * w i) n = a.sign * sgF w n
  | 0, h => by obtain ⟨i, hi, _⟩ := h; omega
  | n + 1, h => by
    have e : (∀ i, i < n → a * w i = 0) = (∀ i, i < n → w i = 0) := by
      rw [eq_iff_iff]
      exact ⟨fun q i hi => by rcases Int.mul_eq_zero.1 (q i hi) with h | h; exact absurd h ha; exact h, fun q i hi => by rw [q i hi, Int.mul_zero]⟩
    by_cases h0 : ∀ i, i < n → w i = 0
    · have hn : w n ≠ 0 := by
        obtain ⟨i, hi, hw⟩ := h
        by_cases e : i = n
        · subst e; exact hw
        · exact absurd (h0 i (by omega)) hw
      have hs0 : ∀ (v : Nat → Int) (m : Nat), (∀ i, i < m → v i = 0) → sgF v m = 1 := by
        intro v m
        induction m with
        | zero => intro _; rfl
        | succ m ih => intro hv; unfold sgF; rw [if_neg (by intro h; have := h.2; rw [hv m (by omega)] at this; omega)]; exact ih fun i hi => hv i (by omega)
      unfold sgF
      rw [hs0 w n h0, hs0 (fun i => a * w i) n fun i hi => by rw [h0 i hi, Int.mul_zero]]
      simp only [e]
      rcases Int.lt_or_gt_of_ne ha with ha' | ha'
      · rw [Int.sign_eq_neg_one_of_neg ha']
        rcases Int.lt_or_gt_of_ne hn with hn' | hn'
        · rw [if_neg (by intro h; have := h.2; have := Int.mul_pos_of_neg_of_neg ha' hn'; omega), if_pos ⟨h0, hn'⟩]; rfl
        · rw [if_pos ⟨h0, Int.mul_neg_of_neg_of_pos ha' hn'⟩, if_neg (by intro h; have := h.2; omega)]; rfl
      · rw [Int.sign_eq_one_of_pos ha', Int.one_mul]
        rcases Int.lt_or_gt_of_ne hn with hn' | hn'
        · rw [if_pos ⟨h0, Int.mul_neg_of_pos_of_neg ha' hn'⟩, if_pos ⟨h0, hn'⟩]
        · rw [if_neg (by intro h; have := h.2; have := Int.mul_pos ha' hn'; omega), if_neg (by intro h; have := h.2; omega)]
    · have hex : ∃ i, i < n ∧ w i ≠ 0 := Classical.byContradiction fun hc => h0 fun i hi => Classical.byContradiction fun h1 => hc ⟨i, hi, h1⟩
      unfold sgF
      simp only [e]
      rw [if_neg (fun h => h0 h.1), if_neg (fun h => h0 h.1), c8H ha hex]
def Nz (w : Nat → Int) (c : Nat) : Prop := ∃ i, i < c ∧ w i ≠ 0
theorem c9k {w : Nat → Int} {c : Nat} (h : Nz w c) : a2b w c ≠ 0 := fun h0 => by
  obtain ⟨i, hi, hw⟩ := h
  exact hw (b5u.1 h0 i hi)
theorem d2r {w : Nat → Int} {c : Nat} (h : Nz w c) : sgF w c * (a2b w c : Int) ≠ 0 := by
  have := c9k h
  exact Int.mul_ne_zero (by rcases c4U w c with h | h <;> omega) (by omega)
/-- A multiple of what is left. -/
theorem a2S {w : Nat → Int} {c i : Nat} (hi : i < c) : w i = (sgF w c * (a2b w c : Int)) * a1a w c i := by
  obtain ⟨q, hq⟩ := c5P w hi
  unfold a1a
  rcases Nat.eq_zero_or_pos (a2b w c) with h0 | h0
  · rw [h0] at hq; rw [h0]; simp at hq ⊢; exact hq
  · have hd : (sgF w c * (a2b w c : Int)) ∣ w i := by
      rcases c4U w c with h | h
      · rw [h, Int.one_mul]; exact ⟨q, hq⟩
      · rw [h]; exact ⟨-q, by rw [hq, Int.neg_mul, Int.one_mul, Int.neg_mul_neg]⟩
    rw [Int.mul_ediv_cancel' hd]
theorem c5g {a : Int} (ha : a ≠ 0) {w : Nat → Int} {c : Nat} (h : Nz w c) {i : Nat} (hi : i < c) : a1a (fun i => a * w i) c i = a1a w c i := by
  have h1 := a2S (w := w) hi
  have hne := d2r h
  unfold a1a
  rw [c8H ha h, c2M]
  have e : a.sign * sgF w c * ((a.natAbs * a2b w c : Nat) : Int) = a * (sgF w c * (a2b w c : Int)) := by
    rw [Int.natCast_mul]
    have key : ∀ t s m g : Int, t * s * (m * g) = t * m * (s * g) := by
      intro t s m g; rw [Int.mul_assoc, Int.mul_assoc, Int.mul_left_comm s m g]
    rw [key, Int.sign_mul_natAbs a]
  rw [e]
  show a * w i / _ = w i / _
  generalize a1a w c i = p at *
  generalize sgF w c * (a2b w c : Int) = x at *
  rw [h1, ← Int.mul_assoc, Int.mul_ediv_cancel_left _ (Int.mul_ne_zero ha hne), Int.mul_ediv_cancel_left _ hne]
theorem b4L {w v : Nat → Int} {c : Nat} (h : ∀ i, i < c → w i = v i) {i : Nat} (hi : i < c) : a1a w c i = a1a v c i := by
  unfold a1a; rw [b9S h, c4W h, h i hi]
/-- Parallel vectors have one such. -/
theorem c3s {a b : Int} (ha : a ≠ 0) (hb : b ≠ 0) {w v : Nat → Int} {c : Nat} (hw : Nz w c) (h : ∀ i, i < c → a * w i = b * v i) {i : Nat} (hi : i < c) : a1a w c i = a1a v c i := by
  have hv : Nz v c := by
    obtain ⟨j, hj, hw⟩ := hw
    refine ⟨j, hj, fun h0 => ?_⟩
    have := h j hj
    rw [h0, Int.mul_zero] at this
    rcases Int.mul_eq_zero.1 this with h | h
    · exact ha h
    · exact hw h
  rw [← c5g ha hw hi, ← c5g hb hv hi]
  exact b4L h hi
theorem d8V {w : Nat → Int} {c : Nat} (h : Nz w c) : Nz (a1a w c) c := by
  obtain ⟨j, hj, hw⟩ := h
  refine ⟨j, hj, fun h0 => hw ?_⟩
  rw [a2S (w := w) hj, h0, Int.mul_zero]
theorem c5h {w : Nat → Int} {c : Nat} (h : Nz w c) {i : Nat} (hi : i < c) : a1a (a1a w c) c i = a1a w c i := by
  have hne := d2r h
  refine c3s (a := sgF w c * (a2b w c : Int)) (b := 1) hne (by decide) (d8V h) (fun j hj => ?_) hi
  rw [Int.one_mul]; exact (a2S hj).symm
theorem b0d {w : Nat → Int} {c i : Nat} (hi : i < c) : (a1a w c i).natAbs ≤ (w i).natAbs := by
  rcases Nat.eq_zero_or_pos (a2b w c) with h0 | h0
  · unfold a1a; rw [h0]; simp
  · have h1 := a2S (w := w) hi
    have h2 := congrArg Int.natAbs h1
    rw [Int.natAbs_mul] at h2
    rw [h2]
    refine Nat.le_mul_of_pos_left _ ?_
    have : sgF w c * (a2b w c : Int) ≠ 0 := Int.mul_ne_zero (by rcases c4U w c with h | h <;> omega) (by omega)
    omega
theorem c4V {w : Nat → Int} : ∀ {c i : Nat}, i < c → w i ≠ 0 → (∀ j, j < i → w j = 0) → sgF w c = if w i < 0 then -1 else 1
  | 0, _, h, _, _ => absurd h (by omega)
  | n + 1, i, hi, h0, h => by
    unfold sgF
    by_cases e : i = n
    · subst e
      have h1 : sgF w i = 1 := by
        have : ∀ m, m ≤ i → sgF w m = 1 := by
          intro m
          induction m with
          | zero => intro _; rfl
          | succ m ih => intro hm; unfold sgF; rw [if_neg (by intro q; have := q.2; rw [h m (by omega)] at this; omega)]; exact ih (by omega)
        exact this i (Nat.le_refl _)
      rw [h1]
      by_cases hn : w i < 0
      · rw [if_pos ⟨h, hn⟩, if_pos hn]
      · rw [if_neg (fun q => hn q.2), if_neg hn]
    · rw [if_neg (fun q => h0 (q.1 i (by omega)))]
      exact c4V (by omega) h0 h
end Go.Abs
namespace Go.Abs
def InS (j : JS) (v : Nat → Rat) : Prop := ∀ k, v k = sumR (fun i => v (j.s.cs.getD i 0) * j.M i k) j.s.cs.length
theorem d3I {j : JS} {u w : Nat → Rat} (hu : InS j u) (hw : InS j w) (a b : Rat) : InS j (fun k => a * u k + b * w k) := by
  intro k
  show a * u k + b * w k = _
  rw [hu k, hw k, ← a2y]
  refine a0p fun i _ => ?_
  show _ = (a * u (j.s.cs.getD i 0) + b * w (j.s.cs.getD i 0)) * j.M i k
  grind
theorem b4G {cs : List Nat} {m : Nat} (h : m < cs.length) : cs.take (m + 1) = cs.take m ++ [cs.getD m 0] := by
  rw [List.take_succ_eq_append_getElem h, List.getD_eq_getElem?_getD, List.getElem?_eq_getElem h]; rfl
section
variable {n : Nat} {j : JS} (h : JOk n j)
include h
theorem e1a {a : Nat} (ha : a < j.s.cs.length) : InS j (fun k => j.s.B a k) := by
  intro k
  have := h.up a k
  rw [if_neg (by omega)] at this
  show j.s.B a k = _
  rw [this]
  grind
theorem c3P : ∀ m i, m ≤ i → i < j.s.cs.length → InS j (fun k => a1c j.s.B (j.s.cs.take m) i k)
  | 0, i, _, hi => by
    have := e1a h hi
    intro k
    have := this k
    simp only [List.take_zero, b3A] at this ⊢
    exact this
  | m + 1, i, hm, hi => by
    have h1 := c3P m i (by omega) hi
    have h2 := c3P m m (Nat.le_refl m) (by omega)
    have hl : (j.s.cs.take m).length = m := by rw [List.length_take]; omega
    have hc := d3I h1 h2 1 (-(a1c j.s.B (j.s.cs.take m) i (j.s.cs.getD m 0) / a1c j.s.B (j.s.cs.take m) m (j.s.cs.getD m 0)))
    have e : (fun k => a1c j.s.B (j.s.cs.take (m + 1)) i k) = fun k => 1 * a1c j.s.B (j.s.cs.take m) i k + -(a1c j.s.B (j.s.cs.take m) i (j.s.cs.getD m 0) / a1c j.s.B (j.s.cs.take m) m (j.s.cs.getD m 0)) * a1c j.s.B (j.s.cs.take m) m k := by
      funext k
      rw [b4G (by omega), b5v _ _ _ (by rw [hl]; omega), hl]
      grind
    rw [e]; exact hc
theorem c8L {a : Nat} (ha : a < j.s.cs.length) : a1c j.s.B (j.s.cs.take a) a (j.s.cs.getD a 0) ≠ 0 := by
  have h1 := a4F (b7y (a + 1) h.g.piv)
  have hl : (j.s.cs.take a).length = a := by rw [List.length_take]; omega
  rw [b4G ha, c2G (b7y a h.g.piv), hl] at h1
  intro h0
  rw [h0] at h1
  exact h1 (by grind)
theorem b5x : ∀ m i t, m ≤ i → i < j.s.cs.length → t < m → a1c j.s.B (j.s.cs.take m) i (j.s.cs.getD t 0) = 0
  | 0, _, _, _, _, ht => absurd ht (by omega)
  | m + 1, i, t, hm, hi, ht => by
    have hl : (j.s.cs.take m).length = m := by rw [List.length_take]; omega
    rw [b4G (by omega), b5v _ _ _ (by rw [hl]; omega), hl]
    by_cases e : t = m
    · subst e
      have hp := c8L h (a := t) (by omega)
      generalize a1c j.s.B (j.s.cs.take t) t (j.s.cs.getD t 0) = p at *
      generalize a1c j.s.B (j.s.cs.take t) i (j.s.cs.getD t 0) = q
      grind
    · rw [b5x m i t (by omega) hi (by omega), b5x m m t (Nat.le_refl m) (by omega) (by omega)]
      grind
theorem e2B {a : Nat} (ha : a < j.s.cs.length) : InS j (fun k => Zg j.s a k) := by
  have h1 := c3P h a a (Nat.le_refl a) ha
  have := d3I h1 h1 (a3z j.s.B (j.s.cs.take a)) 0
  have e : (fun k => Zg j.s a k) = fun k => a3z j.s.B (j.s.cs.take a) * a1c j.s.B (j.s.cs.take a) a k + 0 * a1c j.s.B (j.s.cs.take a) a k := by
    funext k; unfold Zg; grind
  rw [e]; exact this
theorem d7J {a t : Nat} (ha : a < j.s.cs.length) (ht : t < a) : Zg j.s a (j.s.cs.getD t 0) = 0 := by
  unfold Zg; rw [b5x h a a t (Nat.le_refl a) ha ht]; grind
theorem d7I {a : Nat} (ha : a < j.s.cs.length) : Zg j.s a (j.s.cs.getD a 0) ≠ 0 := by
  unfold Zg
  have h1 := c8L h ha
  have h2 := a4F (b7y a h.g.piv)
  generalize a1c j.s.B (j.s.cs.take a) a (j.s.cs.getD a 0) = x at *
  generalize a3z j.s.B (j.s.cs.take a) = y at *
  grind
end
/-- The a0C are columns that were gone through. -/
theorem d7b {n : Nat} {B : Nat → Nat → Rat} : ∀ t c, c ∈ (gproc n B t).cs → c < t
  | 0, _, h => by simp [gproc] at h
  | t + 1, c, h => by
    have h' : c ∈ (a4G n (gproc n B t) t).cs := h
    unfold a4G at h'
    cases hf : a1r (fun p => (gproc n B t).g p t) (gproc n B t).cs.length n with
    | none => rw [hf] at h'; exact Nat.lt_succ_of_lt (d7b t c h')
    | some p =>
      rw [hf] at h'
      rcases List.mem_append.1 h' with h | h
      · exact Nat.lt_succ_of_lt (d7b t c h)
      · simp at h; omega
theorem a1m {n : Nat} {B : Nat → Nat → Rat} {t i : Nat} (h : i < (gproc n B t).cs.length) : (gproc n B t).cs.getD i 0 < t := by
  refine d7b (n := n) (B := B) t _ ?_
  rw [List.getD_eq_getElem?_getD, List.getElem?_eq_getElem h]
  exact List.getElem_mem h
end Go.Abs
namespace Go.Abs
structure Alt (n : Nat) (F : (Nat → Nat → Rat) → Rat) : Prop where
  congr : ∀ M N, (∀ r c, r < n → c < n → M r c = N r c) → F M = F N
  eq0 : ∀ M s t, s ≠ t → s < n → t < n → (∀ c, M s c = M t c) → F M = 0
  lin : ∀ M t (x y : Rat) (u w : Nat → Rat), t < n → F (a0j M t fun c => x * u c + y * w c) = x * F (a0j M t u) + y * F (a0j M t w)
def oneR : Nat → Nat → Rat := fun i k => if i = k then 1 else 0
section
variable {n : Nat} {F : (Nat → Nat → Rat) → Rat} (h : Alt n F)
include h
theorem Alt.add {M : Nat → Nat → Rat} {t : Nat} (u w : Nat → Rat) (ht : t < n) : F (a0j M t fun c => u c + w c) = F (a0j M t u) + F (a0j M t w) := by
  have := h.lin M t 1 1 u w ht
  have e : (fun c => (1 : Rat) * u c + 1 * w c) = fun c => u c + w c := by funext c; grind
  rw [e] at this
  grind
theorem Alt.swap {M : Nat → Nat → Rat} {s t : Nat} (hst : s ≠ t) (hs : s < n) (ht : t < n) : F (a0q s t M) = -F M := by
  let u := M s
  let w := M t
  have A : ∀ p q : Nat → Rat, (∀ c, p c = q c) → F (a0j (a0j M s p) t q) = 0 := fun p q hpq => h.eq0 _ s t hst hs ht fun c => by
    unfold a0j
    simp [hst, hpq c]
  have h0 := A (fun c => u c + w c) (fun c => u c + w c) fun _ => rfl
  rw [h.add _ _ ht, a1g hst, a1g hst, h.add _ _ hs, h.add _ _ hs, ← a1g hst, ← a1g hst, ← a1g hst, ← a1g hst, A u u fun _ => rfl, A w w fun _ => rfl] at h0
  have e1 : a0j (a0j M s u) t w = M := by
    show a0j (a0j M s (M s)) t (M t) = M
    rw [a2W]; exact a2W M t
  have e2 : a0j (a0j M s w) t u = a0q s t M := by
    funext r c; unfold a0j a0q
    by_cases h1 : r = s
    · subst h1; simp [hst]; rfl
    · by_cases h2 : r = t
      · subst h2; simp [h1]; rfl
      · simp [h1, h2]
  rw [e1, e2] at h0
  grind
theorem Alt.addrow {M : Nat → Nat → Rat} {s t : Nat} (x : Rat) (hst : s ≠ t) (hs : s < n) (ht : t < n) : F (a0j M t fun c => M t c + x * M s c) = F M := by
  have h1 := h.lin M t 1 x (M t) (M s) ht
  have e : (fun c => (1 : Rat) * M t c + x * M s c) = fun c => M t c + x * M s c := by funext c; grind
  rw [e, a2W] at h1
  have h0 : F (a0j M t (M s)) = 0 := h.eq0 _ s t hst hs ht fun c => by unfold a0j; simp [hst]
  rw [h1, h0]
  grind
theorem Alt.elim (M : Nat → Nat → Rat) : ∀ k, k < n → F (a5v M k) = F M
  | 0, _ => by congr 1; funext r c; unfold a5v; rw [if_neg (by omega)]
  | k + 1, hk => by
    rw [← Alt.elim M k (by omega), ← h.addrow (M := a5v M k) (s := 0) (t := k + 1) (-(M (k + 1) 0 / M 0 0)) (by omega) (by omega) hk]
    congr 1
    funext r c
    unfold a0j a5v
    by_cases e : r = k + 1
    · subst e
      rw [if_pos ⟨by omega, Nat.le_refl _⟩, if_pos rfl]
      show _ = (if 0 < k + 1 ∧ k + 1 ≤ k then _ else _) + _ * (if 0 < 0 ∧ 0 ≤ k then _ else _)
      rw [if_neg (by omega), if_neg (by omega)]
    · by_cases h2 : 0 < r ∧ r ≤ k
      · rw [if_pos ⟨h2.1, by omega⟩, if_neg e, if_pos h2]
      · rw [if_neg (by omega), if_neg e, if_neg h2]
end
/-- A first row, and behind it a smaller matrix with nought ahead. -/
def und (u : Nat → Rat) (N : Nat → Nat → Rat) : Nat → Nat → Rat := fun r c => if r = 0 then u c else if c = 0 then 0 else N (r - 1) (c - 1)
def shR (v : Nat → Rat) : Nat → Rat := fun c => if c = 0 then 0 else v (c - 1)
theorem b4F (u v : Nat → Rat) (N : Nat → Nat → Rat) (t : Nat) : und u (a0j N t v) = a0j (und u N) (t + 1) (shR v) := by
  funext r c
  cases r with
  | zero => exact (if_neg (show ¬ 0 = t + 1 by omega)).symm
  | succ r =>
    cases c with
    | zero =>
      show (0 : Rat) = if r + 1 = t + 1 then 0 else 0
      split <;> rfl
    | succ c =>
      show (if r = t then v c else N r c) = if r + 1 = t + 1 then v c else N r c
      by_cases e : r = t
      · rw [if_pos e, if_pos (by omega)]
      · rw [if_neg e, if_neg (by omega)]
theorem Alt.und {n : Nat} {F : (Nat → Nat → Rat) → Rat} (h : Alt (n + 1) F) (u : Nat → Rat) : Alt n fun N => F (und u N) := by
  refine ⟨fun M N he => h.congr _ _ fun r c hr hc => ?_, fun M s t hst hs ht he => h.eq0 _ (s + 1) (t + 1) (by omega) (by omega) (by omega) fun c => ?_, fun M t x y v w ht => ?_⟩
  · cases r with
    | zero => rfl
    | succ r =>
      cases c with
      | zero => rfl
      | succ c => exact he r c (by omega) (by omega)
  · cases c with
    | zero => rfl
    | succ c => exact he c
  · show F (Abs.und u (a0j M t _)) = x * F (Abs.und u (a0j M t v)) + y * F (Abs.und u (a0j M t w))
    rw [b4F, b4F, b4F, ← h.lin _ _ _ _ _ _ (by omega)]
    congr 2
    funext c
    unfold shR
    split
    · grind
    · rfl
/-- The first row above the unit matrix. -/
theorem Alt.und_one {n : Nat} {F : (Nat → Nat → Rat) → Rat} (h : Alt (n + 1) F) (u : Nat → Rat) : F (Abs.und u oneR) = u 0 * F oneR := by
  have key : ∀ k, k ≤ n → F (Abs.und (fun c => if 0 < c ∧ c ≤ k then 0 else u c) oneR) = F (Abs.und u oneR) := by
    intro k
    induction k with
    | zero =>
      intro _
      congr 2
      funext c; rw [if_neg (by omega)]
    | succ k ih =>
      intro hk
      rw [← ih (by omega), ← h.addrow (M := Abs.und (fun c => if 0 < c ∧ c ≤ k then 0 else u c) oneR) (s := k + 1) (t := 0) (-(u (k + 1))) (by omega) (by omega) (by omega)]
      congr 1
      funext r c
      cases r with
      | zero =>
        cases c with
        | zero =>
          show (if 0 < 0 ∧ 0 ≤ k + 1 then 0 else u 0) = (if 0 < 0 ∧ 0 ≤ k then 0 else u 0) + -(u (k + 1)) * 0
          rw [if_neg (by omega), if_neg (by omega)]; grind
        | succ c =>
          show (if 0 < c + 1 ∧ c + 1 ≤ k + 1 then 0 else u (c + 1)) = (if 0 < c + 1 ∧ c + 1 ≤ k then 0 else u (c + 1)) + -(u (k + 1)) * (if k = c then 1 else 0)
          by_cases e : k = c
          · subst e; rw [if_pos ⟨by omega, Nat.le_refl _⟩, if_neg (by omega), if_pos rfl]; grind
          · rw [if_neg e]
            by_cases h2 : 0 < c + 1 ∧ c + 1 ≤ k
            · rw [if_pos ⟨h2.1, by omega⟩, if_pos h2]; grind
            · rw [if_neg (by omega), if_neg h2]; grind
      | succ r => rfl
  rw [← key n (Nat.le_refl n)]
  have e : ∀ r c, r < n + 1 → c < n + 1 → Abs.und (fun c => if 0 < c ∧ c ≤ n then 0 else u c) oneR r c = a0j oneR 0 (fun c => u 0 * oneR 0 c + 0 * oneR 0 c) r c := by
    intro r c hr hc
    cases r with
    | zero =>
      cases c with
      | zero =>
        show (if 0 < 0 ∧ 0 ≤ n then 0 else u 0) = u 0 * 1 + 0 * 1
        rw [if_neg (by omega)]; grind
      | succ c =>
        show (if 0 < c + 1 ∧ c + 1 ≤ n then 0 else u (c + 1)) = u 0 * 0 + 0 * 0
        rw [if_pos ⟨by omega, by omega⟩]; grind
    | succ r =>
      cases c with
      | zero => rfl
      | succ c =>
        show (if r = c then (1 : Rat) else 0) = if r + 1 = c + 1 then 1 else 0
        by_cases e : r = c
        · rw [if_pos e, if_pos (by omega)]
        · rw [if_neg e, if_neg (by omega)]
  rw [h.congr _ _ e, h.lin _ _ _ _ _ _ (by omega), a2W]
  grind
theorem Alt.uniq : ∀ {n : Nat} {F : (Nat → Nat → Rat) → Rat}, Alt n F → ∀ M, F M = F oneR * det n M
  | 0, F, h, M => by
    rw [h.congr M oneR fun r c hr => absurd hr (by omega)]
    simp only [det]; grind
  | n + 1, F, h, M => by
    have small : ∀ M : Nat → Nat → Rat, M 0 0 ≠ 0 → F M = F oneR * det (n + 1) M := by
      intro M h0
      have e : F M = F (Abs.und (M 0) (a2H M)) := by
        rw [← h.elim M n (by omega)]
        refine h.congr _ _ fun r c hr hc => ?_
        cases r with
        | zero => exact if_neg (by omega)
        | succ r =>
          have e1 : a5v M n (r + 1) c = M (r + 1) c + -(M (r + 1) 0 / M 0 0) * M 0 c := if_pos ⟨by omega, by omega⟩
          rw [e1]
          cases c with
          | zero => show _ = (0 : Rat); grind
          | succ c => show _ = M (r + 1) (c + 1) - M (r + 1) 0 / M 0 0 * M 0 (c + 1); grind
      have h1 := Alt.uniq (h.und (M 0)) (a2H M)
      have h2 := h.und_one (M 0)
      rw [e, h1, h2, a9S h0]
      grind
    by_cases h0 : ∀ r, r < n + 1 → M r 0 = 0
    · have e : F M = F (Abs.und (M 0) fun i k => M (i + 1) (k + 1)) := by
        refine h.congr _ _ fun r c hr hc => ?_
        cases r with
        | zero => rfl
        | succ r =>
          cases c with
          | zero => exact h0 (r + 1) hr
          | succ c => rfl
      have h1 := Alt.uniq (h.und (M 0)) fun i k => M (i + 1) (k + 1)
      have h2 := h.und_one (M 0)
      rw [e, h1, h2, h0 0 (by omega), b7d (t := 0) (by omega) h0]
      grind
    · obtain ⟨p, hp, hne⟩ : ∃ p, p < n + 1 ∧ M p 0 ≠ 0 := by
        refine Classical.byContradiction fun hq => h0 fun r hr => Classical.byContradiction fun hz => hq ⟨r, hr, hz⟩
      by_cases hp0 : p = 0
      · subst hp0; exact small M hne
      · have hs := small (a0q 0 p M) (by unfold a0q; rw [if_pos rfl]; exact hne)
        rw [h.swap (by omega) (by omega) hp, b7H (by omega) (by omega) hp] at hs
        grind
theorem b7I : ∀ n, det n oneR = 1
  | 0 => rfl
  | n + 1 => by
    have h0 : oneR 0 0 = 1 := if_pos rfl
    rw [a9S (by rw [h0]; decide), h0]
    have : det n (a2H oneR) = det n oneR := a0D fun r c _ _ => by
      unfold a2H oneR
      rw [if_neg (show ¬ r + 1 = 0 by omega)]
      by_cases e : r = c
      · rw [if_pos e, if_pos (by omega)]; grind
      · rw [if_neg e, if_neg (by omega)]; grind
    rw [this, b7I n]; grind
def mulR (n : Nat) (A B : Nat → Nat → Rat) : Nat → Nat → Rat := fun i k => sumR (fun j => A i j * B j k) n
theorem d4p (n : Nat) (A B : Nat → Nat → Rat) : det n (mulR n A B) = det n A * det n B := by
  have h : Alt n fun A => det n (mulR n A B) := by
    refine ⟨fun M N he => a0D fun r c hr hc => a0p fun j hj => by rw [he r j hr hj], fun M s t hst hs ht he => b4t hst hs ht fun c => a0p fun j _ => by rw [he j], fun M t x y u w ht => ?_⟩
    have e : ∀ v : Nat → Rat, mulR n (a0j M t v) B = a0j (mulR n M B) t fun c => sumR (fun j => v j * B j c) n := fun v => by
      funext r c
      unfold mulR a0j
      split <;> rfl
    show det n (mulR n (a0j M t _) B) = _ * det n (mulR n (a0j M t u) B) + _ * det n (mulR n (a0j M t w) B)
    rw [e, e, e, ← b5A _ _ _ _ ht]
    congr 2
    funext c
    rw [← a2y]
    exact a0p fun j _ => by grind
  have h1 := h.uniq A
  have h2 : det n (mulR n oneR B) = det n B := a0D fun r c hr hc => by
    unfold mulR
    rw [a7i hr fun j _ hj => by unfold oneR; rw [if_neg (Ne.symm hj)]; grind]
    unfold oneR; rw [if_pos rfl]; grind
  show det n (mulR n A B) = _
  have h3 : det n (mulR n A B) = det n (mulR n oneR B) * det n A := h1
  rw [h3, h2]
  grind
theorem b7G (n : Nat) (A : Nat → Nat → Rat) : det n (fun i k => A k i) = det n A := by
  have h : Alt n fun A => det n fun i k => A k i := by
    refine ⟨fun M N he => a0D fun r c hr hc => he c r hc hr, fun M s t hst hs ht he => c2S hs ht hst he, fun M t x y u w ht => ?_⟩
    have e : ∀ v : Nat → Rat, (fun i k => a0j M t v k i) = a1H (fun i k => M k i) t v := fun v => by
      funext r c
      unfold a0j a1H
      rfl
    show det n (fun i k => a0j M t _ k i) = _ * det n (fun i k => a0j M t u k i) + _ * det n (fun i k => a0j M t w k i)
    rw [e, e, e, ← b0m _ _ _ _ ht]
  have h1 : det n (fun i k => A k i) = det n (fun i k => oneR k i) * det n A := h.uniq A
  have h2 : det n (fun i k => oneR k i) = det n oneR := a0D fun r c _ _ => by unfold oneR; by_cases e : r = c <;> simp [e, eq_comm]
  rw [h1, h2, b7I]
  grind
end Go.Abs
namespace Go.Abs
/-- A row left behind is the row less a combination of the heads' rows. -/
theorem c8u : ∀ (r : Nat) (M : Nat → Nat → Rat) (i : Nat), ∃ l : Nat → Rat, ∀ k, SS r M i k = M (r + i) (r + k) + sumR (fun j => l j * M j (r + k)) r
  | 0, M, i => ⟨fun _ => 0, fun k => by simp only [SS, sumR, Nat.zero_add]; grind⟩
  | r + 1, M, i => by
    obtain ⟨l, hl⟩ := c8u r M (i + 1)
    obtain ⟨m, hm⟩ := c8u r M 0
    refine ⟨fun j => if j < r then l j - SS r M (i + 1) 0 / SS r M 0 0 * m j else -(SS r M (i + 1) 0 / SS r M 0 0), fun k => ?_⟩
    rw [c8t]
    unfold a2H
    generalize SS r M (i + 1) 0 / SS r M 0 0 = c
    rw [hl, hm, sumR]
    show _ = M (r + 1 + i) (r + 1 + k) + (sumR (fun j => (if j < r then l j - c * m j else -c) * M j (r + 1 + k)) r + (if r < r then l r - c * m r else -c) * M r (r + 1 + k))
    rw [if_neg (Nat.lt_irrefl r)]
    have e : sumR (fun j => (if j < r then l j - c * m j else -c) * M j (r + 1 + k)) r = 1 * sumR (fun j => l j * M j (r + (k + 1))) r + (-c) * sumR (fun j => m j * M j (r + (k + 1))) r := by
      rw [← a2y]
      refine a0p fun j hj => ?_
      rw [if_pos hj, show r + 1 + k = r + (k + 1) by omega]; grind
    rw [e, show r + 1 + i = r + (i + 1) by omega, show r + 1 + k = r + (k + 1) by omega, Nat.add_zero]
    grind
theorem c6i {n t : Nat} {M : Nat → Nat → Rat} (ht : t < n) (l : Nat → Rat) : ∀ m, m ≤ t → det n (a0j M t fun c => sumR (fun j => l j * M j c) m) = 0
  | 0, _ => by
    have h := b5A (M := M) 0 0 (M t) (M t) ht
    have e : (fun c => (0 : Rat) * M t c + 0 * M t c) = fun c => sumR (fun j => l j * M j c) 0 := by funext c; simp only [sumR]; grind
    rw [e] at h
    rw [h]; grind
  | m + 1, hm => by
    have h := b5A (M := M) 1 (l m) (fun c => sumR (fun j => l j * M j c) m) (M m) ht
    have e : (fun c => (1 : Rat) * sumR (fun j => l j * M j c) m + l m * M m c) = fun c => sumR (fun j => l j * M j c) (m + 1) := by funext c; simp only [sumR]; grind
    have h0 : det n (a0j M t (M m)) = 0 := b4t (s := m) (t := t) (by omega) (by omega) ht fun c => by unfold a0j; rw [if_neg (by omega), if_pos rfl]
    rw [e, c6i ht l m (by omega), h0] at h
    rw [h]; grind
theorem d1B {n : Nat} {B : Nat → Nat → Rat} {cs : List Nat} {i : Nat} (hi : i < n) (hc : cs.length ≤ i) (h0 : ∀ k, k < n → a1c B cs i k = 0) : det n B = 0 := by
  obtain ⟨l, hl⟩ := c8u cs.length (a0C B cs) (i - cs.length)
  have hrow : ∀ k, k < n → B i k = sumR (fun j => -l j * B j k) cs.length := fun k hk => by
    have h1 := h0 k hk
    unfold a1c at h1
    rw [hl] at h1
    have e1 : a0C B cs (cs.length + (i - cs.length)) (cs.length + k) = B i k := by
      unfold a0C; rw [a2v, show cs.length + (i - cs.length) = i by omega]
    have e2 : sumR (fun j => l j * a0C B cs j (cs.length + k)) cs.length = -1 * sumR (fun j => -l j * B j k) cs.length + 0 * sumR (fun j => -l j * B j k) cs.length := by
      rw [← a2y]
      refine a0p fun j _ => ?_
      unfold a0C; rw [a2v]; grind
    rw [e1, e2] at h1
    grind
  rw [← c6i hi (fun j => -l j) cs.length hc]
  refine a0D fun r c hr hc => ?_
  unfold a0j
  by_cases e : r = i
  · rw [if_pos e, e]; exact hrow c hc
  · rw [if_neg e]
theorem c5N (n : Nat) (B : Nat → Nat → Rat) : ∀ t, det n (gproc n B t).B = if (gproc n B t).odd then -det n B else det n B
  | 0 => rfl
  | t + 1 => by
    have ih := c5N n B t
    rcases a0v (fun p => (gproc n B t).g p t) (gproc n B t).cs.length n with ⟨p, hf, h1, h2, h3, _⟩ | ⟨hf, h4⟩
    · have e : gproc n B (t + 1) = _ := a0s hf
      rw [e]
      show det n (a0q p (gproc n B t).cs.length (gproc n B t).B) = if (if p = (gproc n B t).cs.length then (gproc n B t).odd else !(gproc n B t).odd) = true then -det n B else det n B
      by_cases hp : p = (gproc n B t).cs.length
      · rw [if_pos hp, hp, c1l]; exact ih
      · rw [if_neg hp, b7H hp h2 (by omega), ih]
        cases (gproc n B t).odd <;> simp <;> grind
    · have e : gproc n B (t + 1) = _ := a0L hf
      rw [e]; exact ih
theorem b5t {n : Nat} {B : Nat → Nat → Rat} : ∀ t, (gproc n B t).cs.length = t → ∀ b, b < t → (gproc n B t).cs.getD b 0 = b
  | 0, _, _, h => absurd h (by omega)
  | t + 1, hl, b, hb => by
    rcases a0v (fun p => (gproc n B t).g p t) (gproc n B t).cs.length n with ⟨p, hf, h1, h2, h3, _⟩ | ⟨hf, h4⟩
    · have e : gproc n B (t + 1) = _ := a0s hf
      rw [e] at hl ⊢
      simp only [a1t] at hl
      show ((gproc n B t).cs ++ [t]).getD b 0 = b
      have ht : (gproc n B t).cs.length = t := by omega
      by_cases hbt : b = t
      · subst hbt; simp [List.getD_eq_getElem?_getD, ht]
      · have := b5t t ht b (by omega)
        rw [List.getD_eq_getElem?_getD, List.getElem?_append_left (by omega), ← List.getD_eq_getElem?_getD]; exact this
    · have e : gproc n B (t + 1) = gproc n B t := a0L hf
      rw [e] at hl
      have := a6W n B t
      omega
theorem e1Y {n : Nat} {B : Nat → Nat → Rat} (hB : ∀ i k, ∃ z : Int, B i k = z) : dv n B n = det n B := by
  have hs := c5N n B n
  unfold dv
  by_cases h : (gproc n B n).cs.length = n
  · rw [if_pos h]
    have e : (gproc n B n).last = det n (gproc n B n).B := by
      unfold GS.last a3z
      rw [h]
      refine a0D fun r c _ hc => ?_
      unfold a0C colm
      rw [if_pos (by omega), b5t n h c hc]
    rw [e, hs]
    cases (gproc n B n).odd <;> simp
  · have hlt := a6W n B n
    rw [if_neg h]
    have h0 := d1B (n := n) (B := (gproc n B n).B) (cs := (gproc n B n).cs) (i := (gproc n B n).cs.length) (by omega) (Nat.le_refl _) fun k hk => c2N hB n _ k (Nat.le_refl _) (by omega) hk
    rw [h0] at hs
    cases hodd : (gproc n B n).odd <;> rw [hodd] at hs <;> simp at hs <;> grind
end Go.Abs

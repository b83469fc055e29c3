/- Operations on abstract values that leave memory alone; each does in the model what it says. -/
import Derived.Test.YtmbjamifiadncaaDoorA1
import Derived.Laws.BytesArg
set_option linter.unusedVariables false
set_option linter.unusedSimpArgs false
namespace Go.Abs

abbrev Env := List (Nat × AV)
def look : Env → Nat → AV
  | [], _ => .top
  | (k, v) :: r, t => if k = t then v else look r t

inductive Src where
  | t (n : Nat)
  | c (a : AV)

def Src.ev (env : Env) : Src → AV
  | .t n => look env n
  | .c a => a

/-- Pure operations. -/
inductive POp where
  | mv (a : Src)
  | pick (c a b : Src)
  | lens (a : Src)
  | len (a : Src)
  | bin (op : BinOp) (a b : Src)
  | beq (neg : Bool) (a b : Src)
  | un (op : UnOp) (a : Src)
  | conv (k : IntKind) (a : Src)
  | ext (a : Src) (i : Nat)
  | fldp (a : Src) (off : Nat)
  | idxp (wd : Nat) (a i : Src)
  | idxs (a i : Src)
  | load (n : Option Nat) (a : Src)
  | slc (wd : Nat) (x : Src) (lo hi mx : Option Src)
  | slcs (x : Src) (lo hi : Option Src)
  | bld (zero : List AV) (parts : List (Nat × Nat × Src))
  | mkfn (f : FuncId) (caps : List Src)
  | mkbf (f : FuncId) (bs : List Src)
  | mnx (mx : Bool) (a b : Src)
  | b2s (a : Src)

def AV.solid : AV → Bool
  | .top | .agg _ | .tup _ => false
  | .lit v => v.oneCell'
  | _ => true

def intBin (op : BinOp) (k : IntKind) (x y : Int) : Option AV :=
  match op with
  | .add => some (.int k (k.wrap (x + y)))
  | .sub => some (.int k (k.wrap (x - y)))
  | .mul => some (.int k (k.wrap (x * y)))
  | .quo => if y = 0 then none else some (.int k (k.wrap (x.tdiv y)))
  | .rem => if y = 0 then none else some (.int k (x.tmod y))
  | .and => some (.int k (k.wrap (BitVec.ofInt k.bits x &&& BitVec.ofInt k.bits y).toNat))
  | .or => some (.int k (k.wrap (BitVec.ofInt k.bits x ||| BitVec.ofInt k.bits y).toNat))
  | .xor => some (.int k (k.wrap (BitVec.ofInt k.bits x ^^^ BitVec.ofInt k.bits y).toNat))
  | .eql => some (.bool (x == y))
  | .neq => some (.bool (x != y))
  | .lss => some (.bool (x < y))
  | .leq => some (.bool (x ≤ y))
  | .gtr => some (.bool (x > y))
  | .geq => some (.bool (x ≥ y))
  | _ => none

def shBin (op : BinOp) (k : IntKind) (x y : Int) : Option AV :=
  if y < 0 then none else
  match op with
  | .shl => some (.int k (k.wrap (x * 2 ^ (min y.toNat k.bits))))
  | .shr => some (.int k (x.fdiv (2 ^ (min y.toNat k.bits))))
  | _ => none

def binV (op : BinOp) (a b : AV) : Option AV :=
  match a, b with
  | .int k x, .int k' y =>
    match op with
    | .shl => shBin .shl k x y
    | .shr => shBin .shr k x y
    | op => if k = k' then intBin op k x y else none
  | .str x, .str y =>
    match op with
    | .add => if ((x.size + y.size : Nat) : Int) > IntKind.i64.max then none else some (.str (x ++ y))
    | .eql => some (.bool (x.toList == y.toList))
    | .neq => some (.bool !(x.toList == y.toList))
    | _ => none
  | _, _ => none

def hrow (H : Heap) (id : Nat) : Option Blk := (H[id]?).join

def lenV (H : Heap) : AV → Option AV
  | .sl _ xs => some (.int .i64 xs.length)
  | .nil => some (.int .i64 0)
  | .mu id _ len _ => if (hrow H id).isSome then some (.int .i64 len) else none
  | _ => none

/-- The cells that a pointer points at, from its place to the element's end. -/
def atV (H : Heap) : AV → Option (List AV)
  | .ro x off => some (x.cells.drop off)
  | .loc id i off => (hrow H id).bind fun b => if i < b.xs.length then some ((b.xs.getD i .top).cells.drop off) else none
  | _ => none

def loadV (H : Heap) (n : Option Nat) (p : AV) : Option AV :=
  (atV H p).bind fun cs => match n with
    | none => cs[0]?
    | some n => if n ≤ cs.length then some (.agg (cs.take n)) else none

def idxV (H : Heap) (wd : Nat) (a i : AV) : Option AV :=
  match i with
  | .int _ i =>
    match a with
    | .sl wd' xs => if wd' = wd ∧ 0 ≤ i ∧ i < xs.length then some (.ro (xs.getD i.toNat .top) 0) else none
    | .mu id off len _ => (hrow H id).bind fun b => if b.wd = wd ∧ 0 ≤ i ∧ i < len then some (.loc id (off + i.toNat) 0) else none
    | _ => none
  | _ => none

def boundV (d : Int) : Option AV → Option Int
  | none => some d
  | some (.int _ i) => some i
  | some _ => none

def slcV (H : Heap) (wd : Nat) (x : AV) (lo hi mx : Option AV) : Option AV :=
  match x with
  | .sl wd' xs => (boundV 0 lo).bind fun l => (boundV xs.length hi).bind fun h =>
      match mx with
      | none => if wd' = wd ∧ 0 ≤ l ∧ l ≤ h ∧ h ≤ xs.length then some (.sl wd ((xs.drop l.toNat).take (h.toNat - l.toNat))) else none
      | some (.int _ m) => if wd' = wd ∧ hi.isSome ∧ 0 ≤ l ∧ l ≤ h ∧ h ≤ m ∧ m ≤ xs.length then some (.sl wd ((xs.drop l.toNat).take (h.toNat - l.toNat))) else none
      | some _ => none
  | .mu id off len oc => (hrow H id).bind fun b => (boundV 0 lo).bind fun l => (boundV len hi).bind fun h =>
      match mx with
      | none => if b.wd = wd ∧ 0 ≤ l ∧ l ≤ h ∧ h ≤ len then some (.mu id (off + l.toNat) (h.toNat - l.toNat) (oc.map (· - l.toNat))) else none
      | some (.int _ m) => if b.wd = wd ∧ hi.isSome ∧ 0 ≤ l ∧ l ≤ h ∧ h ≤ m ∧ m ≤ len then some (.mu id (off + l.toNat) (h.toNat - l.toNat) (some (m.toNat - l.toNat))) else none
      | some _ => none
  | _ => none

def slcS (x : AV) (lo hi : Option AV) : Option AV :=
  match x with
  | .str s => (boundV 0 lo).bind fun l => (boundV s.size hi).bind fun h => if 0 ≤ l ∧ l ≤ h ∧ h ≤ s.size then some (.str (s.extract l.toNat h.toNat)) else none
  | _ => none

def splice (cs : List AV) (off : Nat) (as : List AV) : List AV := cs.take off ++ as ++ cs.drop (off + as.length)

/-- Fit to lie in memory. -/
def AV.fit : AV → Bool
  | .agg _ => true
  | a => a.solid

def bldV (env : Env) : List AV → List (Nat × Nat × Src) → Option (List AV)
  | cs, [] => some cs
  | cs, (off, n, s) :: r =>
    let a := s.ev env
    if a.cells.length = n ∧ off + n ≤ cs.length ∧ a.fit = true then bldV env (splice cs off a.cells) r else none

/-- The numbers of bytes. -/
def numsOf : List AV → Option (List Int)
  | [] => some []
  | .int .u8 n :: r => (numsOf r).map (n :: ·)
  | _ => none

def strB (xs : List AV) : Option AV := (numsOf xs).map fun ns => .str (strOfNums ns)

/-- Bytes to a string. -/
def b2sV (H : Heap) : AV → Option AV
  | .nil => some (.str ByteArray.empty)
  | .sl wd xs => if wd = 1 then strB xs else none
  | .mu id off len _ => (hrow H id).bind fun b => if b.wd = 1 ∧ off + len ≤ b.xs.length then strB ((b.xs.drop off).take len) else none
  | _ => none

def mnxV (mx : Bool) (a b : AV) : Option AV :=
  match a, b with
  | .int k x, .int _ y => some (.int k (if mx then (if y > x then y else x) else (if y < x then y else x)))
  | _, _ => none

def pv (o : POp) (env : Env) (H : Heap) : Option AV :=
  match o with
  | .mv a => some (a.ev env)
  | .pick c a b => match c.ev env with
    | .bool c => if c then some (a.ev env) else some (b.ev env)
    | _ => none
  | .lens a => match a.ev env with
    | .str s => some (.int .i64 s.size)
    | _ => none
  | .len a => lenV H (a.ev env)
  | .bin op a b => binV op (a.ev env) (b.ev env)
  | .beq neg a b => match a.ev env, b.ev env with
    | .bool x, .bool y => some (.bool (if neg then !(x == y) else (x == y)))
    | _, _ => none
  | .un op a => match op, a.ev env with
    | .neg, .int k n => some (.int k (k.wrap (0 - n)))
    | .not, .bool b => some (.bool !b)
    | _, _ => none
  | .conv k a => match a.ev env with
    | .int _ n => some (.int k (k.wrap n))
    | _ => none
  | .ext a i => match a.ev env with
    | .tup vs => vs[i]?
    | _ => none
  | .fldp a off => match a.ev env with
    | .ro x o => some (.ro x (o + off))
    | .loc id i o => if (hrow H id).isSome then some (.loc id i (o + off)) else none
    | _ => none
  | .idxp wd a i => idxV H wd (a.ev env) (i.ev env)
  | .idxs a i => match a.ev env, i.ev env with
    | .str s, .int _ i => if 0 ≤ i ∧ i < s.size then some (.int .u8 (s.data.toList.getD i.toNat 0).toNat) else none
    | _, _ => none
  | .load n a => loadV H n (a.ev env)
  | .slc wd x lo hi mx => slcV H wd (x.ev env) (lo.map (·.ev env)) (hi.map (·.ev env)) (mx.map (·.ev env))
  | .slcs x lo hi => slcS (x.ev env) (lo.map (·.ev env)) (hi.map (·.ev env))
  | .bld zero parts => (bldV env zero parts).map .agg
  | .mkfn f caps => some (.fn f (caps.map (·.ev env)))
  | .mkbf f bs => some (.bfn f (bs.map (·.ev env)))
  | .mnx mx a b => mnxV mx (a.ev env) (b.ev env)
  | .b2s a => b2sV H (a.ev env)

/-! ### From the model's operations -/
def constAV : Value → AV
  | .int k n => .int k n
  | .bool b => .bool b
  | .string s => .str s
  | .slice none 0 0 => .nil
  | v => .lit v

def srcOf : Operand → Option Src
  | .tmp t => some (.t t)
  | .const v => some (.c (constAV v))
  | .func f => some (.c (.fn f []))
  | .global _ => none

def srcOpt : Option Operand → Option (Option Src)
  | none => some none
  | some x => (srcOf x).map some

def isAggD : TypeDesc → Bool
  | .struct _ | .array _ _ => true
  | _ => false

def sizeD (P : Program) (t : TypeId) : Option Nat := (P.info? t).map (·.size)

def partsOf (P : Program) (fs : Array Field) : List (Nat × Operand) → Option (List (Nat × Nat × Src))
  | [] => some []
  | (i, x) :: r => do
    let f ← fs[i]?
    let n ← sizeD P f.type
    let s ← srcOf x
    let r ← partsOf P fs r
    some ((f.offset, n, s) :: r)

def srcs : List Operand → Option (List Src)
  | [] => some []
  | x :: r => do
    let s ← srcOf x
    let r ← srcs r
    some (s :: r)

def cpure (P : Program) (o : Op) : Option POp :=
  match o with
  | .move x | .assign x => (srcOf x).map .mv
  | .pick c a b => do some (.pick (← srcOf c) (← srcOf a) (← srcOf b))
  | .binOp op xt x y _ =>
    match op with
    | .eql | .neq =>
      match P.underlying xt with
      | some .bool => do some (.beq (op == .neq) (← srcOf x) (← srcOf y))
      | _ => do some (.bin op (← srcOf x) (← srcOf y))
    | _ => do some (.bin op (← srcOf x) (← srcOf y))
  | .unOp op _ x => do some (.un op (← srcOf x))
  | .convert src dst x =>
    match P.underlying src, P.underlying dst with
    | some _, some (.int k) => do some (.conv k (← srcOf x))
    | some (.slice e), some .string => match P.underlying e with
      | some (.int .u8) => do some (.b2s (← srcOf x))
      | _ => none
    | _, _ => none
  | .extract x i => do some (.ext (← srcOf x) i)
  | .fieldAddr s x f =>
    match P.underlying s with
    | some (.struct fs) =>
      match fs[f]? with
      | some fl => match sizeD P fl.type with
        | some (n + 1) => do some (.fldp (← srcOf x) fl.offset)
        | _ => none
      | none => none
    | _ => none
  | .indexAddr t x ix =>
    match P.underlying t with
    | some (.slice e) => do some (.idxp (← sizeD P e) (← srcOf x) (← srcOf ix))
    | _ => none
  | .index t x ix =>
    match P.underlying t with
    | some .string => do some (.idxs (← srcOf x) (← srcOf ix))
    | _ => none
  | .load t x =>
    match P.underlying t with
    | some d => if isAggD d then do some (.load (some (← sizeD P t)) (← srcOf x)) else do some (.load none (← srcOf x))
    | none => none
  | .slice t x lo hi mx =>
    match P.underlying t with
    | some (.slice e) => do some (.slc (← sizeD P e) (← srcOf x) (← srcOpt lo) (← srcOpt hi) (← srcOpt mx))
    | some .string => match mx with
      | none => do some (.slcs (← srcOf x) (← srcOpt lo) (← srcOpt hi))
      | some _ => none
    | _ => none
  | .build t parts =>
    match P.underlying t, (P.info? t).bind (·.zero) with
    | some (.struct fs), some (.agg zs) => if zs.all (·.oneCell') && fs.toList.all (fun f => (sizeD P f.type).isSome) then do some (.bld (zs.toList.map constAV) (← partsOf P fs parts.toList)) else none
    | _, _ => none
  | .makeFunc fn first caps =>
    match fn, first.toList, caps.toList with
    | .func f, [], _ => do some (.mkfn f (← srcs caps.toList))
    | .func f, _, [] => do some (.mkbf f (← srcs first.toList))
    | _, _, _ => none
  | .nilCheck x => do some (.fldp (← srcOf x) 0)
  | .call c =>
    match c.callee, c.args.toList, c.argTypes.toList with
    | .builtin .len, [x], t :: _ =>
      match P.underlying t with
      | some .string => do some (.lens (← srcOf x))
      | some (.slice _) => do some (.len (← srcOf x))
      | _ => none
    | .builtin .max, [x, y], _ => do some (.mnx true (← srcOf x) (← srcOf y))
    | .builtin .min, [x, y], _ => do some (.mnx false (← srcOf x) (← srcOf y))
    | _, _, _ => none
  | _ => none

def RepEnv (E : Emb) (env : Env) (tmps : Array Value) : Prop := ∀ t, Rep E (tmps.getD t undef) (look env t)

theorem rep_const (E : Emb) (v : Value) : Rep E v (constAV v) := by
  cases v with
  | int k n => exact .int k n
  | bool b => exact .bool b
  | string s => exact .str s
  | slice a l c =>
    unfold constAV
    split <;> first | (rename_i h; cases h) | skip
    · exact .nil
    · exact .lit _
  | _ => exact .lit _

theorem rep_src {E : Emb} {env : Env} {tmps : Array Value} (h : RepEnv E env tmps) {x : Operand} {s : Src} (hs : srcOf x = some s) : Rep E (Act.eval ⟨tmps, []⟩ x) (s.ev env) := by
  cases x <;> simp [srcOf] at hs <;> subst hs
  · exact h _
  · exact rep_const E _
  · exact .fn _ [] [] rfl (fun k v a hk => by simp at hk)

theorem rep_srcs {E : Emb} {env : Env} {tmps : Array Value} (h : RepEnv E env tmps) : ∀ {xs : List Operand} {ss : List Src}, srcs xs = some ss →
    ss.length = xs.length ∧ ∀ (k : Nat) v a, (xs.map (Act.eval ⟨tmps, []⟩))[k]? = some v → (ss.map (·.ev env))[k]? = some a → Rep E v a
  | [], ss, hs => by simp [srcs] at hs; subst hs; exact ⟨rfl, fun k v a hk => by simp at hk⟩
  | x :: xs, ss, hs => by
    simp only [srcs, Option.bind_eq_bind, Option.bind_eq_some_iff] at hs
    obtain ⟨s, h1, r, h2, h3⟩ := hs
    cases h3
    obtain ⟨hl, hr⟩ := rep_srcs h h2
    refine ⟨by simp [hl], fun k v a hk ha => ?_⟩
    cases k with
    | zero => simp at hk ha; subst hk; subst ha; exact rep_src h h1
    | succ k => exact hr k v a (by simpa using hk) (by simpa using ha)

/-! ### Rows, flat -/
theorem flat_len {xs : List AV} {wd : Nat} (h : ∀ x ∈ xs, x.cells.length = wd) : (xs.flatMap AV.cells).length = xs.length * wd := by
  induction xs with
  | nil => simp
  | cons x xs ih =>
    simp only [List.flatMap_cons, List.length_append, List.length_cons]
    rw [ih (fun y hy => h y (by simp [hy])), h x (by simp), Nat.add_mul]; omega

theorem flat_drop {xs : List AV} {wd : Nat} (h : ∀ x ∈ xs, x.cells.length = wd) (k : Nat) : (xs.drop k).flatMap AV.cells = (xs.flatMap AV.cells).drop (k * wd) := by
  induction xs generalizing k with
  | nil => simp
  | cons x xs ih =>
    cases k with
    | zero => simp
    | succ k =>
      simp only [List.drop_succ_cons, List.flatMap_cons]
      rw [ih (fun y hy => h y (by simp [hy]))]
      have : (k + 1) * wd = x.cells.length + k * wd := by rw [h x (by simp), Nat.add_mul]; omega
      have e1 : List.drop (x.cells.length + k * wd) x.cells = [] := List.drop_eq_nil_of_le (by omega)
      rw [this, List.drop_append, e1, List.nil_append]
      congr 1; omega

theorem flat_take {xs : List AV} {wd : Nat} (h : ∀ x ∈ xs, x.cells.length = wd) (k : Nat) : (xs.take k).flatMap AV.cells = (xs.flatMap AV.cells).take (k * wd) := by
  induction xs generalizing k with
  | nil => simp
  | cons x xs ih =>
    cases k with
    | zero => simp
    | succ k =>
      simp only [List.take_succ_cons, List.flatMap_cons]
      rw [ih (fun y hy => h y (by simp [hy]))]
      have : (k + 1) * wd = x.cells.length + k * wd := by rw [h x (by simp), Nat.add_mul]; omega
      have e1 : List.take (x.cells.length + k * wd) x.cells = x.cells := List.take_of_length_le (by omega)
      rw [this, List.take_append, e1]
      congr 2; omega

theorem flat_get {xs : List AV} {wd : Nat} (h : ∀ x ∈ xs, x.cells.length = wd) {i : Nat} (hi : i < xs.length) (j : Nat) (hj : j < wd) :
    (xs.flatMap AV.cells)[i * wd + j]? = (xs.getD i .top).cells[j]? := by
  induction xs generalizing i with
  | nil => simp at hi
  | cons x xs ih =>
    have hx := h x (by simp)
    cases i with
    | zero =>
      simp only [List.flatMap_cons, Nat.zero_mul, Nat.zero_add, List.getD_cons_zero]
      rw [List.getElem?_append_left (by omega)]
    | succ i =>
      simp only [List.flatMap_cons, List.getD_cons_succ]
      have : (i + 1) * wd + j = x.cells.length + (i * wd + j) := by rw [hx, Nat.add_mul]; omega
      rw [this, List.getElem?_append_right (by omega)]
      rw [show x.cells.length + (i * wd + j) - x.cells.length = i * wd + j by omega]
      exact ih (fun y hy => h y (by simp [hy])) (by simpa using hi)

theorem getD_mem {xs : List AV} {i : Nat} (hi : i < xs.length) : xs.getD i .top ∈ xs := by
  rw [List.getD_eq_getElem?_getD, List.getElem?_eq_getElem hi]; exact List.getElem_mem hi

theorem rep_cells {E : Emb} {v : Value} {a : AV} (h : Rep E v a) (hf : a.fit = true) :
    v.cells.toList.length = a.cells.length ∧ (∀ u ∈ v.cells.toList, u.oneCell' = true) ∧ ∀ (k : Nat) u b, v.cells.toList[k]? = some u → a.cells[k]? = some b → Rep E u b := by
  have one : ∀ {v : Value} {a : AV}, Rep E v a → v.oneCell' = true → a.cells = [a] → v.cells.toList.length = a.cells.length ∧ (∀ u ∈ v.cells.toList, u.oneCell' = true) ∧ ∀ (k : Nat) u b, v.cells.toList[k]? = some u → a.cells[k]? = some b → Rep E u b := by
    intro v a h h1 hc
    have hv : v.cells = #[v] := by cases v <;> first | rfl | simp [Value.oneCell'] at h1
    rw [hv, hc]
    refine ⟨rfl, by simpa using h1, fun k u b hk hb => ?_⟩
    cases k with
    | zero => simp at hk hb; subst hk; subst hb; exact h
    | succ k => simp at hk
  cases h with
  | agg vs cs hlen h1 hrep => exact ⟨by simp [Value.cells, AV.cells, hlen], by simpa [Value.cells] using h1, fun k u b hk hb => hrep k u b (by simpa [Value.cells] using hk) (by simpa [AV.cells] using hb)⟩
  | top v => simp [AV.fit, AV.solid] at hf
  | tup vs cs hlen hrep => simp [AV.fit, AV.solid] at hf
  | lit v => exact one (.lit v) (by simpa [AV.fit, AV.solid] using hf) rfl
  | int k n => exact one (.int k n) rfl rfl
  | bool b => exact one (.bool b) rfl rfl
  | str s => exact one (.str s) rfl rfl
  | nil => exact one .nil rfl rfl
  | sl base cap wd xs vs b o hcap hpos hw hcl hbase hlen hcell hrep => exact one (.sl base cap wd xs vs b o hcap hpos hw hcl hbase hlen hcell hrep) rfl rfl
  | mu blk id off len oc b q cap hlive hb hq hlen hsz hoc => exact one (.mu blk id off len oc b q cap hlive hb hq hlen hsz hoc) rfl rfl
  | mu0 blk id off oc hlive hb hoc => exact one (.mu0 blk id off oc hlive hb hoc) rfl rfl
  | loc blk id i off b hlive hb => exact one (.loc blk id i off b hlive hb) rfl rfl
  | dead v a id hr hd h1 => exact one (.dead _ _ id hr hd h1) h1 (by cases a <;> simp [AV.ref] at hr <;> rfl)
  | ro x off b o vs hb hpos hcl hlen hcell hrep => exact one (.ro x off b o vs hb hpos hcl hlen hcell hrep) rfl rfl
  | fn f vs cs hlen hrep => exact one (.fn f vs cs hlen hrep) rfl rfl
  | bfn f vs cs hlen hrep => exact one (.bfn f vs cs hlen hrep) rfl rfl

end Go.Abs

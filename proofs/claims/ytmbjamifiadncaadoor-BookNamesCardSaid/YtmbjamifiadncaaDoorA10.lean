/- The evaluator's rules, and steps that change what is known alone. -/
import Derived.Test.YtmbjamifiadncaaDoorA9
set_option linter.unusedVariables false
set_option linter.unusedSimpArgs false
namespace Go.Abs

/-! ### Rules -/
theorem aops_nil (P : Program) (n0 : Nat) (K : Env → Heap → Prop) (env : Env) (H : Heap) : aops P n0 [] K env H = K env H := rfl
theorem aops_none (P : Program) (n0 : Nat) (d : Option Nat) (o : AOp) (l : List AIns) (K : Env → Heap → Prop) (env : Env) (H : Heap) :
    aops P n0 (⟨d, none, o⟩ :: l) K env H = astep P n0 o d (aops P n0 l K) env H := rfl
theorem aops_some (P : Program) (n0 : Nat) (d : Option Nat) (t : Nat) (want : Bool) (o : AOp) (l : List AIns) (K : Env → Heap → Prop) (env : Env) (H : Heap) :
    aops P n0 (⟨d, some (t, want), o⟩ :: l) K env H = gguard want (look env t) fun c => if c = want then astep P n0 o d (aops P n0 l K) env H else aops P n0 l K (put d (.tup []) env) H := rfl
theorem astep_p (P : Program) (n0 : Nat) (o : POp) (d : Option Nat) (K : Env → Heap → Prop) (env : Env) (H : Heap) : astep P n0 (.p o) d K env H = obind (pv o env H) fun v => K (put d v env) H := rfl
theorem astep_e (P : Program) (n0 : Nat) (o : EOp) (d : Option Nat) (K : Env → Heap → Prop) (env : Env) (H : Heap) : astep P n0 (.e o) d K env H = ebind (ev n0 o env H) fun v env' H' => K (put d v env') H' := rfl
/-- What is to be shown of a call's answer. -/
def ares (K : Env → Heap → Prop) (d : Option Nat) (env : Env) : AV → Heap → Prop := fun r H' => K (put d r env) H'
theorem ares_eq (K : Env → Heap → Prop) (d : Option Nat) (env : Env) (r : AV) (H' : Heap) : ares K d env r H' = K (put d r env) H' := rfl
theorem astep_call (P : Program) (n0 : Nat) (f : FuncId) (args : List Src) (d : Option Nat) (K : Env → Heap → Prop) (env : Env) (H : Heap) :
    astep P n0 (.call f args) d K env H = ACalls P f (args.map (·.ev env)) H (ares K d env) := rfl
def callvK (P : Program) (g : AV) (args : List AV) (H : Heap) (R : AV → Heap → Prop) : Prop := match g with
  | .fn f caps => ACalls P f (args ++ caps) H R
  | .bfn f bs => ACalls P f (bs ++ args) H R
  | _ => False
theorem astep_callv (P : Program) (n0 : Nat) (g : Src) (args : List Src) (d : Option Nat) (K : Env → Heap → Prop) (env : Env) (H : Heap) :
    astep P n0 (.callv g args) d K env H = callvK P (g.ev env) (args.map (·.ev env)) H (ares K d env) := by
  simp only [astep, callvK, ares]; cases g.ev env <;> rfl
theorem callvK_fn (P : Program) (f : FuncId) (caps args : List AV) (H : Heap) (R : AV → Heap → Prop) : callvK P (.fn f caps) args H R = ACalls P f (args ++ caps) H R := rfl
theorem callvK_bfn (P : Program) (f : FuncId) (bs args : List AV) (H : Heap) (R : AV → Heap → Prop) : callvK P (.bfn f bs) args H R = ACalls P f (bs ++ args) H R := rfl
theorem obind_some (v : AV) (k : AV → Prop) : obind (some v) k = k v := rfl
theorem obind_none (k : AV → Prop) : obind none k = False := rfl
theorem ebind_some (v : AV) (e : Env) (h : Heap) (k : AV → Env → Heap → Prop) : ebind (some (v, e, h)) k = k v e h := rfl
theorem ebind_none (k : AV → Env → Heap → Prop) : ebind none k = False := rfl
theorem gguard_bool (want b : Bool) (k : Bool → Prop) : gguard want (.bool b) k = k b := rfl
theorem gguard_undef (want : Bool) (k : Bool → Prop) : gguard want (.tup []) k = k (!want) := rfl
theorem gcond_bool (b : Bool) (k : Bool → Prop) : gcond (.bool b) k = k b := rfl
theorem src_t (env : Env) (n : Nat) : (Src.t n).ev env = look env n := rfl
theorem src_c (env : Env) (a : AV) : (Src.c a).ev env = a := rfl
theorem look_cons (k : Nat) (v : AV) (r : Env) (t : Nat) : look ((k, v) :: r) t = if k = t then v else look r t := rfl
theorem look_nil (t : Nat) : look [] t = .top := rfl
theorem put_some (d : Nat) (v : AV) (env : Env) : put (some d) v env = (d, v) :: env := rfl
theorem put_none (v : AV) (env : Env) : put none v env = env := rfl
theorem envOf_nil (k : Nat) : envOf k [] = [] := rfl
theorem envOf_cons (k : Nat) (a : AV) (as : List AV) : envOf k (a :: as) = (k, a) :: envOf (k + 1) as := rfl

@[congr] theorem obind_congr {x y : Option AV} {k : AV → Prop} (h : x = y) : obind x k = obind y k := by rw [h]
@[congr] theorem ebind_congr {x y : Option (AV × Env × Heap)} {k : AV → Env → Heap → Prop} (h : x = y) : ebind x k = ebind y k := by rw [h]
@[congr] theorem gguard_congr {want : Bool} {x y : AV} {k : Bool → Prop} (h : x = y) : gguard want x k = gguard want y k := by rw [h]
@[congr] theorem gcond_congr {x y : AV} {k : Bool → Prop} (h : x = y) : gcond x k = gcond y k := by rw [h]
@[congr] theorem aops_congr {P : Program} {n0 : Nat} {l : List AIns} {K : Env → Heap → Prop} {env env' : Env} {H H' : Heap} (h : env = env') (h' : H = H') : aops P n0 l K env H = aops P n0 l K env' H' := by rw [h, h']
@[congr] theorem astep_congr {P : Program} {n0 : Nat} {o : AOp} {d : Option Nat} {K : Env → Heap → Prop} {env env' : Env} {H H' : Heap} (h : env = env') (h' : H = H') : astep P n0 o d K env H = astep P n0 o d K env' H' := by rw [h, h']
@[congr] theorem safe_congr {x : Cx} {todo : List AItem} {env env' : Env} {H H' : Heap} {R : AV → Heap → Prop} (h : env = env') (h' : H = H') : Safe x todo env H R = Safe x todo env' H' R := by rw [h, h']
@[congr] theorem acalls_congr {P : Program} {f : FuncId} {as as' : List AV} {H H' : Heap} {R : AV → Heap → Prop} (h : as = as') (h' : H = H') : ACalls P f as H R = ACalls P f as' H' R := by rw [h, h']
@[congr] theorem callvK_congr {P : Program} {g g' : AV} {as as' : List AV} {H H' : Heap} {R : AV → Heap → Prop} (h : g = g') (h2 : as = as') (h' : H = H') : callvK P g as H R = callvK P g' as' H' R := by rw [h, h2, h']

/-! pure operations -/
section
variable (env : Env) (H : Heap)
theorem pv_mv (a : Src) : pv (.mv a) env H = some (a.ev env) := rfl
def pickV (c a b : AV) : Option AV := match c with
  | .bool c => if c then some a else some b
  | _ => none
theorem pv_pick (c a b : Src) : pv (.pick c a b) env H = pickV (c.ev env) (a.ev env) (b.ev env) := by simp only [pv, pickV]; split <;> simp_all
theorem pickV_bool (c : Bool) (a b : AV) : pickV (.bool c) a b = if c then some a else some b := rfl
theorem pickV_and (c d : Bool) : pickV (.bool c) (.bool d) (.bool false) = some (.bool (c && d)) := by cases c <;> rfl
theorem pickV_or (c d : Bool) : pickV (.bool c) (.bool true) (.bool d) = some (.bool (c || d)) := by cases c <;> rfl
theorem pv_len (a : Src) : pv (.len a) env H = lenV H (a.ev env) := rfl
def lenS : AV → Option AV
  | .str s => some (.int .i64 s.size)
  | _ => none
theorem pv_lens (a : Src) : pv (.lens a) env H = lenS (a.ev env) := by simp only [pv, lenS]; split <;> simp_all
theorem lenS_str (s : ByteArray) : lenS (.str s) = some (.int .i64 s.size) := rfl
theorem pv_bin (op : BinOp) (a b : Src) : pv (.bin op a b) env H = binV op (a.ev env) (b.ev env) := rfl
def beqV (neg : Bool) (a b : AV) : Option AV := match a, b with
  | .bool x, .bool y => some (.bool (if neg then !(x == y) else (x == y)))
  | _, _ => none
theorem pv_beq (neg : Bool) (a b : Src) : pv (.beq neg a b) env H = beqV neg (a.ev env) (b.ev env) := by simp only [pv, beqV]; split <;> simp_all
theorem beqV_f (x y : Bool) : beqV false (.bool x) (.bool y) = some (.bool (x == y)) := rfl
theorem beqV_t (x y : Bool) : beqV true (.bool x) (.bool y) = some (.bool !(x == y)) := rfl
def unV (op : UnOp) (a : AV) : Option AV := match op, a with
  | .neg, .int k n => some (.int k (k.wrap (0 - n)))
  | .not, .bool b => some (.bool !b)
  | _, _ => none
theorem pv_un (op : UnOp) (a : Src) : pv (.un op a) env H = unV op (a.ev env) := by simp only [pv, unV]; cases op <;> cases a.ev env <;> rfl
theorem unV_neg (k : IntKind) (n : Int) : unV .neg (.int k n) = some (.int k (k.wrap (0 - n))) := rfl
theorem unV_not (b : Bool) : unV .not (.bool b) = some (.bool !b) := rfl
def convV (k : IntKind) (a : AV) : Option AV := match a with
  | .int _ n => some (.int k (k.wrap n))
  | _ => none
theorem pv_conv (k : IntKind) (a : Src) : pv (.conv k a) env H = convV k (a.ev env) := by simp only [pv, convV]; split <;> simp_all
theorem convV_int (k k' : IntKind) (n : Int) : convV k (.int k' n) = some (.int k (k.wrap n)) := rfl
def extV (a : AV) (i : Nat) : Option AV := match a with
  | .tup vs => vs[i]?
  | _ => none
theorem pv_ext (a : Src) (i : Nat) : pv (.ext a i) env H = extV (a.ev env) i := by simp only [pv, extV]; split <;> simp_all
theorem extV_tup (vs : List AV) (i : Nat) : extV (.tup vs) i = vs[i]? := rfl
def fldV (a : AV) (off : Nat) : Option AV := match a with
  | .ro x o => some (.ro x (o + off))
  | .loc id i o => if (hrow H id).isSome then some (.loc id i (o + off)) else none
  | _ => none
theorem pv_fldp (a : Src) (off : Nat) : pv (.fldp a off) env H = fldV H (a.ev env) off := by simp only [pv, fldV]; split <;> simp_all
theorem fldV_ro (x : AV) (o off : Nat) : fldV H (.ro x o) off = some (.ro x (o + off)) := rfl
theorem fldV_loc (id i o off : Nat) : fldV H (.loc id i o) off = if (hrow H id).isSome then some (.loc id i (o + off)) else none := rfl
theorem pv_idxp (wd : Nat) (a i : Src) : pv (.idxp wd a i) env H = idxV H wd (a.ev env) (i.ev env) := rfl
def idxS (a i : AV) : Option AV := match a, i with
  | .str s, .int _ i => if 0 ≤ i ∧ i < s.size then some (.int .u8 (s.data.toList.getD i.toNat 0).toNat) else none
  | _, _ => none
theorem pv_idxs (a i : Src) : pv (.idxs a i) env H = idxS (a.ev env) (i.ev env) := by simp only [pv, idxS]; split <;> simp_all
theorem idxS_str (s : ByteArray) (k : IntKind) (i : Int) : idxS (.str s) (.int k i) = if 0 ≤ i ∧ i < s.size then some (.int .u8 (s.data.toList.getD i.toNat 0).toNat) else none := rfl
theorem pv_load (n : Option Nat) (a : Src) : pv (.load n a) env H = loadV H n (a.ev env) := rfl
theorem pv_slc (wd : Nat) (x : Src) (lo hi mx : Option Src) : pv (.slc wd x lo hi mx) env H = slcV H wd (x.ev env) (lo.map (·.ev env)) (hi.map (·.ev env)) (mx.map (·.ev env)) := rfl
theorem pv_slcs (x : Src) (lo hi : Option Src) : pv (.slcs x lo hi) env H = slcS (x.ev env) (lo.map (·.ev env)) (hi.map (·.ev env)) := rfl
theorem pv_bld (z : List AV) (ps : List (Nat × Nat × Src)) : pv (.bld z ps) env H = (bldV env z ps).map .agg := rfl
theorem pv_mkbf (f : FuncId) (bs : List Src) : pv (.mkbf f bs) env H = some (.bfn f (bs.map (·.ev env))) := rfl
theorem pv_mkfn (f : FuncId) (caps : List Src) : pv (.mkfn f caps) env H = some (.fn f (caps.map (·.ev env))) := rfl

theorem pv_mnx (mx : Bool) (a b : Src) : pv (.mnx mx a b) env H = mnxV mx (a.ev env) (b.ev env) := rfl
theorem mnxV_int (mx : Bool) (k k' : IntKind) (x y : Int) : mnxV mx (.int k x) (.int k' y) = some (.int k (if mx then (if y > x then y else x) else (if y < x then y else x))) := rfl
theorem pv_b2s (a : Src) : pv (.b2s a) env H = b2sV H (a.ev env) := rfl
theorem b2sV_sl1 (xs : List AV) : b2sV H (.sl 1 xs) = strB xs := rfl
theorem b2sV_mu (id off len : Nat) (oc : Option Nat) : b2sV H (.mu id off len oc) = (hrow H id).bind fun b => if b.wd = 1 ∧ off + len ≤ b.xs.length then strB ((b.xs.drop off).take len) else none := rfl

theorem lenV_sl (wd : Nat) (xs : List AV) : lenV H (.sl wd xs) = some (.int .i64 xs.length) := rfl
theorem lenV_nil : lenV H .nil = some (.int .i64 0) := rfl
theorem lenV_mu (id off len : Nat) (oc : Option Nat) : lenV H (.mu id off len oc) = if (hrow H id).isSome then some (.int .i64 len) else none := rfl

theorem binV_shl (k k' : IntKind) (x y : Int) : binV .shl (.int k x) (.int k' y) = shBin .shl k x y := rfl
theorem binV_shr (k k' : IntKind) (x y : Int) : binV .shr (.int k x) (.int k' y) = shBin .shr k x y := rfl
theorem binV_add (k : IntKind) (x y : Int) : binV .add (.int k x) (.int k y) = some (.int k (k.wrap (x + y))) := by simp [binV, intBin]
theorem binV_sub (k : IntKind) (x y : Int) : binV .sub (.int k x) (.int k y) = some (.int k (k.wrap (x - y))) := by simp [binV, intBin]
theorem binV_mul (k : IntKind) (x y : Int) : binV .mul (.int k x) (.int k y) = some (.int k (k.wrap (x * y))) := by simp [binV, intBin]
theorem binV_quo (k : IntKind) (x y : Int) (h : y ≠ 0) : binV .quo (.int k x) (.int k y) = some (.int k (k.wrap (x.tdiv y))) := by simp [binV, intBin, h]
theorem binV_rem (k : IntKind) (x y : Int) (h : y ≠ 0) : binV .rem (.int k x) (.int k y) = some (.int k (x.tmod y)) := by simp [binV, intBin, h]
theorem binV_or (k : IntKind) (x y : Int) : binV .or (.int k x) (.int k y) = some (.int k (k.wrap (BitVec.ofInt k.bits x ||| BitVec.ofInt k.bits y).toNat)) := by simp [binV, intBin]
theorem binV_and (k : IntKind) (x y : Int) : binV .and (.int k x) (.int k y) = some (.int k (k.wrap (BitVec.ofInt k.bits x &&& BitVec.ofInt k.bits y).toNat)) := by simp [binV, intBin]
theorem binV_xor (k : IntKind) (x y : Int) : binV .xor (.int k x) (.int k y) = some (.int k (k.wrap (BitVec.ofInt k.bits x ^^^ BitVec.ofInt k.bits y).toNat)) := by simp [binV, intBin]
theorem binV_eql (k : IntKind) (x y : Int) : binV .eql (.int k x) (.int k y) = some (.bool (decide (x = y))) := by simp [binV, intBin]; rfl
theorem binV_neq (k : IntKind) (x y : Int) : binV .neq (.int k x) (.int k y) = some (.bool (decide (x ≠ y))) := by
  simp only [binV, intBin, if_true]; congr 2; by_cases h : x = y <;> simp [h]
theorem binV_lss (k : IntKind) (x y : Int) : binV .lss (.int k x) (.int k y) = some (.bool (decide (x < y))) := by simp [binV, intBin]
theorem binV_leq (k : IntKind) (x y : Int) : binV .leq (.int k x) (.int k y) = some (.bool (decide (x ≤ y))) := by simp [binV, intBin]
theorem binV_gtr (k : IntKind) (x y : Int) : binV .gtr (.int k x) (.int k y) = some (.bool (decide (y < x))) := by simp [binV, intBin]
theorem binV_geq (k : IntKind) (x y : Int) : binV .geq (.int k x) (.int k y) = some (.bool (decide (y ≤ x))) := by simp [binV, intBin]
theorem binV_sadd (x y : ByteArray) (h : x.size + y.size ≤ 9223372036854775807) : binV .add (.str x) (.str y) = some (.str (x ++ y)) := by
  simp only [binV]; rw [if_neg]; have : IntKind.i64.max = 9223372036854775807 := rfl; rw [this]; omega
theorem binV_seql (x y : ByteArray) : binV .eql (.str x) (.str y) = some (.bool (x.toList == y.toList)) := rfl
theorem binV_sneq (x y : ByteArray) : binV .neq (.str x) (.str y) = some (.bool !(x.toList == y.toList)) := rfl
theorem shBin_shl (k : IntKind) (x y : Int) (h : 0 ≤ y) : shBin .shl k x y = some (.int k (k.wrap (x * 2 ^ (min y.toNat k.bits)))) := by simp [shBin, show ¬ y < 0 by omega]
theorem shBin_shr (k : IntKind) (x y : Int) (h : 0 ≤ y) : shBin .shr k x y = some (.int k (x.fdiv (2 ^ (min y.toNat k.bits)))) := by simp [shBin, show ¬ y < 0 by omega]

theorem idxV_sl (wd : Nat) (xs : List AV) (k : IntKind) (i : Int) (h0 : 0 ≤ i) (h1 : i < xs.length) : idxV H wd (.sl wd xs) (.int k i) = some (.ro (xs.getD i.toNat .top) 0) := by simp [idxV, h0, h1]
theorem idxV_mu (wd id off len : Nat) (oc : Option Nat) (k : IntKind) (i : Int) (h0 : 0 ≤ i) (h1 : i < len) :
    idxV H wd (.mu id off len oc) (.int k i) = (hrow H id).bind fun b => if b.wd = wd then some (.loc id (off + i.toNat) 0) else none := by simp [idxV, h0, h1]

theorem loadV_ro0 (x : AV) (h : x.cells = [x]) : loadV H none (.ro x 0) = some x := by simp [loadV, atV, h]
theorem loadV_def (n : Option Nat) (p : AV) : loadV H n p = (atV H p).bind fun cs => match n with
    | none => cs[0]?
    | some n => if n ≤ cs.length then some (.agg (cs.take n)) else none := rfl
theorem atV_ro (x : AV) (off : Nat) : atV H (.ro x off) = some (x.cells.drop off) := rfl
theorem atV_loc (id i off : Nat) : atV H (.loc id i off) = (hrow H id).bind fun b => if i < b.xs.length then some ((b.xs.getD i .top).cells.drop off) else none := rfl
end
theorem cells_agg (cs : List AV) : (AV.agg cs).cells = cs := rfl
theorem cells_int (k : IntKind) (n : Int) : (AV.int k n).cells = [.int k n] := rfl
theorem cells_bool (b : Bool) : (AV.bool b).cells = [.bool b] := rfl
theorem cells_str (s : ByteArray) : (AV.str s).cells = [.str s] := rfl
theorem cells_nil : AV.nil.cells = [.nil] := rfl
theorem cells_lit (v : Value) : (AV.lit v).cells = [.lit v] := rfl
theorem cells_sl (wd : Nat) (xs : List AV) : (AV.sl wd xs).cells = [.sl wd xs] := rfl
theorem cells_mu (id off len : Nat) (oc : Option Nat) : (AV.mu id off len oc).cells = [.mu id off len oc] := rfl
theorem cells_loc (id i off : Nat) : (AV.loc id i off).cells = [.loc id i off] := rfl
theorem cells_fn (f : FuncId) (cs : List AV) : (AV.fn f cs).cells = [.fn f cs] := rfl

/-! ### The call's own rows: behind H stand the rows L -/
def hap (H L : Heap) : Heap := H ++ L
def lid (H : Heap) (i : Nat) : Nat := H.length + i
theorem hap_nil (H : Heap) : hap H [] = H := List.append_nil H
theorem hrow_hap (H L : Heap) (i : Nat) : hrow (hap H L) (lid H i) = (L[i]?).join := by unfold hrow hap lid; rw [List.getElem?_append_right (by omega), Nat.add_sub_cancel_left]
theorem hrow_old (H L : Heap) (id : Nat) (h : id < H.length) : hrow (hap H L) id = hrow H id := by simp [hrow, hap, List.getElem?_append_left h]
theorem len_hap (H L : Heap) : (hap H L).length = lid H L.length := by simp [hap, lid]
theorem set_hap (H L : Heap) (i : Nat) (x : Option Blk) : (hap H L).set (lid H i) x = hap H (L.set i x) := by simp [hap, lid]
theorem app_hap (H L M : Heap) : hap H L ++ M = hap H (L ++ M) := by simp [hap]
theorem lid_ge (H : Heap) (i : Nat) : H.length ≤ lid H i := by simp [lid]
theorem lid_eq (H : Heap) (i j : Nat) : (lid H i = lid H j) = (i = j) := by simp [lid]

theorem bind_some' {α β : Type} (a : α) (f : α → Option β) : (some a).bind f = f a := rfl
theorem join_some {α : Type} (a : Option α) : (some a).join = a := rfl

/-! ### What is known may be forgotten -/
theorem Safe.weaken {x : Cx} {todo : List AItem} {env env' : Env} {H : Heap} {R : AV → Heap → Prop} (he : ∀ t, look env' t = look env t ∨ look env' t = .top) (h : Safe x todo env' H R) : Safe x todo env H R := by
  intro φ w tmps b k cs hg hn hb hk ht hsz hok hr
  refine h φ w tmps b k cs hg hn hb hk ht hsz hok (fun t => ?_)
  rcases he t with e | e
  · rw [e]; exact hr t
  · rw [e]; exact .top _

def keep (env : Env) (ts : List Nat) : Env := ts.map fun t => (t, look env t)
theorem look_keep (env : Env) (ts : List Nat) (t : Nat) : look (keep env ts) t = look env t ∨ look (keep env ts) t = .top := by
  induction ts with
  | nil => exact .inr rfl
  | cons a ts ih =>
    simp only [keep, List.map_cons, look]
    split
    · rename_i h; subst h; exact .inl rfl
    · exact ih
theorem Safe.keep (ts : List Nat) {x : Cx} {todo : List AItem} {env : Env} {H : Heap} {R : AV → Heap → Prop} (h : Safe x todo (keep env ts) H R) : Safe x todo env H R := Safe.weaken (look_keep env ts) h
theorem keep_nil (env : Env) : keep env [] = [] := rfl
theorem keep_cons (env : Env) (t : Nat) (ts : List Nat) : keep env (t :: ts) = (t, look env t) :: keep env ts := rfl

theorem Safe.mono {x : Cx} {todo : List AItem} {env : Env} {H : Heap} {R R' : AV → Heap → Prop} (h : Safe x todo env H R) (hr : ∀ r H', R r H' → R' r H') : Safe x todo env H R' := by
  intro φ w tmps b k cs hg hn hb hk ht hsz hok he
  obtain ⟨v, w', fr, r, φ', H', q1, q⟩ := h φ w tmps b k cs hg hn hb hk ht hsz hok he
  exact ⟨v, w', fr, r, φ', H', hr _ _ q1, q⟩

end Go.Abs

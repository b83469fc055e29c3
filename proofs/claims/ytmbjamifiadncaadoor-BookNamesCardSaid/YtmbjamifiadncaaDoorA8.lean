/- Effects, all; regions; a function's body. -/
import Derived.Test.YtmbjamifiadncaaDoorA7
set_option linter.unusedVariables false
set_option linter.unusedSimpArgs false
namespace Go.Abs

section
variable {P : Program} {E : Emb} {env : Env} {tmps : Array Value}

theorem ev_sound {n0 : Nat} (hn : n0 ≤ E.H.length) {mutable : Bool} {o : Oper} {eo : EOp} (hc : ceff P mutable o.op = some eo) (hok : HOk E) (he : RepEnv E env tmps) {a : AV} {env' : Env} {H' : Heap}
    (hp : ev n0 eo env E.H = some (a, env', H')) : Left P n0 E tmps (execOp (Act.eval ⟨tmps, []⟩) o) a env' H' := by
  obtain ⟨dst, op, type, pos, after, guard⟩ := o
  simp only at hc
  cases op with
  | store t p v =>
    simp only [ceff, Option.bind_eq_bind, Option.bind_eq_some_iff] at hc
    obtain ⟨n, h0, sa, h1, sv, h2, h3⟩ := hc
    cases h3
    simp only [ev] at hp
    split at hp
    · rename_i id i off e
      simp only [Option.bind_eq_some_iff] at hp
      obtain ⟨b, hb, hp⟩ := hp
      split at hp
      · rename_i hcond
        cases hp
        obtain ⟨c1, c2, c3, c4⟩ := hcond
        have r1 := rep_src he h1
        rw [e] at r1
        exact store_left hn hok he r1 (rep_src he h2) h0 hb c1 c2 c3 c4
      · simp at hp
    · simp at hp
  | box t v =>
    simp only [ceff, Option.bind_eq_bind, Option.bind_eq_some_iff] at hc
    obtain ⟨n, h0, sv, h2, h3⟩ := hc
    cases h3
    simp only [ev] at hp
    split at hp
    · rename_i hcond
      cases hp
      exact box_left hn hok he t (rep_src he h2) hcond.1 hcond.2.1 hcond.2.2
    · simp at hp
  | alloc t =>
    simp only [ceff, Option.bind_eq_bind, Option.bind_eq_some_iff] at hc
    obtain ⟨i, hi, z, hz, hc⟩ := hc
    split at hc
    · rename_i hzo
      rw [Bool.and_eq_true, decide_eq_true_eq] at hzo
      cases hc
      simp only [ev] at hp
      by_cases hcond : ((Src.c (zeroAV z)).ev env).fit = true ∧ ((Src.c (zeroAV z)).ev env).cells.length = i.size ∧ 0 < i.size
      · rw [if_pos hcond] at hp
        cases hp
        have := box_left (P := P) hn hok he t (zero_rep E hzo.1).1 hcond.1 hcond.2.1 hcond.2.2
        have heq : execOp (Act.eval ⟨tmps, []⟩) ⟨dst, .alloc t, type, pos, after, guard⟩ = (do let z ← zeroValue t; pure (Next.value (← Instr.box t z))) := by
          simp [execOp, Instr.alloc, Instr.box]
        obtain ⟨φ', w', nx, v, h1, h2⟩ := this
        refine ⟨φ', w', nx, v, ?_, h2⟩
        rw [heq]
        have hzr : (zeroValue t).run P E.w = .ok z E.w := by simp [zeroValue, typeInfo, hi, hz]
        simp only [Sem.run_bind, hzr, Result.andThen_ok] at h1 ⊢
        exact h1
      · rw [if_neg hcond] at hp; simp at hp
    · simp at hc
  | buildSlice t len parts =>
    simp only [ceff] at hc
    split at hc
    · rename_i e ht
      simp only [Option.bind_eq_bind, Option.bind_eq_some_iff] at hc
      obtain ⟨i, hi, z, hz, ps, hps, hc⟩ := hc
      split at hc
      · rename_i hcond
        obtain ⟨c1, c2, rfl, c4⟩ := hcond
        cases hc
        have bl := fun hpos hfit => bsl_left (P := P) hn hok he ht hi hz c1 hps c4 hpos hfit
        cases mutable
        · simp only [Bool.false_eq_true, if_false, ev] at hp
          split at hp
          · rename_i hcond
            cases hp
            obtain ⟨hpos, hall⟩ := hcond
            rw [List.all_eq_true] at hall
            have hall' : ∀ s ∈ ps, ((s.ev env).fit = true ∧ (s.ev env).cells.length = i.size) ∧ ∀ c ∈ (s.ev env).cells, Cl c := by
              intro s hs
              have := hall s hs
              simp only [Bool.and_eq_true, decide_eq_true_eq, List.all_eq_true] at this
              exact ⟨⟨this.1.1, this.1.2⟩, fun c hc => clb_iff.1 (this.2 c hc)⟩
            exact (bl hpos (fun s hs => (hall' s hs).1)).2 (fun s hs => (hall' s hs).2)
          · simp at hp
        · simp only [if_true, ev] at hp
          split at hp
          · rename_i hcond
            cases hp
            obtain ⟨hpos, hall⟩ := hcond
            rw [List.all_eq_true] at hall
            exact (bl hpos (fun s hs => by simpa using hall s hs)).1
          · simp at hp
      · simp at hc
    · simp at hc
  | makeSlice t l c =>
    simp only [ceff] at hc
    split at hc
    · rename_i e ht
      simp only [Option.bind_eq_bind, Option.bind_eq_some_iff] at hc
      obtain ⟨i, hi, z, hz, hc⟩ := hc
      split at hc
      · rename_i hcond
        simp only [Option.bind_eq_bind, Option.bind_eq_some_iff] at hc
        obtain ⟨sl, h1, sc, h2, h3⟩ := hc
        cases h3
        simp only [ev] at hp
        split at hp
        · rename_i kl l' kc c' e1 e2
          split at hp
          · rename_i hc'
            cases hp
            obtain ⟨g1, g2, g3, g4, g5⟩ := hc'
            have r1 := rep_src he h1
            have r2 := rep_src he h2
            rw [e1] at r1
            rw [e2] at r2
            have v1 := rep_int_inv r1
            have v2 := rep_int_inv r2
            have := mksl_left (P := P) hn hok he ht hi hz hcond.1 hcond.2 g1 (kl := kl) (kc := kc) g2 g3 g4 g5
            rw [← v1, ← v2] at this
            exact this
          · simp at hp
        · simp at hp
      · simp at hc
    · simp at hc
  | call c =>
    obtain ⟨callee, args, argTypes⟩ := c
    simp only [ceff] at hc
    split at hc
    · rename_i x y t u hargs htys
      have ha : args = #[x, y] := by rw [← Array.toArray_toList (xs := args), hargs]
      have ht : argTypes = #[t, u] := by rw [← Array.toArray_toList (xs := argTypes), htys]
      subst ha ht
      split at hc
      · rename_i e hu
        simp only [Option.bind_eq_bind, Option.bind_eq_some_iff] at hc
        obtain ⟨i, hi, z, hz, hc⟩ := hc
        split at hc
        · rename_i hzs
          have main : ∀ (str : Bool) (sx sy : Src), srcOf x = some sx → srcOf y = some sy → ((str = false ∧ ∃ e', P.underlying u = some (.slice e')) ∨ (str = true ∧ P.underlying u = some .string ∧ i.size = 1)) →
              ev n0 (.app i.size i.bytes str sx sy) env E.H = some (a, env', H') →
              Left P n0 E tmps (execOp (Act.eval ⟨tmps, []⟩) ⟨dst, .call ⟨.builtin .append, #[x, y], #[t, u]⟩, type, pos, after, guard⟩) a env' H' := by
            intro str sx sy h1 h2 hk hp
            simp only [ev, Option.bind_eq_some_iff] at hp
            obtain ⟨ys, hys, hp⟩ := hp
            obtain ⟨news, n1, n2, n3, n4⟩ := src_sound (tx := u) hok hk (rep_src he h2) hys
            rw [exec_append]
            have r1 := rep_src he h1
            split at hp
            · rename_i e1
              rw [e1] at r1
              split at hp
              · rename_i hcond
                cases hp
                have hv : Act.eval ⟨tmps, []⟩ x = .slice none 0 0 := by
                  generalize Act.eval ⟨tmps, []⟩ x = xv at r1
                  cases r1 with
                  | nil => rfl
                  | dead v a id hr hd h1 => simp [AV.ref] at hr
                rw [hv]
                exact app_nil_left hn hok he hu hi hz hzs hcond.1 n1 n2 n3 n4 hcond.2.1 hcond.2.2
              · simp at hp
            · rename_i id off len oc e1
              rw [e1] at r1
              simp only [Option.bind_eq_some_iff] at hp
              obtain ⟨r, hr, hp⟩ := hp
              split at hp
              · rename_i hcond
                cases hp
                obtain ⟨c1, rfl, c3, c4, c5, c6⟩ := hcond
                exact app_room_left hok he hu hi n1 n2 n3 n4 r1 (hrow_some hr) c1 c3 c4 c5 c6
              split at hp
              · rename_i hcond
                cases hp
                obtain ⟨c1, rfl, c3, c4, c5, c6, c7, c8, c9⟩ := hcond
                rw [List.all_eq_true] at c6 c7
                exact app_mu_left hok he hu hi hz hzs n1 n2 n3 n4 r1 (hrow_some hr) c1 c3 c4 (free_iff.1 c5) (fun a ha => nref_iff.1 (c6 a ha)) (fun a ha => nref_iff.1 (c7 a ha)) c8 c9
              split at hp
              · rename_i hcond
                cases hp
                obtain ⟨c1, c2, c3, c4, c5, c6⟩ := hcond
                obtain ⟨d, rfl, hd⟩ : ∃ d, oc = some d ∧ d < len + ys.length := by
                  cases oc with
                  | none => simp at c4
                  | some d => exact ⟨d, rfl, by simpa using c4⟩
                exact app_full_left hn hok he hu hi hz hzs n1 n2 n3 n4 r1 (hrow_some hr) c1 c2 c3 hd c5 c6
              · simp at hp
            · simp at hp
          split at hc
          · rename_i e' hk
            simp only [Option.bind_eq_bind, Option.bind_eq_some_iff] at hc
            obtain ⟨sx, h1, sy, h2, h3⟩ := hc
            cases h3
            exact main false sx sy h1 h2 (.inl ⟨rfl, e', hk⟩) hp
          · rename_i hk
            split at hc
            · rename_i h1s
              simp only [Option.bind_eq_bind, Option.bind_eq_some_iff] at hc
              obtain ⟨sx, h1, sy, h2, h3⟩ := hc
              cases h3
              exact main true sx sy h1 h2 (.inr ⟨rfl, hk, h1s⟩) hp
            · first | (simp at hc; done) | cases hc
          · first | (simp at hc; done) | cases hc
        · first | (simp at hc; done) | cases hc
      · first | (simp at hc; done) | cases hc
    · rename_i x y t u hargs htys
      have ha : args = #[x, y] := by rw [← Array.toArray_toList (xs := args), hargs]
      have ht : argTypes = #[t, u] := by rw [← Array.toArray_toList (xs := argTypes), htys]
      subst ha ht
      split at hc
      · rename_i e hu
        simp only [Option.bind_eq_bind, Option.bind_eq_some_iff] at hc
        obtain ⟨n, hsz, sx, h1, sy, h2, h3⟩ := hc
        cases h3
        unfold sizeD at hsz
        simp only [Option.map_eq_some_iff] at hsz
        obtain ⟨i, hi, rfl⟩ := hsz
        simp only [ev, Option.bind_eq_some_iff] at hp
        obtain ⟨ys, hys, hp⟩ := hp
        rw [exec_copy]
        have r1 := rep_src he h1
        split at hp
        · rename_i id off len oc e1
          rw [e1] at r1
          simp only [Option.bind_eq_some_iff] at hp
          obtain ⟨r, hr, hp⟩ := hp
          split at hp
          · rename_i hcond
            cases hp
            exact cpy_left hn hok he hu hi (rep_src he h2) hys r1 (hrow_some hr) hcond.1 hcond.2
          · simp at hp
        · simp at hp
      · first | (simp at hc; done) | cases hc
    · first | (simp at hc; done) | cases hc
  | _ => simp [ceff] at hc

end

/-! ### Regions -/
inductive AOp where
  | p (o : POp)
  | e (o : EOp)
  | call (f : FuncId) (args : List Src)
  | callv (g : Src) (args : List Src)

structure AIns where
  dst : Option Nat
  guard : Option (Nat × Bool)
  op : AOp

inductive ACode where
  | skip
  | region (l : List AIns) (draw : Bool)
  | seq (a b : ACode)
  | cond (c : Src) (a b : ACode)
  | block (id : Nat) (c : ACode)
  | loop (c : ACode)
  | exit (id : Nat)
  | ret
  | scope (c : ACode)
  | regionX (p s1 s2 : List AIns) (sd : List (Nat × Nat))
  | label (l : Nat)
  | goto (l : Nat)
  | bad

def Callable (P : Program) (f : FuncId) : Prop := ∃ fn, P.funcs[f]? = some fn ∧ (fn.name == "runtime.NumGoroutine") = false ∧ fn.body.isSome = true

/-- A function, called with such arguments over such rows, returns: R. -/
def ACalls (P : Program) (f : FuncId) (args : List AV) (H : Heap) (R : AV → Heap → Prop) : Prop :=
  Callable P f ∧ ∀ (φ : Nat → Option Nat) (w : World) (vs : List Value), HOk ⟨φ, H, w⟩ → vs.length = args.length → (∀ (k : Nat) v a, vs[k]? = some v → args[k]? = some a → Rep ⟨φ, H, w⟩ v a) →
    Calls P f vs.toArray w fun e w' => ∃ v r φ' H', e = .returned v ∧ R r H' ∧ HOk ⟨φ', H', w'⟩ ∧ Rep ⟨φ', H', w'⟩ v r ∧ H.length ≤ H'.length ∧ Ext (· < H.length) ⟨φ, H, w⟩ ⟨φ', H', w'⟩

theorem ACalls.mono {P : Program} {f : FuncId} {args : List AV} {H : Heap} {R R' : AV → Heap → Prop} (h : ACalls P f args H R) (hr : ∀ r H', R r H' → R' r H') : ACalls P f args H R' :=
  ⟨h.1, fun φ w vs h1 h2 h3 => (h.2 φ w vs h1 h2 h3).mono fun e w' ⟨v, r, φ', H', a, b, c⟩ => ⟨v, r, φ', H', a, hr _ _ b, c⟩⟩

def obind (x : Option AV) (k : AV → Prop) : Prop := match x with
  | some v => k v
  | none => False
def ebind (x : Option (AV × Env × Heap)) (k : AV → Env → Heap → Prop) : Prop := match x with
  | some (v, env, H) => k v env H
  | none => False
def gcond (x : AV) (k : Bool → Prop) : Prop := match x with
  | .bool b => k b
  | _ => False

/-- An operation's guard; what was passed over is no bool. -/
def gguard (want : Bool) (x : AV) (k : Bool → Prop) : Prop := match x with
  | .bool b => k b
  | .tup [] => k (!want)
  | _ => False
/-- The guard is not met. -/
def NotW (x : AV) (want : Bool) : Prop := (∃ c, x = .bool c ∧ c ≠ want) ∨ x = .tup []

def put (d : Option Nat) (v : AV) (env : Env) : Env := match d with
  | some d => (d, v) :: env
  | none => env

def astep (P : Program) (n0 : Nat) (o : AOp) (d : Option Nat) (K : Env → Heap → Prop) (env : Env) (H : Heap) : Prop :=
  match o with
  | .p o => obind (pv o env H) fun v => K (put d v env) H
  | .e o => ebind (ev n0 o env H) fun v env' H' => K (put d v env') H'
  | .call f args => ACalls P f (args.map (·.ev env)) H fun r H' => K (put d r env) H'
  | .callv g args => match g.ev env with
    | .fn f caps => ACalls P f (args.map (·.ev env) ++ caps) H fun r H' => K (put d r env) H'
    | .bfn f bs => ACalls P f (bs ++ args.map (·.ev env)) H fun r H' => K (put d r env) H'
    | _ => False

def aops (P : Program) (n0 : Nat) : List AIns → (Env → Heap → Prop) → Env → Heap → Prop
  | [], K, env, H => K env H
  | i :: l, K, env, H =>
    match i.guard with
    | none => astep P n0 i.op i.dst (aops P n0 l K) env H
    | some (t, want) => gguard want (look env t) fun c => if c = want then astep P n0 i.op i.dst (aops P n0 l K) env H else aops P n0 l K (put i.dst (.tup []) env) H

/-! What is read -/
def Src.tmps : Src → List Nat
  | .t n => [n]
  | .c _ => []
def oTmps : Option Src → List Nat
  | some s => s.tmps
  | none => []

def POp.reads : POp → List Nat
  | .mv a | .len a | .lens a | .un _ a | .conv _ a | .ext a _ | .fldp a _ | .load _ a | .b2s a => a.tmps
  | .pick c a b => c.tmps ++ (a.tmps ++ b.tmps)
  | .bin _ a b | .beq _ a b | .idxp _ a b | .idxs a b | .mnx _ a b => a.tmps ++ b.tmps
  | .slc _ x lo hi mx => x.tmps ++ (oTmps lo ++ (oTmps hi ++ oTmps mx))
  | .slcs x lo hi => x.tmps ++ (oTmps lo ++ oTmps hi)
  | .bld _ ps => ps.flatMap (fun p => p.2.2.tmps)
  | .mkfn _ cs | .mkbf _ cs => cs.flatMap Src.tmps
def EOp.reads : EOp → List Nat
  | .store _ a v => a.tmps ++ v.tmps
  | .box _ v => v.tmps
  | .bsl _ ps | .bslm _ ps => ps.flatMap Src.tmps
  | .mksl _ _ _ l c => l.tmps ++ c.tmps
  | .app _ _ _ a b => a.tmps ++ b.tmps
  | .cpy _ a b => a.tmps ++ b.tmps
def AOp.reads : AOp → List Nat
  | .p o => o.reads
  | .e o => o.reads
  | .call _ as => as.flatMap Src.tmps
  | .callv g as => g.tmps ++ as.flatMap Src.tmps
def AIns.reads (i : AIns) : List Nat := (match i.guard with | some (t, _) => [t] | none => []) ++ i.op.reads

/-- Leaves variables and rows alone (but for its result). -/
def AOp.quiet : AOp → Bool
  | .p _ | .e (.bsl ..) | .call .. | .callv .. => true
  | _ => false
/-- Looks at no row. -/
def POp.hfree : POp → Bool
  | .mv _ | .pick .. | .lens _ | .bin .. | .beq .. | .un .. | .conv .. | .ext .. | .idxs .. | .slcs .. | .bld .. | .mkfn .. | .mkbf .. | .mnx .. => true
  | _ => false
def AOp.hfree : AOp → Bool
  | .p o => o.hfree
  | _ => false
def AOp.isStore : AOp → Bool
  | .e (.store ..) => true
  | _ => false
def AOp.isBox : AOp → Bool
  | .e (.box ..) | .e (.bslm ..) => true
  | _ => false
def AOp.isApp : AOp → Bool
  | .e (.app ..) => true
  | _ => false
/-- Takes over another variable. -/
def AOp.isMv : AOp → Bool
  | .p (.mv (.t _)) => true
  | _ => false

def apartT (x y : AIns) : Bool :=
  (match x.dst with | some d => !y.reads.contains d && y.dst != some d | none => true) && (match y.dst with | some d => !x.reads.contains d | none => true)
/-- x before y in the text. -/
def apartH (x y : AIns) : Bool := (x.op.quiet && y.op.quiet) || (x.op.isStore && y.op.hfree) || (x.op.hfree && y.op.isStore) || (x.op.quiet && y.op.isBox) || (x.op.isMv && y.op.isApp)

/-! Which instructions come before which in each order: a bit a place. -/
def tcOf (T : List Nat) (o : Oper) : Nat :=
  o.after.toList.foldl (fun acc e => if Region.binds .any e then (acc ||| ((1 <<< e.on) ||| T.getD e.on 0)) else acc) 0
def tcTab : List Oper → List Nat → List Nat
  | [], T => T
  | o :: r, T => tcTab r (T ++ [tcOf T o])
def dchkOne (m : Nat) (y : AIns) : Nat → List AIns → Bool
  | _, [] => true
  | a, x :: r => (m.testBit a || (apartT x y && apartH x y)) && dchkOne m y (a + 1) r
def dchkAll (T : List Nat) : Nat → List AIns → List AIns → Bool
  | _, _, [] => true
  | i, pre, y :: r => dchkOne (T.getD i 0) y 0 pre && dchkAll T (i + 1) (pre ++ [y]) r
def backOk : Nat → List Oper → Bool
  | _, [] => true
  | i, o :: r => o.after.toList.all (fun e => !Region.binds .any e || decide (e.on < i)) && backOk (i + 1) r
def dchk (P : Program) (ops : Array Oper) (l : List AIns) : Bool :=
  P.follows .mixedOrders && (backOk 0 ops.toList && dchkAll (tcTab ops.toList []) 0 [] l)

/-! Regions with two boxes side by side in any order, or with a row looked at before another row is written, or with values looked at beside an append. -/
/-- A constant that names no row. -/
def Src.okc : Src → Bool
  | .t _ | .c (.int ..) | .c .nil | .c (.bool _) => true
  | _ => false
/-- Looks at no row if what it reads names none. -/
def POp.clq : POp → Bool
  | .mv a | .len a | .load _ a => a.okc
  | .bin _ a b | .idxp _ a b => a.okc && b.okc
  | .slc _ x lo hi mx => x.okc && (lo.all Src.okc && (hi.all Src.okc && mx.all Src.okc))
  | _ => false
def clI (sd : List (Nat × Nat)) (x : AIns) : Bool := (match x.op with | .p o => o.clq | _ => false) && x.reads.all fun t => sd.contains (t, t)
def ldst (x y : AIns) : Option (Nat × Nat) := match x.op, y.op with
  | .p (.load _ (.t a)), .e (.store _ (.t b) _) => some (a, b)
  | _, _ => none
def okX (m : Nat) (sd : List (Nat × Nat)) (a : Nat) (x y : AIns) : Bool := m.testBit a || (apartT x y && (apartH x y || ((match ldst x y with | some p => p.1 != p.2 && sd.contains p | none => false) || ((x.op.isApp && clI sd y) || (clI sd x && y.op.isApp)))))
def xchkOne (m k i : Nat) (sd : List (Nat × Nat)) (y : AIns) : Nat → List AIns → Bool
  | _, [] => true
  | a, x :: r => (okX m sd a x y || (a == k && i == k + 1)) && xchkOne m k i sd y (a + 1) r
def xchkAll (T : List Nat) (k : Nat) (sd : List (Nat × Nat)) : Nat → List AIns → List AIns → Bool
  | _, _, [] => true
  | i, pre, y :: r => xchkOne (T.getD i 0) k i sd y 0 pre && xchkAll T k sd (i + 1) (pre ++ [y]) r
def twice (T : List Nat) (k n : Nat) : Bool := (List.range n).all fun j => decide (j < k + 2) || (T.getD j 0).testBit k || (T.getD j 0).testBit (k + 1)
def xchk (P : Program) (ops : Array Oper) (l : List AIns) (k : Nat) (sd : List (Nat × Nat)) : Bool :=
  P.follows .mixedOrders && (backOk 0 ops.toList && (xchkAll (tcTab ops.toList []) k sd 0 [] l && (twice (tcTab ops.toList []) k ops.toList.length &&
    sd.all fun p => if p.1 = p.2 then l.all fun x => x.dst != some p.1 || clI sd x else (l.all fun x => !x.op.isApp) && l.all fun x => x.dst != some p.1 && x.dst != some p.2)))
def badOne (m i : Nat) (y : AIns) : Nat → List AIns → List (Nat × Nat × AIns × AIns)
  | _, [] => []
  | a, x :: r => if m.testBit a || (apartT x y && apartH x y) then badOne m i y (a + 1) r else (a, i, x, y) :: badOne m i y (a + 1) r
def badAll (T : List Nat) : Nat → List AIns → List AIns → List (Nat × Nat × AIns × AIns)
  | _, _, [] => []
  | i, pre, y :: r => badOne (T.getD i 0) i y 0 pre ++ badAll T (i + 1) (pre ++ [y]) r
def twinOf (n : Nat) : List (Nat × Nat × AIns × AIns) → Nat
  | [] => n
  | (a, i, x, y) :: r => if i == a + 1 && (x.op.isBox && y.op.isBox) then a else twinOf n r
def sdOf : List (Nat × Nat × AIns × AIns) → List (Nat × Nat)
  | [] => []
  | (_, _, x, y) :: r => match ldst x y with
    | some p => p :: sdOf r
    | none => sdOf r
/-- What the values beside an append come from. -/
def clS0 : List (Nat × Nat × AIns × AIns) → List Nat
  | [] => []
  | (_, _, x, y) :: r => (if x.op.isApp then (match y.op with | .p o => if o.clq then y.reads else [] | _ => []) else if y.op.isApp then (match x.op with | .p o => if o.clq then x.reads else [] | _ => []) else []) ++ clS0 r
def clS : List AIns → List Nat → List Nat
  | [], S => S
  | x :: r, S => match x.dst with
    | some d => if S.contains d then clS r (S ++ x.reads) else clS r S
    | none => clS r S
def twist : List AIns → List AIns
  | x :: y :: r => y :: x :: r
  | l => l
def cregX (P : Program) (ops : Array Oper) (l : List AIns) (k : Nat) (sd : List (Nat × Nat)) : Option ACode :=
  if xchk P ops l k sd then some (.regionX (l.take k) (l.drop k) (twist (l.drop k)) sd) else none
def cregB (P : Program) (ops : Array Oper) (l : List AIns) (b : List (Nat × Nat × AIns × AIns)) : Option ACode := cregX P ops l (twinOf l.length b) (sdOf b ++ ((clS l.reverse (clS0 b)).eraseDups.map fun t => (t, t)))

/-! From the model's regions -/
def caop (P : Program) (mutable : Bool) (o : Op) : Option AOp :=
  match cpure P o with
  | some p => some (.p p)
  | none => match ceff P mutable o with
    | some e => some (.e e)
    | none => match o with
      | .call c => match c.callee with
        | .value (.func f) => (srcs c.args.toList).map (.call f)
        | .value (.tmp t) => (srcs c.args.toList).map (.callv (.t t))
        | _ => none
      | _ => none

def cguard (ops : Array Oper) (g : Option (Nat × Bool)) : Option (Option (Nat × Bool)) :=
  match g with
  | none => some none
  | some (j, want) => match (ops[j]?).bind (·.dst) with
    | some t => some (some (t, want))
    | none => none

def dstOk (nt : Nat) (d : Option Tmp) : Bool := match d with
  | some d => decide (d < nt)
  | none => true

def cins (P : Program) (mutable : Bool) (nt : Nat) (ops : Array Oper) (o : Oper) : Option AIns :=
  if dstOk nt o.dst then
    match cguard ops o.guard, caop P mutable o.op with
    | some g, some a => some ⟨o.dst, g, a⟩
    | _, _ => none
  else none

/-- 'mu' tells which literals of slices are written later: a region's number and the operation's place in it. -/
def clist (P : Program) (mu : Nat → Nat → Bool) (nt rid : Nat) (ops : Array Oper) : Nat → List Oper → Option (List AIns)
  | _, [] => some []
  | k, o :: r => match cins P (mu rid k) nt ops o, clist P mu nt rid ops (k + 1) r with
    | some i, some l => some (i :: l)
    | _, _ => none

def ccode (P : Program) (mu : Nat → Nat → Bool) (nt : Nat) : Code → Option ACode
  | .skip => some .skip
  | .region id ops draw => match clist P mu nt id ops 0 ops.toList with
    | some l => if draw then (if dchk P ops l then some (.region l true) else some ((cregB P ops l (badAll (tcTab ops.toList []) 0 [] l)).getD .bad)) else some (.region l false)
    | none => some .bad
  | .seq a b => match ccode P mu nt a, ccode P mu nt b with
    | some a, some b => some (.seq a b)
    | _, _ => none
  | .cond c a b => match srcOf c, ccode P mu nt a, ccode P mu nt b with
    | some c, some a, some b => some (.cond c a b)
    | _, _, _ => none
  | .block id c => (ccode P mu nt c).map (.block id)
  | .loop c => (ccode P mu nt c).map .loop
  | .exit id => some (.exit id)
  | .ret => some .ret
  | .label l => some (.label l)
  | .goto l => some (.goto l)
  | .scope c => (ccode P mu nt c).map .scope
  | _ => none

section
variable {P : Program} {nt : Nat}

theorem repenv_put {E : Emb} {env : Env} {tmps : Array Value} (he : RepEnv E env tmps) {d : Option Nat} (hd : dstOk tmps.size d = true) {v : Value} {a : AV} (hr : Rep E v a) :
    RepEnv E (put d a env) ((Act.mk tmps []).put d v).tmps := by
  cases d with
  | none => exact he
  | some d =>
    simp only [dstOk, decide_eq_true_eq] at hd
    intro t
    simp only [put, look, Act.put]
    by_cases ht : d = t
    · subst ht
      simp only [if_true]
      rw [Array.getD_eq_getD_getElem?, Array.getElem?_setIfInBounds]
      simp [hd]; exact hr
    · rw [if_neg ht]
      rw [Array.getD_eq_getD_getElem?, Array.getElem?_setIfInBounds_ne ht, ← Array.getD_eq_getD_getElem?]
      exact he t

theorem put_size (tmps : Array Value) (d : Option Nat) (v : Value) : ((Act.mk tmps []).put d v).tmps.size = tmps.size := by cases d <;> simp [Act.put]
theorem put_defers (tmps : Array Value) (d : Option Nat) (v : Value) : (Act.mk tmps []).put d v = ⟨((Act.mk tmps []).put d v).tmps, []⟩ := by cases d <;> rfl

/-- What stands behind a step, in the model. -/
def Kc (n0 nt : Nat) (E : Emb) (K : Env → Heap → Prop) (a : Act) (w : World) : Prop :=
  ∃ φ env H, K env H ∧ HOk ⟨φ, H, w⟩ ∧ RepEnv ⟨φ, H, w⟩ env a.tmps ∧ a.defers = [] ∧ a.tmps.size = nt ∧ n0 ≤ H.length ∧ Ext (· < n0) E ⟨φ, H, w⟩

theorem exec_call {o : Oper} {c : Call} {tmps : Array Value} {w : World} {f : FuncId} {caps : Array Value} (ho : o.op = .call c) {g : Operand} (hc : c.callee = .value g) {bs : Array Value} (hg : Act.eval ⟨tmps, []⟩ g = .func (.func f) bs caps) (hf : Callable P f) :
    (execOp (Act.eval ⟨tmps, []⟩) o).run P w = .ok (.enter f (bs ++ c.args.map (Act.eval ⟨tmps, []⟩) ++ caps)) w := by
  obtain ⟨fn, h1, h2, h3⟩ := hf
  have hb : fn.body.isNone = false := by cases hx : fn.body <;> simp_all
  have h2' : (fn.name == "runtime.NumGoroutine") = false := h2
  simp only [execOp, ho, resolve, hc, hg, Deferred.ofValue, Sem.run_bind, Sem.run_pure, Result.andThen_ok, invoke, callFunc, run_program, h1, h2', hb, Bool.false_eq_true, if_false]

theorem astep_sound {n0 : Nat} {E : Emb} {env : Env} {tmps : Array Value} {o : Oper} {mutable : Bool} {ao : AOp} (hc : caop P mutable o.op = some ao) (hd : dstOk nt o.dst = true) (hsz : tmps.size = nt)
    (hok : HOk E) (he : RepEnv E env tmps) (hn : n0 ≤ E.H.length) {K : Env → Heap → Prop} (h : astep P n0 ao o.dst K env E.H) {Q : Exit → Act → World → Prop} {next : Act → World → Prop} (hnext : ∀ a w, Kc n0 nt E K a w → next a w) :
    o.wp P ⟨tmps, []⟩ E.w next Q := by
  subst hsz
  have fin : ∀ (φ' : Nat → Option Nat) (env' : Env) (H' : Heap) (w' : World) (v : Value) (a : AV), K (put o.dst a env') H' → HOk ⟨φ', H', w'⟩ → Rep ⟨φ', H', w'⟩ v a → RepEnv ⟨φ', H', w'⟩ env' tmps → n0 ≤ H'.length → Ext (· < n0) E ⟨φ', H', w'⟩ →
      next ((Act.mk tmps []).put o.dst v) w' := by
    intro φ' env' H' w' v a h1 h2 h3 h4 h5 h6
    refine hnext _ _ ⟨φ', _, H', h1, h2, repenv_put h4 hd h3, ?_, put_size _ _ _, h5, h6⟩
    cases o.dst <;> rfl
  unfold caop at hc
  split at hc
  · rename_i p hp
    cases hc
    simp only [astep, obind] at h
    split at h
    · rename_i a ha
      obtain ⟨v, hv, hr⟩ := pv_sound hp hok he ha
      simp only [Oper.wp, hv, Oper.upon]
      exact fin E.φ env E.H E.w v a h hok hr he hn (Ext.refl _ _)
    · exact h.elim
  · split at hc
    · rename_i e' hp
      cases hc
      simp only [astep, ebind] at h
      split at h
      · rename_i v env' H' ha
        obtain ⟨φ', w', nx, u, g1, g2, g3, g4, g5, g6⟩ := ev_sound hn hp hok he ha
        have hlen : n0 ≤ H'.length := by
          rcases Nat.eq_zero_or_pos n0 with rfl | hpos
          · omega
          · have := g6.len (n0 - 1) (by show n0 - 1 < n0; omega) (by omega)
            have : n0 - 1 < H'.length := this
            omega
        simp only [Oper.wp, g1]
        rcases g2 with rfl | ⟨rfl, rfl⟩
        · exact fin φ' env' H' w' u v h g3 g4 g5 hlen g6
        · exact fin φ' env' H' w' undef v h g3 g4 g5 hlen g6
      · exact h.elim
    · have callb : ∀ (c : Call) (g : Operand) (f : FuncId) (bs caps : List Value) (as : List AV) (vs : List Value), o.op = .call c → c.callee = .value g → Act.eval ⟨tmps, []⟩ g = .func (.func f) bs.toArray caps.toArray →
          vs = bs ++ c.args.toList.map (Act.eval ⟨tmps, []⟩) ++ caps → vs.length = as.length → (∀ (k : Nat) v a, vs[k]? = some v → as[k]? = some a → Rep E v a) →
          ACalls P f as E.H (fun r H' => K (put o.dst r env) H') → o.wp P ⟨tmps, []⟩ E.w next Q := by
        intro c g f bs caps as vs ho hcal hg hvs hl hr ha
        have hx := exec_call (w := E.w) ho hcal hg ha.1
        simp only [Oper.wp, hx, Oper.upon]
        have harr : bs.toArray ++ c.args.map (Act.eval ⟨tmps, []⟩) ++ caps.toArray = vs.toArray := by
          rw [hvs]
          apply Array.ext'
          simp
        rw [harr]
        refine (ha.2 E.φ E.w vs hok hl hr).mono ?_
        rintro e w' ⟨v, r, φ', H', rfl, q1, q2, q3, q4, q5⟩
        exact fin φ' env H' w' v r q1 q2 q3 (he.mono q5) (Nat.le_trans hn q4) (q5.sub (fun i hi => Nat.lt_of_lt_of_le hi hn))
      have callc : ∀ (c : Call) (g : Operand) (f : FuncId) (caps : List Value) (as : List AV) (vs : List Value), o.op = .call c → c.callee = .value g → Act.eval ⟨tmps, []⟩ g = .func (.func f) #[] caps.toArray →
          vs = c.args.toList.map (Act.eval ⟨tmps, []⟩) ++ caps → vs.length = as.length → (∀ (k : Nat) v a, vs[k]? = some v → as[k]? = some a → Rep E v a) →
          ACalls P f as E.H (fun r H' => K (put o.dst r env) H') → o.wp P ⟨tmps, []⟩ E.w next Q := fun c g f caps as vs ho hcal hg hvs => callb c g f [] caps as vs ho hcal hg (by rw [hvs]; rfl)
      split at hc
      · rename_i c ho
        split at hc
        · rename_i f hcal
          simp only [Option.map_eq_some_iff] at hc
          obtain ⟨ss, hs, rfl⟩ := hc
          obtain ⟨hl, hr⟩ := rep_srcs he hs
          simp only [astep] at h
          exact callc c (.func f) f [] _ _ ho hcal rfl rfl (by simp [hl]) (by simpa using hr) h
        · rename_i t hcal
          simp only [Option.map_eq_some_iff] at hc
          obtain ⟨ss, hs, rfl⟩ := hc
          obtain ⟨hl, hr⟩ := rep_srcs he hs
          simp only [astep, Src.ev] at h
          have hg := he t
          split at h
          · rename_i f caps hcap
            rw [hcap] at hg
            generalize hgv : tmps.getD t undef = gv at hg
            cases hg with
            | fn _ vs cs hlen hrep =>
              exact callc c (.tmp t) f vs _ _ ho hcal hgv rfl (by simp [hl, hlen]) (two_reps (Q := fun u b => Rep E u b) (by simp [hl]) hr hrep) h
            | dead v a id hr hd h1 => simp [AV.ref] at hr
          · rename_i f bs hcap
            rw [hcap] at hg
            generalize hgv : tmps.getD t undef = gv at hg
            cases hg with
            | bfn _ vs cs hlen hrep =>
              exact callb c (.tmp t) f vs [] _ (vs ++ c.args.toList.map (Act.eval ⟨tmps, []⟩)) ho hcal hgv (by simp) (by simp [hl, hlen]) (two_reps (Q := fun u b => Rep E u b) hlen hrep hr) h
            | dead v a id hr hd h1 => simp [AV.ref] at hr
          · exact h.elim
        · simp at hc
      · simp at hc

theorem rep_tup0_inv {E : Emb} {v : Value} (h : Rep E v (.tup [])) : v = undef := by
  cases h with
  | tup vs _ hlen _ =>
    have : vs = [] := List.length_eq_zero_iff.1 (by simpa using hlen)
    subst this; rfl
  | dead v a i hr hd h1 => simp [AV.ref] at hr
theorem rep_undef {E : Emb} : Rep E undef (.tup []) := .tup [] [] rfl (fun k v a h => by simp at h)
theorem wanted_of {ops : Array Oper} {o : Oper} {tmps : Array Value} {E : Emb} {env : Env} (he : RepEnv E env tmps) {g : Option (Nat × Bool)} (hg : cguard ops o.guard = some g) :
    match g with
    | none => Region.wanted o (yielded ops tmps) = true
    | some (t, want) => (∀ c, look env t = .bool c → Region.wanted o (yielded ops tmps) = (c == want)) ∧ (look env t = .tup [] → Region.wanted o (yielded ops tmps) = false) := by
  unfold cguard at hg
  split at hg
  · rename_i hgd
    cases hg
    simp [Region.wanted, hgd]
  · rename_i j want hgd
    split at hg
    · rename_i t ht
      cases hg
      have hj := Option.bind_eq_some_iff.1 ht
      obtain ⟨oj, h1, h2⟩ := hj
      have get : ∀ {v}, tmps.getD t undef = v → v ≠ undef → tmps[t]? = some v := by
        intro v hv hne
        rw [Array.getD_eq_getD_getElem?] at hv
        cases hx : tmps[t]? with
        | none => simp [hx] at hv; exact absurd hv.symm hne
        | some u => simp [hx] at hv; rw [hv]
      refine ⟨fun c hc => ?_, fun hc => ?_⟩
      · have hr := he t
        rw [hc] at hr
        have hv' := get (rep_bool_inv hr) (by simp [undef])
        simp [Region.wanted, hgd, yielded, h1, h2, hv']
      · have hr := he t
        rw [hc] at hr
        have hv := rep_tup0_inv hr
        have hy : yielded ops tmps j = none := by
          rw [Array.getD_eq_getD_getElem?] at hv
          simp only [yielded, h1, h2, Option.bind_some]
          cases hx : tmps[t]? with
          | none => rfl
          | some u => simp [hx, undef] at hv; subst hv; rfl
        simp [Region.wanted, hgd, hy]
    · simp at hg

theorem aops_sound {mu : Nat → Nat → Bool} {rid : Nat} {ops : Array Oper} {n0 : Nat} {K : Env → Heap → Prop} {Q : Exit → Act → World → Prop} {E0 : Emb} (hQ : ∀ a w, Kc n0 nt E0 K a w → Q .normal a w) :
    ∀ (l0 : List Oper) (k : Nat) (l : List AIns), clist P mu nt rid ops k l0 = some l → ∀ (E : Emb) (env : Env) (tmps : Array Value), tmps.size = nt → HOk E → RepEnv E env tmps → n0 ≤ E.H.length → Ext (· < n0) E0 E →
      aops P n0 l K env E.H → wpList P ops Q l0 ⟨tmps, []⟩ E.w
  | [], k, l, hl, E, env, tmps, hsz, hok, he, hn, hx, h => by
    simp [clist] at hl; subst hl
    exact hQ _ _ ⟨E.φ, env, E.H, h, hok, he, rfl, hsz, hn, hx⟩
  | o :: l0, k, l, hl, E, env, tmps, hsz, hok, he, hn, hx, h => by
    simp only [clist] at hl
    split at hl
    · rename_i i l' hi hl'
      cases hl
      unfold cins at hi
      split at hi
      · rename_i hd
        split at hi
        · rename_i g a hg ha
          cases hi
          have next : ∀ a w, Kc n0 nt E (aops P n0 l' K) a w → wpList P ops Q l0 a w := by
            intro a w ⟨φ, env', H', q1, q2, q3, q4, q5, q6, q7⟩
            have : a = ⟨a.tmps, []⟩ := by cases a; simp at q4; simp [q4]
            rw [this]
            exact aops_sound hQ l0 (k + 1) l' hl' ⟨φ, H', w⟩ env' a.tmps q5 q2 q3 q6 (hx.trans q7) q1
          have hw := wanted_of (o := o) he hg
          simp only [aops] at h
          unfold wpList
          split at h
          · simp only at hw
            rw [if_pos hw]
            exact .inl (astep_sound ha hd hsz hok he hn h next)
          · rename_i t want _
            simp only at hw
            simp only [gguard] at h
            have pass : Region.wanted o (yielded ops tmps) = false → aops P n0 l' K (put o.dst (.tup []) env) E.H → wpList P ops Q (o :: l0) ⟨tmps, []⟩ E.w := by
              intro hf h
              unfold wpList
              rw [if_neg (by rw [hf]; simp)]
              refine next _ _ ⟨E.φ, _, E.H, h, hok, ?_, ?_, ?_, hn, Ext.refl _ _⟩
              · subst hsz; exact repenv_put he hd rep_undef
              · cases o.dst <;> rfl
              · rw [put_size]; exact hsz
            split at h
            · rename_i c hc
              have hw' := hw.1 c hc
              split at h
              · rename_i hcw
                rw [if_pos (by rw [hw', hcw]; simp)]
                exact .inl (astep_sound ha hd hsz hok he hn h next)
              · rename_i hcw
                have := pass (by rw [hw']; simpa using hcw) h
                unfold wpList at this
                exact this
            · rename_i hc
              have hw' := hw.2 hc
              rw [if_neg (by cases want <;> simp)] at h
              have := pass hw' h
              unfold wpList at this
              exact this
            · exact h.elim
        · simp at hi
      · simp at hi
    · simp at hl

end
end Go.Abs

/- Operations that write or make memory. -/
import Derived.Test.YtmbjamifiadncaaDoorA3
import Derived.Deep.AppendSrc
import Derived.Laws.MakeOwn
set_option linter.unusedVariables false
set_option linter.unusedSimpArgs false
namespace Go.Abs

inductive EOp where
  | store (n : Nat) (a v : Src)
  | box (n : Nat) (v : Src)
  | bsl (wd : Nat) (parts : List Src)
  | bslm (wd : Nat) (parts : List Src)
  | mksl (wd bytes : Nat) (zero : AV) (l c : Src)
  | app (wd bytes : Nat) (str : Bool) (a b : Src)
  | cpy (wd : Nat) (a b : Src)

def upd (x : AV) (wd off n : Nat) (v : AV) : AV := if off = 0 ∧ n = wd then v else .agg (splice x.cells off v.cells)

noncomputable def clb (a : AV) : Bool := @decide (Cl a) (Classical.propDecidable _)
/-- Nothing in it names the row id. -/
noncomputable def nref (id : Nat) (a : AV) : Bool := @decide (Ref (· ≠ id) a) (Classical.propDecidable _)
theorem clb_iff {a : AV} : clb a = true ↔ Cl a := by unfold clb; exact @decide_eq_true_iff _ (Classical.propDecidable _)
theorem nref_iff {id : Nat} {a : AV} : nref id a = true ↔ Ref (· ≠ id) a := by unfold nref; exact @decide_eq_true_iff _ (Classical.propDecidable _)

noncomputable def scrub (id : Nat) (env : Env) : Env := env.map fun p => (p.1, if nref id p.2 then p.2 else .top)

/-- The rows beside id do not name it. -/
def Free (H : Heap) (id : Nat) : Prop := ∀ (j : Nat) bj, j ≠ id → H[j]? = some (some bj) → ∀ a ∈ bj.flat, Ref (· ≠ id) a
noncomputable def free (H : Heap) (id : Nat) : Bool := @decide (Free H id) (Classical.propDecidable _)
theorem free_iff {H : Heap} {id : Nat} : free H id = true ↔ Free H id := by unfold free; exact @decide_eq_true_iff _ (Classical.propDecidable _)

def byteAVs (s : ByteArray) : List AV := s.data.toList.map fun b => .int .u8 b.toNat

def srcEls (H : Heap) (wd : Nat) (str : Bool) : AV → Option (List AV)
  | .str s => if str then some (byteAVs s) else none
  | .nil => if str then none else some []
  | .sl wd' xs => if str = false ∧ wd' = wd then some xs else none
  | .mu id off len _ => (hrow H id).bind fun b => if str = false ∧ b.wd = wd ∧ off + len ≤ b.xs.length then some ((b.xs.drop off).take len) else none
  | _ => none

def capAfter (oc : Option Nat) (n : Nat) : Option Nat := oc.bind fun c => if n ≤ c then some c else none

/-- An operation's value, the variables behind it, the rows behind it. The rows from n0 on are the call's own. -/
noncomputable def ev (n0 : Nat) (o : EOp) (env : Env) (H : Heap) : Option (AV × Env × Heap) :=
  match o with
  | .store n a v => match a.ev env with
    | .loc id i off => (hrow H id).bind fun b =>
        if i < b.xs.length ∧ (v.ev env).fit = true ∧ (v.ev env).cells.length = n ∧ off + n ≤ b.wd then
          some (.top, env, H.set id (some ⟨b.wd, b.xs.set i (upd (b.xs.getD i .top) b.wd off n (v.ev env))⟩)) else none
    | _ => none
  | .box n v => if (v.ev env).fit = true ∧ (v.ev env).cells.length = n ∧ 0 < n then some (.loc H.length 0 0, env, H ++ [some ⟨n, [v.ev env]⟩]) else none
  | .bsl wd ps => if 0 < wd ∧ ps.all (fun s => (s.ev env).fit && decide ((s.ev env).cells.length = wd) && (s.ev env).cells.all clb) then some (.sl wd (ps.map (·.ev env)), env, H) else none
  | .bslm wd ps => if 0 < wd ∧ ps.all (fun s => (s.ev env).fit && decide ((s.ev env).cells.length = wd)) then
      some (.mu H.length 0 ps.length (some ps.length), env, H ++ [some ⟨wd, ps.map (·.ev env)⟩]) else none
  | .mksl wd bytes z l c => match l.ev env, c.ev env with
    | .int _ l, .int _ c => if 0 < wd ∧ 0 ≤ l ∧ l ≤ c ∧ (bytes : Int) * c ≤ 281474976710656 ∧ c ≤ 9223372036854775807 then
        some (.mu H.length 0 l.toNat (some c.toNat), env, H ++ [some ⟨wd, List.replicate l.toNat z⟩]) else none
    | _, _ => none
  | .app wd bytes str a b => (srcEls H wd str (b.ev env)).bind fun ys =>
      match a.ev env with
      | .nil => if 0 < wd ∧ ys.length * bytes ≤ 140737488355328 ∧ ys.length ≤ 9223372036854775807 then some (.mu H.length 0 ys.length none, env, H ++ [some ⟨wd, ys⟩]) else none
      | .mu id off len oc => (hrow H id).bind fun r =>
          if r.wd = wd ∧ off = 0 ∧ len ≤ r.xs.length ∧ n0 ≤ id ∧ 0 < ys.length ∧ (oc.any fun c => decide (len + ys.length ≤ c)) = true then
            some (.mu id 0 (len + ys.length) oc, env, H.set id (some ⟨wd, r.xs.take len ++ ys⟩)) else
          if r.wd = wd ∧ off = 0 ∧ len ≤ r.xs.length ∧ n0 ≤ id ∧ free H id = true ∧ (ys.flatMap AV.cells).all (nref id) = true ∧ (r.xs.flatMap AV.cells).all (nref id) = true ∧
              (len + ys.length) * bytes ≤ 140737488355328 ∧ len + ys.length ≤ 9223372036854775807 then
            some (.mu id 0 (len + ys.length) (capAfter oc (len + ys.length)), scrub id env, H.set id (some ⟨wd, r.xs.take len ++ ys⟩)) else
          if r.wd = wd ∧ off + len ≤ r.xs.length ∧ 0 < ys.length ∧ (oc.any fun c => decide (c < len + ys.length)) = true ∧ (len + ys.length) * bytes ≤ 140737488355328 ∧ len + ys.length ≤ 9223372036854775807 then
            some (.mu H.length 0 (len + ys.length) none, env, H ++ [some ⟨wd, (r.xs.drop off).take len ++ ys⟩]) else none
      | _ => none
  | .cpy wd a b => (srcEls H wd false (b.ev env)).bind fun ys =>
      match a.ev env with
      | .mu id off len _ => (hrow H id).bind fun r =>
          if r.wd = wd ∧ off + len ≤ r.xs.length then
            some (.int .i64 (min ys.length len : Nat), env, H.set id (some ⟨wd, r.xs.take off ++ ys.take (min ys.length len) ++ r.xs.drop (off + min ys.length len)⟩)) else none
      | _ => none

def zeroAV : Value → AV
  | .agg cs => .agg (cs.toList.map constAV)
  | v => constAV v

def zeroOk : Value → Bool
  | .agg cs => cs.all (·.oneCell')
  | v => v.oneCell'

def partsFull (k : Nat) : List (Nat × Operand) → Option (List Src)
  | [] => some []
  | (i, x) :: r => if i = k then do
      let s ← srcOf x
      let r ← partsFull (k + 1) r
      some (s :: r) else none

def ceff (P : Program) (mutable : Bool) (o : Op) : Option EOp :=
  match o with
  | .store t a v => do some (.store (← sizeD P t) (← srcOf a) (← srcOf v))
  | .box t v => do some (.box (← sizeD P t) (← srcOf v))
  | .alloc t => do
      let i ← P.info? t
      let z ← i.zero
      if zeroOk z && decide (z.cells.size = i.size) then some (.box i.size (.c (zeroAV z))) else none
  | .buildSlice t len parts =>
    match P.underlying t with
    | some (.slice e) => do
      let i ← P.info? e
      let z ← i.zero
      let ps ← partsFull 0 parts.toList
      if z.cells.size = i.size ∧ zeroOk z = true ∧ ps.length = len ∧ len * i.size ≤ 16777216 then some (if mutable then .bslm i.size ps else .bsl i.size ps) else none
    | _ => none
  | .makeSlice t l c =>
    match P.underlying t with
    | some (.slice e) => do
      let i ← P.info? e
      let z ← i.zero
      if z.cells.size = i.size ∧ zeroOk z = true then some (.mksl i.size i.bytes (zeroAV z) (← srcOf l) (← srcOf c)) else none
    | _ => none
  | .call c =>
    match c.callee, c.args.toList, c.argTypes.toList with
    | .builtin .append, [x, y], [t, u] =>
      match P.underlying t with
      | some (.slice e) => do
        let i ← P.info? e
        let z ← i.zero
        if z.cells.size = i.size then
          match P.underlying u with
          | some (.slice _) => some (.app i.size i.bytes false (← srcOf x) (← srcOf y))
          | some .string => if i.size = 1 then some (.app i.size i.bytes true (← srcOf x) (← srcOf y)) else none
          | _ => none
        else none
      | _ => none
    | .builtin .copy, [x, y], [t, u] =>
      match P.underlying t with
      | some (.slice e) => do some (.cpy (← sizeD P e) (← srcOf x) (← srcOf y))
      | _ => none
    | _, _, _ => none
  | _ => none

theorem zero_rep (E : Emb) {z : Value} (h : zeroOk z = true) : Rep E z (zeroAV z) ∧ (zeroAV z).fit = true ∧ (zeroAV z).cells.length = z.cells.size := by
  cases z with
  | agg cs =>
    simp only [zeroOk, Array.all_eq_true] at h
    refine ⟨?_, rfl, by simp [zeroAV, AV.cells, Value.cells]⟩
    have := Rep.agg (E := E) cs.toList (cs.toList.map constAV) (by simp) (by
      intro v hv
      obtain ⟨k, hk, rfl⟩ := List.getElem_of_mem hv
      simpa using h k (by simpa using hk)) (by
      intro k v a hk ha
      simp at hk ha
      rw [hk] at ha
      simp at ha
      obtain ⟨_, rfl, rfl⟩ := ha
      exact rep_const E _)
    simpa [zeroAV] using this
  | slice a l c =>
    refine ⟨rep_const E _, ?_, ?_⟩
    · simp only [zeroAV, constAV]; split <;> simp_all [AV.fit, AV.solid, Value.oneCell']
    · simp only [zeroAV, constAV]; split <;> simp_all [AV.cells, Value.cells]
  | _ => first | (simp [zeroOk, Value.oneCell'] at h; done) | exact ⟨rep_const E _, by simp [zeroAV, constAV, AV.fit, AV.solid, Value.oneCell'], by simp [zeroAV, constAV, AV.cells, Value.cells]⟩

end Go.Abs

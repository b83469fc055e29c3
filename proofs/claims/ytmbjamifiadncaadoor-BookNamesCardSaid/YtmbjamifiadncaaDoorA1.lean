/- Abstract values, their representation in the model's memory, and what the steps of memory do to it. -/
import Derived.WalkKit
import Derived.Laws.CopyOwn
import Derived.Orders
set_option linter.unusedVariables false
set_option linter.unusedSimpArgs false
namespace Go.Abs

/-- Abstract values. -/
inductive AV where
  | top
  | int (k : IntKind) (n : Int)
  | bool (b : Bool)
  | str (s : ByteArray)
  | nil
  | lit (v : Value)
  | sl (wd : Nat) (xs : List AV)
  | mu (id off len : Nat) (cap : Option Nat)
  | loc (id i off : Nat)
  | ro (x : AV) (off : Nat)
  | agg (cs : List AV)
  | tup (vs : List AV)
  | fn (f : FuncId) (caps : List AV)
  | bfn (f : FuncId) (bs : List AV)
  deriving Inhabited

/-- The cells that a value takes in memory. -/
def AV.cells : AV → List AV
  | .agg cs => cs
  | a => [a]

/-- A row of the call's own: its elements take wd cells each. -/
structure Blk where
  wd : Nat
  xs : List AV

def Blk.flat (b : Blk) : List AV := b.xs.flatMap AV.cells

abbrev Heap := List (Option Blk)

/-- Where the abstract rows lie in a world. -/
structure Emb where
  φ : Nat → Option Nat
  H : Heap
  w : World

def Emb.Mut (E : Emb) (b : Nat) : Prop := ∃ id blk, E.H[id]? = some (some blk) ∧ E.φ id = some b

def rowSize (w : World) (b : Nat) : Nat :=
  match w.heap[b]? with
  | some (.cells c _ _) => c.size
  | _ => 0

def AV.ref : AV → Option Nat
  | .mu id .. => some id
  | .loc id .. => some id
  | _ => none

/-- No row of the call's own is named. -/
inductive Cl : AV → Prop where
  | top : Cl .top
  | int (k : IntKind) (n : Int) : Cl (.int k n)
  | bool (b : Bool) : Cl (.bool b)
  | str (s : ByteArray) : Cl (.str s)
  | nil : Cl .nil
  | lit (v : Value) : Cl (.lit v)
  | sl (wd : Nat) (xs : List AV) (h : ∀ c ∈ xs.flatMap AV.cells, Cl c) : Cl (.sl wd xs)
  | ro (x : AV) (off : Nat) (h : ∀ c ∈ x.cells, Cl c) : Cl (.ro x off)
  | agg (cs : List AV) (h : ∀ c ∈ cs, Cl c) : Cl (.agg cs)
  | tup (cs : List AV) (h : ∀ c ∈ cs, Cl c) : Cl (.tup cs)
  | fn (f : FuncId) (cs : List AV) (h : ∀ c ∈ cs, Cl c) : Cl (.fn f cs)
  | bfn (f : FuncId) (cs : List AV) (h : ∀ c ∈ cs, Cl c) : Cl (.bfn f cs)

/-- Only rows of S are named. -/
inductive Ref (S : Nat → Prop) : AV → Prop where
  | top : Ref S .top
  | int (k : IntKind) (n : Int) : Ref S (.int k n)
  | bool (b : Bool) : Ref S (.bool b)
  | str (s : ByteArray) : Ref S (.str s)
  | nil : Ref S .nil
  | lit (v : Value) : Ref S (.lit v)
  | sl (wd : Nat) (xs : List AV) : Ref S (.sl wd xs)
  | ro (x : AV) (off : Nat) : Ref S (.ro x off)
  | mu (id off len : Nat) (oc : Option Nat) (h : S id) : Ref S (.mu id off len oc)
  | loc (id i off : Nat) (h : S id) : Ref S (.loc id i off)
  | agg (cs : List AV) (h : ∀ c ∈ cs, Ref S c) : Ref S (.agg cs)
  | tup (cs : List AV) (h : ∀ c ∈ cs, Ref S c) : Ref S (.tup cs)
  | fn (f : FuncId) (cs : List AV) (h : ∀ c ∈ cs, Ref S c) : Ref S (.fn f cs)
  | bfn (f : FuncId) (cs : List AV) (h : ∀ c ∈ cs, Ref S c) : Ref S (.bfn f cs)

theorem Cl.ref {S : Nat → Prop} {a : AV} (h : Cl a) : Ref S a := by
  induction h with
  | top => exact .top
  | int k n => exact .int k n
  | bool b => exact .bool b
  | str s => exact .str s
  | nil => exact .nil
  | lit v => exact .lit v
  | sl wd xs h ih => exact .sl wd xs
  | ro x off h ih => exact .ro x off
  | agg cs h ih => exact .agg cs ih
  | tup cs h ih => exact .tup cs ih
  | fn f cs h ih => exact .fn f cs ih
  | bfn f cs h ih => exact .bfn f cs ih

theorem Ref.mono {S T : Nat → Prop} (h : ∀ i, S i → T i) {a : AV} (r : Ref S a) : Ref T a := by
  induction r with
  | top => exact .top
  | int k n => exact .int k n
  | bool b => exact .bool b
  | str s => exact .str s
  | nil => exact .nil
  | lit v => exact .lit v
  | sl wd xs => exact .sl wd xs
  | ro x off => exact .ro x off
  | mu id off len oc hs => exact .mu id off len oc (h _ hs)
  | loc id i off hs => exact .loc id i off (h _ hs)
  | agg cs h ih => exact .agg cs ih
  | tup cs h ih => exact .tup cs ih
  | fn f cs h ih => exact .fn f cs ih
  | bfn f cs h ih => exact .bfn f cs ih

inductive Rep (E : Emb) : Value → AV → Prop where
  | top (v : Value) : Rep E v .top
  | int (k : IntKind) (n : Int) : Rep E (.int k n) (.int k n)
  | bool (b : Bool) : Rep E (.bool b) (.bool b)
  | str (s : ByteArray) : Rep E (.string s) (.str s)
  | nil : Rep E (.slice none 0 0) .nil
  | lit (v : Value) : Rep E v (.lit v)
  | sl (base : Option Addr) (cap wd : Nat) (xs : List AV) (vs : List Value) (b o : Nat) (hcap : xs.length ≤ cap) (hpos : 0 < wd) (hw : ∀ x ∈ xs, x.cells.length = wd) (hcl : ∀ c ∈ xs.flatMap AV.cells, Cl c)
      (hbase : xs = [] ∨ (base = some ⟨b, o, none⟩ ∧ ¬ E.Mut b)) (hlen : vs.length = (xs.flatMap AV.cells).length)
      (hcell : ∀ (k : Nat) v, vs[k]? = some v → E.w.cell? ⟨b, o + k, none⟩ = some v ∧ v.oneCell' = true)
      (hrep : ∀ (k : Nat) v a, vs[k]? = some v → (xs.flatMap AV.cells)[k]? = some a → Rep E v a) : Rep E (.slice base xs.length cap) (.sl wd xs)
  | mu (blk : Blk) (id off len : Nat) (oc : Option Nat) (b q cap : Nat) (hlive : E.H[id]? = some (some blk)) (hb : E.φ id = some b) (hq : q = off * blk.wd ∨ (len = 0 ∧ cap = 0))
      (hlen : len ≤ cap) (hsz : (off + cap) * blk.wd ≤ rowSize E.w b) (hoc : ∀ c, oc = some c → cap = c) :
      Rep E (.slice (some ⟨b, q, none⟩) len cap) (.mu id off len oc)
  | mu0 (blk : Blk) (id off : Nat) (oc : Option Nat) (hlive : E.H[id]? = some (some blk)) (hb : E.φ id = none) (hoc : ∀ c, oc = some c → 0 = c) :
      Rep E (.slice none 0 0) (.mu id off 0 oc)
  | loc (blk : Blk) (id i off b : Nat) (hlive : E.H[id]? = some (some blk)) (hb : E.φ id = some b) : Rep E (.pointer (some ⟨b, i * blk.wd + off, none⟩)) (.loc id i off)
  | dead (v : Value) (a : AV) (id : Nat) (hr : a.ref = some id) (hd : E.H[id]? = some none) (h1 : v.oneCell' = true) : Rep E v a
  | ro (x : AV) (off b o : Nat) (vs : List Value) (hb : ¬ E.Mut b) (hpos : 0 < x.cells.length) (hcl : ∀ c ∈ x.cells, Cl c) (hlen : vs.length = x.cells.length)
      (hcell : ∀ (k : Nat) v, vs[k]? = some v → E.w.cell? ⟨b, o + k, none⟩ = some v ∧ v.oneCell' = true)
      (hrep : ∀ (k : Nat) v a, vs[k]? = some v → x.cells[k]? = some a → Rep E v a) : Rep E (.pointer (some ⟨b, o + off, none⟩)) (.ro x off)
  | agg (vs : List Value) (cs : List AV) (hlen : vs.length = cs.length) (h1 : ∀ v ∈ vs, v.oneCell' = true)
      (hrep : ∀ (k : Nat) v a, vs[k]? = some v → cs[k]? = some a → Rep E v a) : Rep E (.agg vs.toArray) (.agg cs)
  | tup (vs : List Value) (cs : List AV) (hlen : vs.length = cs.length)
      (hrep : ∀ (k : Nat) v a, vs[k]? = some v → cs[k]? = some a → Rep E v a) : Rep E (.tuple vs.toArray) (.tup cs)
  | fn (f : FuncId) (vs : List Value) (cs : List AV) (hlen : vs.length = cs.length)
      (hrep : ∀ (k : Nat) v a, vs[k]? = some v → cs[k]? = some a → Rep E v a) : Rep E (.func (.func f) #[] vs.toArray) (.fn f cs)
  | bfn (f : FuncId) (vs : List Value) (cs : List AV) (hlen : vs.length = cs.length)
      (hrep : ∀ (k : Nat) v a, vs[k]? = some v → cs[k]? = some a → Rep E v a) : Rep E (.func (.func f) vs.toArray #[]) (.bfn f cs)

/-- What a stretch of a run does to the rows of S and to the world. -/
structure Ext (S : Nat → Prop) (E E' : Emb) : Prop where
  os : E'.w.os = E.w.os
  tape : E'.w.tape = E.w.tape
  output : E'.w.output = E.w.output
  size : E.w.heap.size ≤ E'.w.heap.size
  len : ∀ id, S id → id < E.H.length → id < E'.H.length
  phi : ∀ id, S id → id < E.H.length → E'.φ id = E.φ id
  live : ∀ id blk', S id → id < E.H.length → E'.H[id]? = some (some blk') → ∃ blk, E.H[id]? = some (some blk) ∧ blk.wd = blk'.wd
  rowsz : ∀ id blk' b, S id → id < E.H.length → E'.H[id]? = some (some blk') → E.φ id = some b → rowSize E'.w b = rowSize E.w b
  muts : ∀ b, b < E.w.heap.size → E'.Mut b → E.Mut b
  keep : ∀ b, b < E.w.heap.size → ¬ E.Mut b → E'.w.heap[b]? = E.w.heap[b]?

def All : Nat → Prop := fun _ => True

/-- The rows lie in the world as the abstract heap says. -/
structure RowOk (E : Emb) (b : Nat) (blk : Blk) (c : Array Value) (e : TypeId) : Prop where
  heap : E.w.heap[b]? = some (.cells c e (0, 0))
  fits : blk.flat.length ≤ c.size
  one : ∀ (k : Nat) v, k < blk.flat.length → c[k]? = some v → v.oneCell' = true
  rep : ∀ (k : Nat) v a, c[k]? = some v → blk.flat[k]? = some a → Rep E v a

structure HOk (E : Emb) : Prop where
  wpos : ∀ (id : Nat) blk, E.H[id]? = some (some blk) → 0 < blk.wd
  wids : ∀ (id : Nat) blk, E.H[id]? = some (some blk) → ∀ x ∈ blk.xs, x.cells.length = blk.wd
  row : ∀ (id : Nat) blk b, E.H[id]? = some (some blk) → E.φ id = some b → ∃ c e, RowOk E b blk c e
  emp : ∀ (id : Nat) blk, E.H[id]? = some (some blk) → E.φ id = none → blk.xs = []
  inj : ∀ (id1 id2 : Nat) b1 b2 b, E.H[id1]? = some (some b1) → E.H[id2]? = some (some b2) → E.φ id1 = some b → E.φ id2 = some b → id1 = id2

/-! ### Ext -/
theorem Ext.refl (S : Nat → Prop) (E : Emb) : Ext S E E :=
  ⟨rfl, rfl, rfl, Nat.le_refl _, fun _ _ h => h, fun _ _ _ => rfl, fun id blk' _ _ h => ⟨blk', h, rfl⟩, fun _ _ _ _ _ _ _ => rfl, fun _ _ h => h, fun _ _ _ => rfl⟩

theorem Ext.sub {S T : Nat → Prop} {E E' : Emb} (h : Ext S E E') (hs : ∀ i, T i → S i) : Ext T E E' :=
  ⟨h.os, h.tape, h.output, h.size, fun i hi => h.len i (hs i hi), fun i hi => h.phi i (hs i hi), fun i b hi => h.live i b (hs i hi), fun i b b' hi => h.rowsz i b b' (hs i hi), h.muts, h.keep⟩

theorem Ext.trans {S : Nat → Prop} {A B C : Emb} (h : Ext S A B) (k : Ext S B C) : Ext S A C := by
  refine ⟨k.os.trans h.os, k.tape.trans h.tape, k.output.trans h.output, Nat.le_trans h.size k.size, fun i si hi => k.len i si (h.len i si hi), ?_, ?_, ?_, ?_, ?_⟩
  · intro id si hi; rw [k.phi id si (h.len id si hi), h.phi id si hi]
  · intro id blk' si hi hb
    obtain ⟨blk1, h1, e1⟩ := k.live id blk' si (h.len id si hi) hb
    obtain ⟨blk0, h0, e0⟩ := h.live id blk1 si hi h1
    exact ⟨blk0, h0, e0.trans e1⟩
  · intro id blk' b si hi hb hp
    obtain ⟨blk1, h1, e1⟩ := k.live id blk' si (h.len id si hi) hb
    rw [k.rowsz id blk' b si (h.len id si hi) hb (by rw [h.phi id si hi]; exact hp), h.rowsz id blk1 b si hi h1 hp]
  · intro b hb hm; exact h.muts b hb (k.muts b (Nat.lt_of_lt_of_le hb h.size) hm)
  · intro b hb hm
    rw [k.keep b (Nat.lt_of_lt_of_le hb h.size) (fun hm' => hm (h.muts b hb hm')), h.keep b hb hm]

section
variable {S : Nat → Prop} {E E' : Emb}
theorem Ext.cell (h : Ext S E E') {a : Addr} {v : Value} (hc : E.w.cell? a = some v) (hm : ¬ E.Mut a.block) : E'.w.cell? a = some v := by
  have hlt := World.block_lt_of_cell? E.w a hc
  rw [← hc]
  exact World.cell?_of_block (h.keep a.block hlt hm)

theorem Ext.notMut (h : Ext S E E') {a : Addr} {v : Value} (hc : E.w.cell? a = some v) (hm : ¬ E.Mut a.block) : ¬ E'.Mut a.block :=
  fun hm' => hm (h.muts _ (World.block_lt_of_cell? E.w a hc) hm')

theorem lt_of_live {H : Heap} {id : Nat} {x : Option Blk} (h : H[id]? = some x) : id < H.length := by
  rcases Nat.lt_or_ge id H.length with h' | h'
  · exact h'
  · simp [List.getElem?_eq_none h'] at h

theorem Ext.dead (h : Ext S E E') {id : Nat} (si : S id) (hd : E.H[id]? = some none) : E'.H[id]? = some none := by
  have hlt := lt_of_live hd
  have hlt' : id < E'.H.length := h.len id si hlt
  cases hx : E'.H[id]? with
  | none => simp at hx; omega
  | some x =>
    cases x with
    | none => rfl
    | some blk' =>
      obtain ⟨blk, hb, _⟩ := h.live id blk' si hlt hx
      rw [hd] at hb; simp at hb

theorem Ext.cases_live (h : Ext S E E') {id : Nat} (si : S id) {blk : Blk} (hl : E.H[id]? = some (some blk)) :
    E'.H[id]? = some none ∨ ∃ blk', E'.H[id]? = some (some blk') ∧ blk'.wd = blk.wd ∧ ∀ b, E.φ id = some b → rowSize E'.w b = rowSize E.w b := by
  have hlt := lt_of_live hl
  have hlt' : id < E'.H.length := h.len id si hlt
  cases hx : E'.H[id]? with
  | none => simp at hx; omega
  | some x =>
    cases x with
    | none => exact .inl rfl
    | some blk' =>
      obtain ⟨blk0, hb, e⟩ := h.live id blk' si hlt hx
      rw [hl] at hb; simp at hb; subst hb
      exact .inr ⟨blk', rfl, e.symm, fun b => h.rowsz id blk' b si hlt hx⟩

theorem Rep.mono (h : Ext S E E') {v : Value} {a : AV} (hr : Rep E v a) : Ref S a → Rep E' v a := by
  induction hr with
  | top v => exact fun _ => .top v
  | int k n => exact fun _ => .int k n
  | bool b => exact fun _ => .bool b
  | str s => exact fun _ => .str s
  | nil => exact fun _ => .nil
  | lit v => exact fun _ => .lit v
  | sl base cap wd xs vs b o hcap hpos hw hcl hbase hlen hcell hrep ih =>
    intro _
    have ih' : ∀ (k : Nat) v a, vs[k]? = some v → (xs.flatMap AV.cells)[k]? = some a → Rep E' v a := fun k v a hk ha => ih k v a hk ha (hcl a (List.mem_of_getElem? ha)).ref
    rcases hbase with rfl | ⟨hb, hm⟩
    · exact .sl base cap wd [] [] b o hcap hpos hw hcl (.inl rfl) rfl (fun k v hk => by simp at hk) (fun k v a hk => by simp at hk)
    · cases xs with
      | nil => exact .sl base cap wd [] [] b o hcap hpos hw hcl (.inl rfl) rfl (fun k v hk => by simp at hk) (fun k v a hk => by simp at hk)
      | cons x xs =>
        have hx : vs ≠ [] := by
          rintro rfl
          have := hw x (by simp)
          simp [List.flatMap_cons] at hlen
          omega
        obtain ⟨v0, vs', rfl⟩ := List.exists_cons_of_ne_nil hx
        have h0 := hcell 0 v0 (by simp)
        have hm' : ¬ E'.Mut b := h.notMut h0.1 hm
        exact .sl base cap wd _ _ b o hcap hpos hw hcl (.inr ⟨hb, hm'⟩) hlen (fun k v hk => ⟨h.cell (hcell k v hk).1 hm, (hcell k v hk).2⟩) ih'
  | mu blk id off len oc b q cap hlive hb hq hlen hsz hoc =>
    intro hs
    cases hs with
    | mu _ _ _ _ si =>
      rcases h.cases_live si hlive with hd | ⟨blk', hl', hwd, hrs⟩
      · exact .dead _ _ id rfl hd rfl
      · exact .mu blk' id off len oc b q cap hl' ((h.phi id si (lt_of_live hlive)).trans hb) (by rw [hwd]; exact hq) hlen (by rw [hwd, hrs b hb]; exact hsz) hoc
  | mu0 blk id off oc hlive hb hoc =>
    intro hs
    cases hs with
    | mu _ _ _ _ si =>
      rcases h.cases_live si hlive with hd | ⟨blk', hl', hwd, hrs⟩
      · exact .dead _ _ id rfl hd rfl
      · exact .mu0 blk' id off oc hl' ((h.phi id si (lt_of_live hlive)).trans hb) hoc
  | loc blk id i off b hlive hb =>
    intro hs
    cases hs with
    | loc _ _ _ si =>
      rcases h.cases_live si hlive with hd | ⟨blk', hl', hwd, hrs⟩
      · exact .dead _ _ id rfl hd rfl
      · rw [← hwd]
        exact .loc blk' id i off b hl' ((h.phi id si (lt_of_live hlive)).trans hb)
  | dead v a id hr hd h1 =>
    intro hs
    have si : S id := by
      cases hs <;> simp [AV.ref] at hr
      · subst hr; assumption
      · subst hr; assumption
    exact .dead v a id hr (h.dead si hd) h1
  | ro x off b o vs hb hpos hcl hlen hcell hrep ih =>
    intro _
    have hx : vs ≠ [] := by
      rintro rfl
      simp at hlen
      omega
    obtain ⟨v0, vs', rfl⟩ := List.exists_cons_of_ne_nil hx
    have h0 := hcell 0 v0 (by simp)
    exact .ro x off b o _ (h.notMut h0.1 hb) hpos hcl hlen (fun k v hk => ⟨h.cell (hcell k v hk).1 hb, (hcell k v hk).2⟩) (fun k v a hk ha => ih k v a hk ha (hcl a (List.mem_of_getElem? ha)).ref)
  | agg vs cs hlen h1 hrep ih =>
    intro hs
    cases hs with
    | agg _ hc => exact .agg vs cs hlen h1 (fun k v a hk ha => ih k v a hk ha (hc a (List.mem_of_getElem? ha)))
  | tup vs cs hlen hrep ih =>
    intro hs
    cases hs with
    | tup _ hc => exact .tup vs cs hlen (fun k v a hk ha => ih k v a hk ha (hc a (List.mem_of_getElem? ha)))
  | fn f vs cs hlen hrep ih =>
    intro hs
    cases hs with
    | fn _ _ hc => exact .fn f vs cs hlen (fun k v a hk ha => ih k v a hk ha (hc a (List.mem_of_getElem? ha)))
  | bfn f vs cs hlen hrep ih =>
    intro hs
    cases hs with
    | bfn _ _ hc => exact .bfn f vs cs hlen (fun k v a hk ha => ih k v a hk ha (hc a (List.mem_of_getElem? ha)))

/-- What is represented names rows that there are. -/
theorem Rep.ref {v : Value} {a : AV} (hr : Rep E v a) : Ref (· < E.H.length) a := by
  induction hr with
  | top v => exact .top
  | int k n => exact .int k n
  | bool b => exact .bool b
  | str s => exact .str s
  | nil => exact .nil
  | lit v => exact .lit v
  | sl base cap wd xs vs b o hcap hpos hw hcl hbase hlen hcell hrep ih => exact .sl wd xs
  | mu blk id off len oc b q cap hlive hb hq hlen hsz hoc => exact .mu _ _ _ _ (lt_of_live hlive)
  | mu0 blk id off oc hlive hb hoc => exact .mu _ _ _ _ (lt_of_live hlive)
  | loc blk id i off b hlive hb => exact .loc _ _ _ (lt_of_live hlive)
  | dead v a id hr hd h1 =>
    cases a <;> simp [AV.ref] at hr
    · subst hr; exact .mu _ _ _ _ (lt_of_live hd)
    · subst hr; exact .loc _ _ _ (lt_of_live hd)
  | ro x off b o vs hb hpos hcl hlen hcell hrep ih => exact .ro x off
  | agg vs cs hlen h1 hrep ih =>
    refine .agg _ fun c hc => ?_
    obtain ⟨k, hk, rfl⟩ := List.getElem_of_mem hc
    exact ih k vs[k] _ (List.getElem?_eq_getElem (by omega)) (List.getElem?_eq_getElem hk)
  | tup vs cs hlen hrep ih =>
    refine .tup _ fun c hc => ?_
    obtain ⟨k, hk, rfl⟩ := List.getElem_of_mem hc
    exact ih k vs[k] _ (List.getElem?_eq_getElem (by omega)) (List.getElem?_eq_getElem hk)
  | fn f vs cs hlen hrep ih =>
    refine .fn _ _ fun c hc => ?_
    obtain ⟨k, hk, rfl⟩ := List.getElem_of_mem hc
    exact ih k vs[k] _ (List.getElem?_eq_getElem (by omega)) (List.getElem?_eq_getElem hk)
  | bfn f vs cs hlen hrep ih =>
    refine .bfn _ _ fun c hc => ?_
    obtain ⟨k, hk, rfl⟩ := List.getElem_of_mem hc
    exact ih k vs[k] _ (List.getElem?_eq_getElem (by omega)) (List.getElem?_eq_getElem hk)

theorem Rep.mono' (h : Ext (· < E.H.length) E E') {v : Value} {a : AV} (hr : Rep E v a) : Rep E' v a := hr.mono h hr.ref
end

/-! ### What becomes of the rows -/
theorem rowSize_of {w : World} {b : Nat} {c : Array Value} {e : TypeId} {f : Nat × Nat} (h : w.heap[b]? = some (.cells c e f)) : rowSize w b = c.size := by simp [rowSize, h]

theorem setRow_other (w : World) (g k : Nat) (cs : Array Value) (h : k ≠ g) : (w.setRow g cs).heap[k]? = w.heap[k]? := by
  simp only [World.setRow, Array.getElem?_modify]
  rw [if_neg (by omega)]
theorem setRow_same (w : World) (g : Nat) (c cs : Array Value) (e : TypeId) (f : Nat × Nat) (h : w.heap[g]? = some (.cells c e f)) : (w.setRow g cs).heap[g]? = some (.cells cs e f) := by
  simp only [World.setRow, Array.getElem?_modify, if_true, h, Option.map_some]

theorem HOk.lt {E : Emb} (h : HOk E) {id : Nat} {blk : Blk} {b : Nat} (hl : E.H[id]? = some (some blk)) (hb : E.φ id = some b) : b < E.w.heap.size := by
  obtain ⟨c, e, r⟩ := h.row id blk b hl hb
  exact (Array.getElem?_eq_some_iff.1 r.heap).1

theorem HOk.refs {E : Emb} (h : HOk E) {id : Nat} {blk : Blk} (hl : E.H[id]? = some (some blk)) : ∀ a ∈ blk.flat, Ref (· < E.H.length) a := by
  intro a ha
  cases hb : E.φ id with
  | none =>
    have := h.emp id blk hl hb
    simp [Blk.flat, this] at ha
  | some b =>
    obtain ⟨c, e, r⟩ := h.row id blk b hl hb
    obtain ⟨k, hk, rfl⟩ := List.getElem_of_mem ha
    have hkc : k < c.size := Nat.lt_of_lt_of_le hk r.fits
    exact (r.rep k c[k] _ (Array.getElem?_eq_getElem hkc) (List.getElem?_eq_getElem hk)).ref

/-- The rows of E', each an old one that was not touched, or one that is told anew. -/
theorem HOk.build {S : Nat → Prop} {E E' : Emb} (h : HOk E) (hx : Ext S E E')
    (hrow : ∀ (id : Nat) blk, E'.H[id]? = some (some blk) → (E.H[id]? = some (some blk) ∧ E'.φ id = E.φ id ∧ (∀ b, E.φ id = some b → E'.w.heap[b]? = E.w.heap[b]?) ∧ ∀ a ∈ blk.flat, Ref S a) ∨
      (0 < blk.wd ∧ (∀ x ∈ blk.xs, x.cells.length = blk.wd) ∧ ((E'.φ id = none ∧ blk.xs = []) ∨ ∃ b c e, E'.φ id = some b ∧ E'.w.heap[b]? = some (.cells c e (0, 0)) ∧ blk.flat.length ≤ c.size ∧
        ∀ (k : Nat) v a, c[k]? = some v → blk.flat[k]? = some a → v.oneCell' = true ∧ Rep E v a ∧ Ref S a)))
    (inj : ∀ (id1 id2 : Nat) b1 b2 b, E'.H[id1]? = some (some b1) → E'.H[id2]? = some (some b2) → E'.φ id1 = some b → E'.φ id2 = some b → id1 = id2) : HOk E' := by
  refine ⟨fun id blk hl => ?_, fun id blk hl => ?_, fun id blk b hl hb => ?_, fun id blk hl hb => ?_, inj⟩
  · rcases hrow id blk hl with ⟨h1, _⟩ | ⟨h1, _⟩
    · exact h.wpos id blk h1
    · exact h1
  · rcases hrow id blk hl with ⟨h1, _⟩ | ⟨_, h1, _⟩
    · exact h.wids id blk h1
    · exact h1
  · rcases hrow id blk hl with ⟨h1, hp, h2, h3⟩ | ⟨_, _, ⟨hn, _⟩ | ⟨b', c, e, hb', h1, h2, h3⟩⟩
    · rw [hp] at hb
      obtain ⟨c, e, r⟩ := h.row id blk b h1 hb
      exact ⟨c, e, (h2 b hb).trans r.heap, r.fits, r.one, fun k v a hk ha => (r.rep k v a hk ha).mono hx (h3 a (List.mem_of_getElem? ha))⟩
    · rw [hn] at hb; simp at hb
    · rw [hb'] at hb; cases hb
      exact ⟨c, e, h1, h2, fun k v hk hv => (h3 k v _ hv (List.getElem?_eq_getElem hk)).1, fun k v a hv ha => (h3 k v a hv ha).2.1.mono hx (h3 k v a hv ha).2.2⟩
  · rcases hrow id blk hl with ⟨h1, hp, h2, h3⟩ | ⟨_, _, ⟨_, hn⟩ | ⟨b', c, e, hb', h1, h2, h3⟩⟩
    · rw [hp] at hb
      exact h.emp id blk h1 hb
    · exact hn
    · rw [hb'] at hb; cases hb

theorem Ext.of_heap {S : Nat → Prop} {E : Emb} {w : World} (os : w.os = E.w.os) (tape : w.tape = E.w.tape) (out : w.output = E.w.output) (size : E.w.heap.size ≤ w.heap.size)
    (keep : ∀ b, b < E.w.heap.size → w.heap[b]? = E.w.heap[b]?) (h : HOk E) : Ext S E ⟨E.φ, E.H, w⟩ := by
  refine ⟨os, tape, out, size, fun _ _ h => h, fun _ _ _ => rfl, fun j blk' _ _ hb => ⟨blk', hb, rfl⟩, ?_, fun b _ hm => hm, fun b hb _ => keep b hb⟩
  intro id blk' b _ _ hb hp
  simp only [rowSize, keep _ (h.lt hb hp)]

theorem HOk.of_heap {E : Emb} {w : World} (os : w.os = E.w.os) (tape : w.tape = E.w.tape) (out : w.output = E.w.output) (size : E.w.heap.size ≤ w.heap.size)
    (keep : ∀ b, b < E.w.heap.size → w.heap[b]? = E.w.heap[b]?) (h : HOk E) : HOk ⟨E.φ, E.H, w⟩ :=
  h.build (Ext.of_heap (S := (· < E.H.length)) os tape out size keep h) (fun id blk hl => .inl ⟨hl, rfl, fun b hb => keep _ (h.lt hl hb), h.refs hl⟩) h.inj

theorem set_get (H : Heap) (id : Nat) (x : Option Blk) (hid : id < H.length) (j : Nat) : (H.set id x)[j]? = if id = j then some x else H[j]? := by
  rw [List.getElem?_set]
  by_cases hj : id = j
  · subst hj; simp [hid]
  · simp [hj]

theorem push_get (H : Heap) (x : Option Blk) (j : Nat) : (H ++ [x])[j]? = if j = H.length then some x else H[j]? := by
  rw [List.getElem?_append]
  split
  · rw [if_neg (by omega)]
  · rcases Nat.lt_or_ge H.length j with hj | hj
    · rw [if_neg (by omega), List.getElem?_eq_none (by simp; omega), List.getElem?_eq_none (by omega)]
    · have : j = H.length := by omega
      subst this; simp

/-- A row is bound to other elements, at its own block. -/
theorem HOk.write {E : Emb} (h : HOk E) {id : Nat} {blk : Blk} {b : Nat} (hl : E.H[id]? = some (some blk)) (hb : E.φ id = some b) {c : Array Value} {e : TypeId} (r : RowOk E b blk c e)
    (c' : Array Value) (xs' : List AV) (hsz : c'.size = c.size) (hw : ∀ x ∈ xs', x.cells.length = blk.wd) (hfit : (xs'.flatMap AV.cells).length ≤ c'.size)
    (hnew : ∀ (k : Nat) v a, c'[k]? = some v → (xs'.flatMap AV.cells)[k]? = some a → v.oneCell' = true ∧ Rep E v a) :
    HOk ⟨E.φ, E.H.set id (some ⟨blk.wd, xs'⟩), E.w.setRow b c'⟩ ∧ Ext (· < E.H.length) E ⟨E.φ, E.H.set id (some ⟨blk.wd, xs'⟩), E.w.setRow b c'⟩ := by
  have hid := lt_of_live hl
  have hget := set_get E.H id (some ⟨blk.wd, xs'⟩) hid
  have hother : ∀ (j : Nat) bj bn, id ≠ j → E.H[j]? = some (some bj) → E.φ j = some bn → (E.w.setRow b c').heap[bn]? = E.w.heap[bn]? := by
    intro j bj bn hj hlj hbj
    exact setRow_other _ _ _ _ (fun he => hj (h.inj _ _ _ _ b hl hlj hb (he ▸ hbj)))
  have hx : Ext (· < E.H.length) E ⟨E.φ, E.H.set id (some ⟨blk.wd, xs'⟩), E.w.setRow b c'⟩ := by
    refine ⟨rfl, rfl, rfl, by simp, by simp, fun _ _ _ => rfl, ?_, ?_, ?_, ?_⟩
    · intro j blk' _ hj hb'
      simp only [hget] at hb'
      by_cases hji : id = j
      · subst hji
        simp at hb'; subst hb'
        exact ⟨blk, hl, rfl⟩
      · simp only [hji, if_false] at hb'; exact ⟨blk', hb', rfl⟩
    · intro j blk' bj _ hj hb' hp
      simp only [hget] at hb'
      by_cases hji : id = j
      · subst hji
        rw [hb] at hp; cases hp
        rw [rowSize_of r.heap, rowSize_of (setRow_same _ _ _ _ _ _ r.heap), hsz]
      · simp only [hji, if_false] at hb'
        simp only [rowSize, hother j blk' bj hji hb' hp]
    · intro b' hb' hm
      obtain ⟨j, blk', hj, hp⟩ := hm
      simp only [hget] at hj
      by_cases hji : id = j
      · subst hji; exact ⟨id, blk, hl, hp⟩
      · simp only [hji, if_false] at hj; exact ⟨j, blk', hj, hp⟩
    · intro b' hb' hm
      exact setRow_other _ _ _ _ (fun he => hm ⟨id, blk, hl, he ▸ hb⟩)
  refine ⟨h.build hx ?_ ?_, hx⟩
  · intro j blk' hj
    simp only [hget] at hj
    by_cases hji : id = j
    · subst hji; simp at hj; subst hj
      exact .inr ⟨h.wpos id blk hl, hw, .inr ⟨b, c', e, hb, setRow_same _ _ _ _ _ _ r.heap, hfit, fun k v a hk ha => ⟨(hnew k v a hk ha).1, (hnew k v a hk ha).2, (hnew k v a hk ha).2.ref⟩⟩⟩
    · simp only [hji, if_false] at hj
      exact .inl ⟨hj, rfl, fun bj hbj => hother j blk' bj hji hj hbj, h.refs hj⟩
  · intro i j b1 b2 bn h1 h2 p1 p2
    simp only [hget] at h1 h2
    have l1 : ∃ b, E.H[i]? = some (some b) := by by_cases q : id = i <;> simp [q] at h1 <;> first | exact ⟨blk, q ▸ hl⟩ | exact ⟨b1, h1⟩
    have l2 : ∃ b, E.H[j]? = some (some b) := by by_cases q : id = j <;> simp [q] at h2 <;> first | exact ⟨blk, q ▸ hl⟩ | exact ⟨b2, h2⟩
    obtain ⟨_, l1⟩ := l1
    obtain ⟨_, l2⟩ := l2
    exact h.inj _ _ _ _ bn l1 l2 p1 p2

/-- A new row: at a new block, or empty at none. -/
theorem HOk.alloc {E : Emb} (h : HOk E) {w : World} (os : w.os = E.w.os) (tape : w.tape = E.w.tape) (out : w.output = E.w.output) (size : E.w.heap.size ≤ w.heap.size) (ob : Option Nat) (hob : ∀ b, ob = some b → E.w.heap.size ≤ b)
    (keep : ∀ b, b < E.w.heap.size → w.heap[b]? = E.w.heap[b]?) (blk : Blk) (hpos : 0 < blk.wd) (hw : ∀ x ∈ blk.xs, x.cells.length = blk.wd)
    (hnew : (ob = none ∧ blk.xs = []) ∨ ∃ b c e, ob = some b ∧ w.heap[b]? = some (.cells c e (0, 0)) ∧ blk.flat.length ≤ c.size ∧
      ∀ (k : Nat) v a, c[k]? = some v → blk.flat[k]? = some a → v.oneCell' = true ∧ Rep E v a) :
    HOk ⟨fun j => if j = E.H.length then ob else E.φ j, E.H ++ [some blk], w⟩ ∧ Ext (· < E.H.length) E ⟨fun j => if j = E.H.length then ob else E.φ j, E.H ++ [some blk], w⟩ := by
  have hx : Ext (· < E.H.length) E ⟨fun j => if j = E.H.length then ob else E.φ j, E.H ++ [some blk], w⟩ := by
    refine ⟨os, tape, out, size, by simp; intros; omega, fun j hj _ => if_neg (by omega), ?_, ?_, ?_, fun b hb _ => keep b hb⟩
    · intro j blk' _ hj hb'
      simp only [push_get] at hb'
      rw [if_neg (by omega)] at hb'
      exact ⟨blk', hb', rfl⟩
    · intro j blk' b _ hj hb' hp
      simp only [push_get] at hb'
      rw [if_neg (by omega)] at hb'
      simp only [rowSize, keep _ (h.lt hb' hp)]
    · intro b' hb' ⟨j, blk', hj, e'⟩
      simp only [push_get] at hj
      by_cases hjn : j = E.H.length
      · simp only [hjn, if_true] at e'
        have := hob b' e'; omega
      · simp only [hjn, if_false] at hj e'; exact ⟨j, blk', hj, e'⟩
  refine ⟨h.build hx ?_ ?_, hx⟩
  · intro j blk' hj
    simp only [push_get] at hj
    by_cases hjn : j = E.H.length
    · simp only [hjn, if_true, Option.some.injEq] at hj
      subst hj
      refine .inr ⟨hpos, hw, ?_⟩
      simp only [hjn, if_true]
      rcases hnew with hn | ⟨b, c, e, h1, h2, h3, h4⟩
      · exact .inl hn
      · exact .inr ⟨b, c, e, h1, h2, h3, fun k v a hk ha => ⟨(h4 k v a hk ha).1, (h4 k v a hk ha).2, (h4 k v a hk ha).2.ref⟩⟩
    · simp only [hjn, if_false] at hj
      exact .inl ⟨hj, by simp only [hjn, if_false], fun b hb => keep _ (h.lt hj hb), h.refs hj⟩
  · intro i j b1 b2 bn h1 h2 p1 p2
    simp only [push_get] at h1 h2
    by_cases hi : i = E.H.length <;> by_cases hj : j = E.H.length
    · omega
    · simp only [hi, hj, if_true, if_false] at h2 p1 p2
      have := h.lt h2 p2; have := hob _ p1; omega
    · simp only [hi, hj, if_true, if_false] at h1 p1 p2
      have := h.lt h1 p1; have := hob _ p2; omega
    · simp only [hi, hj, if_false] at h1 h2 p1 p2
      exact h.inj _ _ _ _ bn h1 h2 p1 p2

/-- A row of the call's own is bound anew, to its own block or to a new one; nothing else names it. -/
theorem HOk.rebind {E : Emb} (h : HOk E) {w : World} (os : w.os = E.w.os) (tape : w.tape = E.w.tape) (out : w.output = E.w.output) (size : E.w.heap.size ≤ w.heap.size)
    {id : Nat} {blk : Blk} (hl : E.H[id]? = some (some blk)) (b : Nat) (hb : E.φ id = some b ∨ E.w.heap.size ≤ b)
    (keep : ∀ b, b < E.w.heap.size → E.φ id ≠ some b → w.heap[b]? = E.w.heap[b]?) (xs' : List AV) (hw : ∀ x ∈ xs', x.cells.length = blk.wd) {c : Array Value} {e : TypeId}
    (hh : w.heap[b]? = some (.cells c e (0, 0))) (hfit : (xs'.flatMap AV.cells).length ≤ c.size)
    (hfree : ∀ (j : Nat) bj, j ≠ id → E.H[j]? = some (some bj) → ∀ a ∈ bj.flat, Ref (· ≠ id) a)
    (hnew : ∀ (k : Nat) v a, c[k]? = some v → (xs'.flatMap AV.cells)[k]? = some a → v.oneCell' = true ∧ Rep E v a ∧ Ref (· ≠ id) a) :
    HOk ⟨fun j => if j = id then some b else E.φ j, E.H.set id (some ⟨blk.wd, xs'⟩), w⟩ ∧ Ext (· ≠ id) E ⟨fun j => if j = id then some b else E.φ j, E.H.set id (some ⟨blk.wd, xs'⟩), w⟩ := by
  have hid := lt_of_live hl
  have hget := set_get E.H id (some ⟨blk.wd, xs'⟩) hid
  have hother : ∀ (j : Nat) bj bn, j ≠ id → E.H[j]? = some (some bj) → E.φ j = some bn → w.heap[bn]? = E.w.heap[bn]? := fun j bj bn hj hlj hp =>
    keep _ (h.lt hlj hp) (fun he => hj (h.inj _ _ _ _ bn hlj hl hp he))
  have hx : Ext (· ≠ id) E ⟨fun j => if j = id then some b else E.φ j, E.H.set id (some ⟨blk.wd, xs'⟩), w⟩ := by
    refine ⟨os, tape, out, size, by simp, fun j hj _ => if_neg hj, ?_, ?_, ?_, ?_⟩
    · intro j blk' hj _ hb'
      simp only [hget] at hb'
      rw [if_neg (fun he => hj he.symm)] at hb'
      exact ⟨blk', hb', rfl⟩
    · intro j blk' bn hj _ hb' hp
      simp only [hget] at hb'
      rw [if_neg (fun he => hj he.symm)] at hb'
      simp only [rowSize, hother j blk' bn hj hb' hp]
    · intro b' hb' ⟨j, blk', hj, e'⟩
      by_cases hji : j = id
      · simp only [hji, if_true, Option.some.injEq] at e'
        rcases hb with hb | hb
        · exact ⟨id, blk, hl, by rw [← e', hb]⟩
        · omega
      · simp only [hget, hji, if_false] at hj e'
        rw [if_neg (fun he => hji he.symm)] at hj
        exact ⟨j, blk', hj, e'⟩
    · intro b' hb' hm
      exact keep b' hb' (fun he => hm ⟨id, blk, hl, he⟩)
  refine ⟨h.build hx ?_ ?_, hx⟩
  · intro j blk' hj
    by_cases hji : j = id
    · subst hji
      simp only [hget, if_true, Option.some.injEq] at hj
      subst hj
      exact .inr ⟨h.wpos _ blk hl, hw, .inr ⟨b, c, e, by simp, hh, hfit, hnew⟩⟩
    · simp only [hget] at hj
      rw [if_neg (fun he => hji he.symm)] at hj
      exact .inl ⟨hj, by simp only [hji, if_false], fun bn hp => hother j blk' bn hji hj hp, hfree j blk' hji hj⟩
  · intro i j b1 b2 bn h1 h2 p1 p2
    simp only [hget] at h1 h2
    by_cases hi : i = id <;> by_cases hj : j = id
    · omega
    · rw [if_neg (fun he => hj he.symm)] at h2
      simp only [hi, hj, if_true, if_false, Option.some.injEq] at p1 p2
      rcases hb with hb | hb
      · exact absurd (h.inj _ _ _ _ bn hl h2 (p1 ▸ hb) p2) (fun he => hj he.symm)
      · have := h.lt h2 p2; omega
    · rw [if_neg (fun he => hi he.symm)] at h1
      simp only [hi, hj, if_true, if_false, Option.some.injEq] at p1 p2
      rcases hb with hb | hb
      · exact absurd (h.inj _ _ _ _ bn h1 hl p1 (p2 ▸ hb)) hi
      · have := h.lt h1 p1; omega
    · rw [if_neg (fun he => hi he.symm)] at h1
      rw [if_neg (fun he => hj he.symm)] at h2
      simp only [hi, hj, if_false] at p1 p2
      exact h.inj _ _ _ _ bn h1 h2 p1 p2

/-- A row is no longer written: it stays as it lies. -/
theorem HOk.kill {E : Emb} (h : HOk E) (id : Nat) : HOk ⟨E.φ, E.H.set id none, E.w⟩ ∧ Ext (· < E.H.length) E ⟨E.φ, E.H.set id none, E.w⟩ := by
  have hget : ∀ (j : Nat) blk, (E.H.set id none)[j]? = some (some blk) → E.H[j]? = some (some blk) := by
    intro j blk hj
    rw [List.getElem?_set] at hj
    by_cases hji : id = j
    · simp only [hji, if_true] at hj; split at hj <;> simp at hj
    · simpa [hji] using hj
  have hx : Ext (· < E.H.length) E ⟨E.φ, E.H.set id none, E.w⟩ :=
    ⟨rfl, rfl, rfl, Nat.le_refl _, by simp, fun _ _ _ => rfl, fun j blk' _ _ hb => ⟨blk', hget j blk' hb, rfl⟩, fun _ _ _ _ _ _ _ => rfl,
      fun b _ ⟨j, blk', hj, e⟩ => ⟨j, blk', hget j blk' hj, e⟩, fun _ _ _ => rfl⟩
  exact ⟨h.build hx (fun j b hj => .inl ⟨hget j b hj, rfl, fun _ _ => rfl, h.refs (hget j b hj)⟩) (fun i j b1 b2 b h1 h2 => h.inj i j b1 b2 b (hget _ _ h1) (hget _ _ h2)), hx⟩

/-- The last rows are forgotten; no other names them. -/
theorem HOk.cut {E : Emb} (h : HOk E) (m : Nat) (hfree : ∀ (j : Nat) bj, j < m → E.H[j]? = some (some bj) → ∀ a ∈ bj.flat, Ref (· < m) a) :
    HOk ⟨E.φ, E.H.take m, E.w⟩ ∧ Ext (· < m) E ⟨E.φ, E.H.take m, E.w⟩ := by
  have hget : ∀ (j : Nat) x, (E.H.take m)[j]? = some x → j < m ∧ E.H[j]? = some x := by
    intro j x hj
    rw [List.getElem?_take] at hj
    split at hj
    · exact ⟨by omega, hj⟩
    · simp at hj
  have hx : Ext (· < m) E ⟨E.φ, E.H.take m, E.w⟩ :=
    ⟨rfl, rfl, rfl, Nat.le_refl _, fun i hi hl => by simp; omega, fun _ _ _ => rfl, fun j blk' _ _ hb => ⟨blk', (hget j _ hb).2, rfl⟩, fun _ _ _ _ _ _ _ => rfl,
      fun b _ ⟨j, blk', hj, e⟩ => ⟨j, blk', (hget j _ hj).2, e⟩, fun _ _ _ => rfl⟩
  exact ⟨h.build hx (fun j b hj => .inl ⟨(hget j _ hj).2, rfl, fun _ _ => rfl, hfree j b (hget j _ hj).1 (hget j _ hj).2⟩) (fun i j b1 b2 b h1 h2 => h.inj i j b1 b2 b (hget _ _ h1).2 (hget _ _ h2).2), hx⟩

end Go.Abs

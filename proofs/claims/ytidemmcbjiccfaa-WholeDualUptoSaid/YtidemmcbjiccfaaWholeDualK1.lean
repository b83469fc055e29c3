/- Part 1 of the proof of WholeDual: A1, A2, A3, A4, A5, A6, A7. -/
import Derived.WalkKit
import Derived.Laws.CopyOwn
import Derived.Orders
import Derived.Laws.BytesArg
import Derived.Deep.AppendSrc
import Derived.Laws.MakeOwn
set_option linter.unusedVariables false
set_option linter.unusedSimpArgs false
namespace Go.Abs
inductive AV where
 | top
 | int (k : IntKind) (n : Int)
 | bool (b : Bool)
 | str (s : ByteArray)
 | nil
 | lit (v : Value)
 | sl (wd : Nat) (xs : List AV)
 | mu (id off len : Nat) (cap : Option Nat)
 | loc (id i off : Nat)
 | ro (x : AV) (off : Nat)
 | agg (cs : List AV)
 | tup (vs : List AV)
 | fn (f : FuncId) (caps : List AV)
 | bfn (f : FuncId) (bs : List AV)
 | mp (k : Bool) (id : Nat)
 | mo (l : List (Int × Int))
 | io (id n : Nat) (seen : List Nat)
 deriving Inhabited
def AV.cells : AV → List AV
 | .agg cs => cs
 | .mo _ | .io .. => []
 | a => [a]
structure Blk where
 wd : Nat
 xs : List AV
def Blk.flat (b : Blk) : List AV := b.xs.flatMap AV.cells
abbrev Heap := List (Option Blk)
structure Emb where
 φ : Nat → Option Nat
 H : Heap
 w : World
def Emb.Mut (E : Emb) (b : Nat) : Prop := ∃ id blk, E.H[id]? = some (some blk) ∧ E.φ id = some b
def a1w (w : World) (b : Nat) : Nat :=
 match w.heap[b]? with
 | some (.cells c _ _) => c.size
 | _ => 0
def AV.ref : AV → Option Nat
 | .mu id .. => some id
 | .loc id .. => some id
 | .mp _ id => some id
 | _ => none
inductive Cl : AV → Prop where
 | top : Cl .top
 | int (k : IntKind) (n : Int) : Cl (.int k n)
 | bool (b : Bool) : Cl (.bool b)
 | str (s : ByteArray) : Cl (.str s)
 | nil : Cl .nil
 | lit (v : Value) : Cl (.lit v)
 | sl (wd : Nat) (xs : List AV) (h : ∀ c ∈ xs.flatMap AV.cells, Cl c) : Cl (.sl wd xs)
 | ro (x : AV) (off : Nat) (h : ∀ c ∈ x.cells, Cl c) : Cl (.ro x off)
 | agg (cs : List AV) (h : ∀ c ∈ cs, Cl c) : Cl (.agg cs)
 | tup (cs : List AV) (h : ∀ c ∈ cs, Cl c) : Cl (.tup cs)
 | fn (f : FuncId) (cs : List AV) (h : ∀ c ∈ cs, Cl c) : Cl (.fn f cs)
 | bfn (f : FuncId) (cs : List AV) (h : ∀ c ∈ cs, Cl c) : Cl (.bfn f cs)
inductive Ref (S : Nat → Prop) : AV → Prop where
 | top : Ref S .top
 | int (k : IntKind) (n : Int) : Ref S (.int k n)
 | bool (b : Bool) : Ref S (.bool b)
 | str (s : ByteArray) : Ref S (.str s)
 | nil : Ref S .nil
 | lit (v : Value) : Ref S (.lit v)
 | sl (wd : Nat) (xs : List AV) : Ref S (.sl wd xs)
 | ro (x : AV) (off : Nat) : Ref S (.ro x off)
 | mu (id off len : Nat) (oc : Option Nat) (h : S id) : Ref S (.mu id off len oc)
 | loc (id i off : Nat) (h : S id) : Ref S (.loc id i off)
 | mp (k : Bool) (id : Nat) (h : S id) : Ref S (.mp k id)
 | mo (l : List (Int × Int)) : Ref S (.mo l)
 | io (id n : Nat) (seen : List Nat) : Ref S (.io id n seen)
 | agg (cs : List AV) (h : ∀ c ∈ cs, Ref S c) : Ref S (.agg cs)
 | tup (cs : List AV) (h : ∀ c ∈ cs, Ref S c) : Ref S (.tup cs)
 | fn (f : FuncId) (cs : List AV) (h : ∀ c ∈ cs, Ref S c) : Ref S (.fn f cs)
 | bfn (f : FuncId) (cs : List AV) (h : ∀ c ∈ cs, Ref S c) : Ref S (.bfn f cs)
theorem Cl.ref {S : Nat → Prop} {a : AV} (h : Cl a) : Ref S a := by
 induction h with
 | top => exact .top
 | int k n => exact .int k n
 | bool b => exact .bool b
 | str s => exact .str s
 | nil => exact .nil
 | lit v => exact .lit v
 | sl wd xs h ih => exact .sl wd xs
 | ro x off h ih => exact .ro x off
 | agg cs h ih => exact .agg cs ih
 | tup cs h ih => exact .tup cs ih
 | fn f cs h ih => exact .fn f cs ih
 | bfn f cs h ih => exact .bfn f cs ih
theorem Ref.mono {S T : Nat → Prop} (h : ∀ i, S i → T i) {a : AV} (r : Ref S a) : Ref T a := by
 induction r with
 | top => exact .top
 | int k n => exact .int k n
 | bool b => exact .bool b
 | str s => exact .str s
 | nil => exact .nil
 | lit v => exact .lit v
 | sl wd xs => exact .sl wd xs
 | ro x off => exact .ro x off
 | mu id off len oc hs => exact .mu id off len oc (h _ hs)
 | loc id i off hs => exact .loc id i off (h _ hs)
 | mp k id hs => exact .mp k id (h _ hs)
 | mo l => exact .mo l
 | io id n seen => exact .io id n seen
 | agg cs h ih => exact .agg cs ih
 | tup cs h ih => exact .tup cs ih
 | fn f cs h ih => exact .fn f cs ih
 | bfn f cs h ih => exact .bfn f cs ih
def f1t : Bool → Nat → Value
 | true, b => .map (some b)
 | false, b => .pointer (some ⟨b, 0, none⟩)
inductive Rep (E : Emb) : Value → AV → Prop where
 | top (v : Value) : Rep E v .top
 | int (k : IntKind) (n : Int) : Rep E (.int k n) (.int k n)
 | bool (b : Bool) : Rep E (.bool b) (.bool b)
 | str (s : ByteArray) : Rep E (.string s) (.str s)
 | nil : Rep E (.slice none 0 0) .nil
 | lit (v : Value) : Rep E v (.lit v)
 | sl (base : Option Addr) (cap wd : Nat) (xs : List AV) (vs : List Value) (b o : Nat) (hcap : xs.length ≤ cap) (hpos : 0 < wd) (hw : ∀ x ∈ xs, x.cells.length = wd) (hcl : ∀ c ∈ xs.flatMap AV.cells, Cl c)
   (hbase : xs = [] ∨ (base = some ⟨b, o, none⟩ ∧ ¬ E.Mut b)) (hlen : vs.length = (xs.flatMap AV.cells).length)
   (hcell : ∀ (k : Nat) v, vs[k]? = some v → E.w.cell? ⟨b, o + k, none⟩ = some v ∧ v.oneCell' = true)
   (hrep : ∀ (k : Nat) v a, vs[k]? = some v → (xs.flatMap AV.cells)[k]? = some a → Rep E v a) : Rep E (.slice base xs.length cap) (.sl wd xs)
 | mu (blk : Blk) (id off len : Nat) (oc : Option Nat) (b q cap : Nat) (hlive : E.H[id]? = some (some blk)) (hb : E.φ id = some b) (hq : q = off * blk.wd ∨ (len = 0 ∧ cap = 0))
   (hlen : len ≤ cap) (hsz : (off + cap) * blk.wd ≤ a1w E.w b) (hoc : ∀ c, oc = some c → cap = c) :
   Rep E (.slice (some ⟨b, q, none⟩) len cap) (.mu id off len oc)
 | mu0 (blk : Blk) (id off : Nat) (oc : Option Nat) (hlive : E.H[id]? = some (some blk)) (hb : E.φ id = none) (hoc : ∀ c, oc = some c → 0 = c) :
   Rep E (.slice none 0 0) (.mu id off 0 oc)
 | loc (blk : Blk) (id i off b : Nat) (hlive : E.H[id]? = some (some blk)) (hb : E.φ id = some b) : Rep E (.pointer (some ⟨b, i * blk.wd + off, none⟩)) (.loc id i off)
 | mp (blk : Blk) (k : Bool) (id b : Nat) (hlive : E.H[id]? = some (some blk)) (hb : E.φ id = some b) (hw : blk.wd = 0) : Rep E (f1t k b) (.mp k id)
 | dead (v : Value) (a : AV) (id : Nat) (hr : a.ref = some id) (hd : E.H[id]? = some none) (h1 : v.oneCell' = true) : Rep E v a
 | ro (x : AV) (off b o : Nat) (vs : List Value) (hb : ¬ E.Mut b) (hpos : 0 < x.cells.length) (hcl : ∀ c ∈ x.cells, Cl c) (hlen : vs.length = x.cells.length)
   (hcell : ∀ (k : Nat) v, vs[k]? = some v → E.w.cell? ⟨b, o + k, none⟩ = some v ∧ v.oneCell' = true)
   (hrep : ∀ (k : Nat) v a, vs[k]? = some v → x.cells[k]? = some a → Rep E v a) : Rep E (.pointer (some ⟨b, o + off, none⟩)) (.ro x off)
 | agg (vs : List Value) (cs : List AV) (hlen : vs.length = cs.length) (h1 : ∀ v ∈ vs, v.oneCell' = true)
   (hrep : ∀ (k : Nat) v a, vs[k]? = some v → cs[k]? = some a → Rep E v a) : Rep E (.agg vs.toArray) (.agg cs)
 | tup (vs : List Value) (cs : List AV) (hlen : vs.length = cs.length)
   (hrep : ∀ (k : Nat) v a, vs[k]? = some v → cs[k]? = some a → Rep E v a) : Rep E (.tuple vs.toArray) (.tup cs)
 | fn (f : FuncId) (vs : List Value) (cs : List AV) (hlen : vs.length = cs.length)
   (hrep : ∀ (k : Nat) v a, vs[k]? = some v → cs[k]? = some a → Rep E v a) : Rep E (.func (.func f) #[] vs.toArray) (.fn f cs)
 | bfn (f : FuncId) (vs : List Value) (cs : List AV) (hlen : vs.length = cs.length)
   (hrep : ∀ (k : Nat) v a, vs[k]? = some v → cs[k]? = some a → Rep E v a) : Rep E (.func (.func f) vs.toArray #[]) (.bfn f cs)
structure Ext (S : Nat → Prop) (E E' : Emb) : Prop where
 os : E'.w.os = E.w.os
 tape : E'.w.tape = E.w.tape
 output : E'.w.output = E.w.output
 size : E.w.heap.size ≤ E'.w.heap.size
 len : ∀ id, S id → id < E.H.length → id < E'.H.length
 phi : ∀ id, S id → id < E.H.length → E'.φ id = E.φ id
 live : ∀ id blk', S id → id < E.H.length → E'.H[id]? = some (some blk') → ∃ blk, E.H[id]? = some (some blk) ∧ blk.wd = blk'.wd
 rowsz : ∀ id blk' b, S id → id < E.H.length → E'.H[id]? = some (some blk') → E.φ id = some b → a1w E'.w b = a1w E.w b
 muts : ∀ b, b < E.w.heap.size → E'.Mut b → E.Mut b
 keep : ∀ b, b < E.w.heap.size → ¬ E.Mut b → E'.w.heap[b]? = E.w.heap[b]?
def All : Nat → Prop := fun _ => True
structure RowOk (E : Emb) (b : Nat) (blk : Blk) (c : Array Value) (e : TypeId) : Prop where
 heap : 0 < blk.wd → E.w.heap[b]? = some (.cells c e (0, 0))
 fits : blk.flat.length ≤ c.size
 one : ∀ (k : Nat) v, k < blk.flat.length → c[k]? = some v → v.oneCell' = true
 rep : ∀ (k : Nat) v a, c[k]? = some v → blk.flat[k]? = some a → Rep E v a
def mapE : Nat → List (Int × Int) → List MapEntry
 | _, [] => []
 | i, p :: L => { key := .int .i64 p.1, val := .int .i64 p.2, born := i } :: mapE (i + 1) L
def a6o (L : List (Int × Int)) : Array MapEntry := (mapE 0 L).toArray
def e4Z (E : Emb) (id b : Nat) (xs : List AV) : Prop :=
 (∃ L, xs = [.mo L] ∧ E.w.heap[b]? = some (.map (a6o L) L.length)) ∨
 (∃ mid n seen m, xs = [.io mid n seen] ∧ E.w.heap[b]? = some (.mapIter (some m) n seen.toArray n) ∧ mid < id ∧ ∀ blk, E.H[mid]? = some (some blk) → blk.wd = 0 ∧ E.φ mid = some m)
structure HOk (E : Emb) : Prop where
 obj : ∀ (id : Nat) blk b, E.H[id]? = some (some blk) → blk.wd = 0 → E.φ id = some b → e4Z E id b blk.xs
 wids : ∀ (id : Nat) blk, E.H[id]? = some (some blk) → ∀ x ∈ blk.xs, x.cells.length = blk.wd
 row : ∀ (id : Nat) blk b, E.H[id]? = some (some blk) → E.φ id = some b → ∃ c e, RowOk E b blk c e
 emp : ∀ (id : Nat) blk, E.H[id]? = some (some blk) → E.φ id = none → blk.xs = []
 inj : ∀ (id1 id2 : Nat) b1 b2 b, E.H[id1]? = some (some b1) → E.H[id2]? = some (some b2) → E.φ id1 = some b → E.φ id2 = some b → id1 = id2
theorem Ext.refl (S : Nat → Prop) (E : Emb) : Ext S E E :=
 ⟨rfl, rfl, rfl, Nat.le_refl _, fun _ _ h => h, fun _ _ _ => rfl, fun id blk' _ _ h => ⟨blk', h, rfl⟩, fun _ _ _ _ _ _ _ => rfl, fun _ _ h => h, fun _ _ _ => rfl⟩
theorem Ext.sub {S T : Nat → Prop} {E E' : Emb} (h : Ext S E E') (hs : ∀ i, T i → S i) : Ext T E E' :=
 ⟨h.os, h.tape, h.output, h.size, fun i hi => h.len i (hs i hi), fun i hi => h.phi i (hs i hi), fun i b hi => h.live i b (hs i hi), fun i b b' hi => h.rowsz i b b' (hs i hi), h.muts, h.keep⟩
theorem Ext.trans {S : Nat → Prop} {A B C : Emb} (h : Ext S A B) (k : Ext S B C) : Ext S A C := by
 refine ⟨k.os.trans h.os, k.tape.trans h.tape, k.output.trans h.output, Nat.le_trans h.size k.size, fun i si hi => k.len i si (h.len i si hi), ?_, ?_, ?_, ?_, ?_⟩
 ·intro id si hi; rw [k.phi id si (h.len id si hi), h.phi id si hi]
 ·intro id blk' si hi hb
  obtain ⟨blk1, h1, e1⟩ := k.live id blk' si (h.len id si hi) hb
  obtain ⟨blk0, h0, e0⟩ := h.live id blk1 si hi h1
  exact ⟨blk0, h0, e0.trans e1⟩
 ·intro id blk' b si hi hb hp
  obtain ⟨blk1, h1, e1⟩ := k.live id blk' si (h.len id si hi) hb
  rw [k.rowsz id blk' b si (h.len id si hi) hb (by rw [h.phi id si hi]; exact hp), h.rowsz id blk1 b si hi h1 hp]
 ·intro b hb hm; exact h.muts b hb (k.muts b (Nat.lt_of_lt_of_le hb h.size) hm)
 ·intro b hb hm
  rw [k.keep b (Nat.lt_of_lt_of_le hb h.size) (fun hm' => hm (h.muts b hb hm')), h.keep b hb hm]
section
variable {S : Nat → Prop} {E E' : Emb}
theorem Ext.cell (h : Ext S E E') {a : Addr} {v : Value} (hc : E.w.cell? a = some v) (hm : ¬ E.Mut a.block) : E'.w.cell? a = some v := by
 have hlt := World.block_lt_of_cell? E.w a hc
 rw [← hc]
 exact World.cell?_of_block (h.keep a.block hlt hm)
theorem Ext.notMut (h : Ext S E E') {a : Addr} {v : Value} (hc : E.w.cell? a = some v) (hm : ¬ E.Mut a.block) : ¬ E'.Mut a.block :=
 fun hm' => hm (h.muts _ (World.block_lt_of_cell? E.w a hc) hm')
theorem a0o {H : Heap} {id : Nat} {x : Option Blk} (h : H[id]? = some x) : id < H.length := by
 rcases Nat.lt_or_ge id H.length with h' | h'
 ·exact h'
 ·simp [List.getElem?_eq_none h'] at h
theorem Ext.dead (h : Ext S E E') {id : Nat} (si : S id) (hd : E.H[id]? = some none) : E'.H[id]? = some none := by
 have hlt := a0o hd
 have hlt' : id < E'.H.length := h.len id si hlt
 cases hx : E'.H[id]? with
 | none => simp at hx; omega
 | some x =>
  cases x with
  | none => rfl
  | some blk' =>
   obtain ⟨blk, hb, _⟩ := h.live id blk' si hlt hx
   rw [hd] at hb; simp at hb
theorem Ext.cases_live (h : Ext S E E') {id : Nat} (si : S id) {blk : Blk} (hl : E.H[id]? = some (some blk)) :
  E'.H[id]? = some none ∨ ∃ blk', E'.H[id]? = some (some blk') ∧ blk'.wd = blk.wd ∧ ∀ b, E.φ id = some b → a1w E'.w b = a1w E.w b := by
 have hlt := a0o hl
 have hlt' : id < E'.H.length := h.len id si hlt
 cases hx : E'.H[id]? with
 | none => simp at hx; omega
 | some x =>
  cases x with
  | none => exact .inl rfl
  | some blk' =>
   obtain ⟨blk0, hb, e⟩ := h.live id blk' si hlt hx
   rw [hl] at hb; simp at hb; subst hb
   exact .inr ⟨blk', rfl, e.symm, fun b => h.rowsz id blk' b si hlt hx⟩
theorem Rep.mono (h : Ext S E E') {v : Value} {a : AV} (hr : Rep E v a) : Ref S a → Rep E' v a := by
 induction hr with
 | top v => exact fun _ => .top v
 | int k n => exact fun _ => .int k n
 | bool b => exact fun _ => .bool b
 | str s => exact fun _ => .str s
 | nil => exact fun _ => .nil
 | lit v => exact fun _ => .lit v
 | sl base cap wd xs vs b o hcap hpos hw hcl hbase hlen hcell hrep ih =>
  intro _
  have ih' : ∀ (k : Nat) v a, vs[k]? = some v → (xs.flatMap AV.cells)[k]? = some a → Rep E' v a := fun k v a hk ha => ih k v a hk ha (hcl a (List.mem_of_getElem? ha)).ref
  rcases hbase with rfl | ⟨hb, hm⟩
  ·exact .sl base cap wd [] [] b o hcap hpos hw hcl (.inl rfl) rfl (fun k v hk => by simp at hk) (fun k v a hk => by simp at hk)
  ·cases xs with
   | nil => exact .sl base cap wd [] [] b o hcap hpos hw hcl (.inl rfl) rfl (fun k v hk => by simp at hk) (fun k v a hk => by simp at hk)
   | cons x xs =>
    have hx : vs ≠ [] := by
     rintro rfl
     have := hw x (by simp)
     simp [List.flatMap_cons] at hlen
     omega
    obtain ⟨v0, vs', rfl⟩ := List.exists_cons_of_ne_nil hx
    have h0 := hcell 0 v0 (by simp)
    have hm' : ¬ E'.Mut b := h.notMut h0.1 hm
    exact .sl base cap wd _ _ b o hcap hpos hw hcl (.inr ⟨hb, hm'⟩) hlen (fun k v hk => ⟨h.cell (hcell k v hk).1 hm, (hcell k v hk).2⟩) ih'
 | mu blk id off len oc b q cap hlive hb hq hlen hsz hoc =>
  intro hs
  cases hs with
  | mu _ _ _ _ si =>
   rcases h.cases_live si hlive with hd | ⟨blk', hl', hwd, hrs⟩
   ·exact .dead _ _ id rfl hd rfl
   ·exact .mu blk' id off len oc b q cap hl' ((h.phi id si (a0o hlive)).trans hb) (by rw [hwd]; exact hq) hlen (by rw [hwd, hrs b hb]; exact hsz) hoc
 | mu0 blk id off oc hlive hb hoc =>
  intro hs
  cases hs with
  | mu _ _ _ _ si =>
   rcases h.cases_live si hlive with hd | ⟨blk', hl', hwd, hrs⟩
   ·exact .dead _ _ id rfl hd rfl
   ·exact .mu0 blk' id off oc hl' ((h.phi id si (a0o hlive)).trans hb) hoc
 | loc blk id i off b hlive hb =>
  intro hs
  cases hs with
  | loc _ _ _ si =>
   rcases h.cases_live si hlive with hd | ⟨blk', hl', hwd, hrs⟩
   ·exact .dead _ _ id rfl hd rfl
   ·rw [← hwd]
    exact .loc blk' id i off b hl' ((h.phi id si (a0o hlive)).trans hb)
 | mp blk k id b hlive hb hw =>
  intro hs
  cases hs with
  | mp _ _ si =>
   rcases h.cases_live si hlive with hd | ⟨blk', hl', hwd, hrs⟩
   ·exact .dead _ _ id rfl hd (by cases k <;> rfl)
   ·exact .mp blk' k id b hl' ((h.phi id si (a0o hlive)).trans hb) (hwd.trans hw)
 | dead v a id hr hd h1 =>
  intro hs
  have si : S id := by
   cases hs <;> simp [AV.ref] at hr
   ·subst hr; assumption
   ·subst hr; assumption
   ·subst hr; assumption
  exact .dead v a id hr (h.dead si hd) h1
 | ro x off b o vs hb hpos hcl hlen hcell hrep ih =>
  intro _
  have hx : vs ≠ [] := by
   rintro rfl
   simp at hlen
   omega
  obtain ⟨v0, vs', rfl⟩ := List.exists_cons_of_ne_nil hx
  have h0 := hcell 0 v0 (by simp)
  exact .ro x off b o _ (h.notMut h0.1 hb) hpos hcl hlen (fun k v hk => ⟨h.cell (hcell k v hk).1 hb, (hcell k v hk).2⟩) (fun k v a hk ha => ih k v a hk ha (hcl a (List.mem_of_getElem? ha)).ref)
 | agg vs cs hlen h1 hrep ih =>
  intro hs
  cases hs with
  | agg _ hc => exact .agg vs cs hlen h1 (fun k v a hk ha => ih k v a hk ha (hc a (List.mem_of_getElem? ha)))
 | tup vs cs hlen hrep ih =>
  intro hs
  cases hs with
  | tup _ hc => exact .tup vs cs hlen (fun k v a hk ha => ih k v a hk ha (hc a (List.mem_of_getElem? ha)))
 | fn f vs cs hlen hrep ih =>
  intro hs
  cases hs with
  | fn _ _ hc => exact .fn f vs cs hlen (fun k v a hk ha => ih k v a hk ha (hc a (List.mem_of_getElem? ha)))
 | bfn f vs cs hlen hrep ih =>
  intro hs
  cases hs with
  | bfn _ _ hc => exact .bfn f vs cs hlen (fun k v a hk ha => ih k v a hk ha (hc a (List.mem_of_getElem? ha)))
theorem Rep.ref {v : Value} {a : AV} (hr : Rep E v a) : Ref (· < E.H.length) a := by
 induction hr with
 | top v => exact .top
 | int k n => exact .int k n
 | bool b => exact .bool b
 | str s => exact .str s
 | nil => exact .nil
 | lit v => exact .lit v
 | sl base cap wd xs vs b o hcap hpos hw hcl hbase hlen hcell hrep ih => exact .sl wd xs
 | mu blk id off len oc b q cap hlive hb hq hlen hsz hoc => exact .mu _ _ _ _ (a0o hlive)
 | mu0 blk id off oc hlive hb hoc => exact .mu _ _ _ _ (a0o hlive)
 | loc blk id i off b hlive hb => exact .loc _ _ _ (a0o hlive)
 | mp blk k id b hlive hb hw => exact .mp _ _ (a0o hlive)
 | dead v a id hr hd h1 =>
  cases a <;> simp [AV.ref] at hr
  ·subst hr; exact .mu _ _ _ _ (a0o hd)
  ·subst hr; exact .loc _ _ _ (a0o hd)
  ·subst hr; exact .mp _ _ (a0o hd)
 | ro x off b o vs hb hpos hcl hlen hcell hrep ih => exact .ro x off
 | agg vs cs hlen h1 hrep ih =>
  refine .agg _ fun c hc => ?_
  obtain ⟨k, hk, rfl⟩ := List.getElem_of_mem hc
  exact ih k vs[k] _ (List.getElem?_eq_getElem (by omega)) (List.getElem?_eq_getElem hk)
 | tup vs cs hlen hrep ih =>
  refine .tup _ fun c hc => ?_
  obtain ⟨k, hk, rfl⟩ := List.getElem_of_mem hc
  exact ih k vs[k] _ (List.getElem?_eq_getElem (by omega)) (List.getElem?_eq_getElem hk)
 | fn f vs cs hlen hrep ih =>
  refine .fn _ _ fun c hc => ?_
  obtain ⟨k, hk, rfl⟩ := List.getElem_of_mem hc
  exact ih k vs[k] _ (List.getElem?_eq_getElem (by omega)) (List.getElem?_eq_getElem hk)
 | bfn f vs cs hlen hrep ih =>
  refine .bfn _ _ fun c hc => ?_
  obtain ⟨k, hk, rfl⟩ := List.getElem_of_mem hc
  exact ih k vs[k] _ (List.getElem?_eq_getElem (by omega)) (List.getElem?_eq_getElem hk)
theorem Rep.mono' (h : Ext (· < E.H.length) E E') {v : Value} {a : AV} (hr : Rep E v a) : Rep E' v a := hr.mono h hr.ref
end
theorem a2l {w : World} {b : Nat} {c : Array Value} {e : TypeId} {f : Nat × Nat} (h : w.heap[b]? = some (.cells c e f)) : a1w w b = c.size := by simp [a1w, h]
theorem b0J (w : World) (g k : Nat) (cs : Array Value) (h : k ≠ g) : (w.setRow g cs).heap[k]? = w.heap[k]? := by
 simp only [World.setRow, Array.getElem?_modify]
 rw [if_neg (by omega)]
theorem a8u (w : World) (g : Nat) (c cs : Array Value) (e : TypeId) (f : Nat × Nat) (h : w.heap[g]? = some (.cells c e f)) : (w.setRow g cs).heap[g]? = some (.cells cs e f) := by
 simp only [World.setRow, Array.getElem?_modify, if_true, h, Option.map_some]
theorem HOk.lt {E : Emb} (h : HOk E) {id : Nat} {blk : Blk} {b : Nat} (hl : E.H[id]? = some (some blk)) (hb : E.φ id = some b) : b < E.w.heap.size := by
 obtain ⟨c, e, r⟩ := h.row id blk b hl hb
 rcases Nat.eq_zero_or_pos blk.wd with hw | hw
 ·rcases h.obj id blk b hl hw hb with ⟨_, _, h1⟩ | ⟨_, _, _, _, _, h1, _⟩ <;> exact (Array.getElem?_eq_some_iff.1 h1).1
 ·exact (Array.getElem?_eq_some_iff.1 (r.heap hw)).1
theorem HOk.refs {E : Emb} (h : HOk E) {id : Nat} {blk : Blk} (hl : E.H[id]? = some (some blk)) : ∀ a ∈ blk.flat, Ref (· < E.H.length) a := by
 intro a ha
 cases hb : E.φ id with
 | none =>
  have := h.emp id blk hl hb
  simp [Blk.flat, this] at ha
 | some b =>
  obtain ⟨c, e, r⟩ := h.row id blk b hl hb
  obtain ⟨k, hk, rfl⟩ := List.getElem_of_mem ha
  have hkc : k < c.size := Nat.lt_of_lt_of_le hk r.fits
  exact (r.rep k c[k] _ (Array.getElem?_eq_getElem hkc) (List.getElem?_eq_getElem hk)).ref
theorem HOk.build {S : Nat → Prop} {E E' : Emb} (h : HOk E) (hx : Ext S E E')
  (hio : ∀ mid m id, mid < id → id < E'.H.length → (∀ blk, E.H[mid]? = some (some blk) → blk.wd = 0 ∧ E.φ mid = some m) → ∀ blk, E'.H[mid]? = some (some blk) → blk.wd = 0 ∧ E'.φ mid = some m)
  (hrow : ∀ (id : Nat) blk, E'.H[id]? = some (some blk) → (E.H[id]? = some (some blk) ∧ E'.φ id = E.φ id ∧ (∀ b, E.φ id = some b → E'.w.heap[b]? = E.w.heap[b]?) ∧ ∀ a ∈ blk.flat, Ref S a) ∨
   (0 < blk.wd ∧ (∀ x ∈ blk.xs, x.cells.length = blk.wd) ∧ ((E'.φ id = none ∧ blk.xs = []) ∨ ∃ b c e, E'.φ id = some b ∧ E'.w.heap[b]? = some (.cells c e (0, 0)) ∧ blk.flat.length ≤ c.size ∧
    ∀ (k : Nat) v a, c[k]? = some v → blk.flat[k]? = some a → v.oneCell' = true ∧ Rep E v a ∧ Ref S a)) ∨
   (blk.wd = 0 ∧ ∃ b, E'.φ id = some b ∧ e4Z E' id b blk.xs))
  (inj : ∀ (id1 id2 : Nat) b1 b2 b, E'.H[id1]? = some (some b1) → E'.H[id2]? = some (some b2) → E'.φ id1 = some b → E'.φ id2 = some b → id1 = id2) : HOk E' := by
 have flat0 : ∀ (id b : Nat) (blk : Blk), e4Z E' id b blk.xs → blk.flat = [] := by
  rintro id b blk (⟨L, hx, _⟩ | ⟨_, _, _, _, hx, _⟩) <;> simp [Blk.flat, hx, AV.cells]
 refine ⟨fun id blk b hl h0 hb => ?_, fun id blk hl => ?_, fun id blk b hl hb => ?_, fun id blk hl hb => ?_, inj⟩
 ·rcases hrow id blk hl with ⟨h1, hp, h2, h3⟩ | ⟨h1, _⟩ | ⟨_, b', hb', h1⟩
  ·rw [hp] at hb
   rcases h.obj id blk b h1 h0 hb with ⟨L, q1, q2⟩ | ⟨mid, n, seen, m, q1, q2, q3, q4⟩
   ·exact .inl ⟨L, q1, (h2 b hb).trans q2⟩
   ·exact .inr ⟨mid, n, seen, m, q1, (h2 b hb).trans q2, q3, hio mid m id q3 (a0o hl) q4⟩
  ·omega
  ·rw [hb'] at hb; cases hb; exact h1
 ·rcases hrow id blk hl with ⟨h1, _⟩ | ⟨_, h1, _⟩ | ⟨h0, b', hb', h1⟩
  ·exact h.wids id blk h1
  ·exact h1
  ·intro x hx
   rcases h1 with ⟨L, q1, _⟩ | ⟨_, _, _, _, q1, _⟩ <;> (rw [q1] at hx; simp at hx; subst hx; simp [AV.cells, h0])
 ·rcases hrow id blk hl with ⟨h1, hp, h2, h3⟩ | ⟨_, _, ⟨hn, _⟩ | ⟨b', c, e, hb', h1, h2, h3⟩⟩ | ⟨h0, b', hb', h1⟩
  ·rw [hp] at hb
   obtain ⟨c, e, r⟩ := h.row id blk b h1 hb
   exact ⟨c, e, fun hw => (h2 b hb).trans (r.heap hw), r.fits, r.one, fun k v a hk ha => (r.rep k v a hk ha).mono hx (h3 a (List.mem_of_getElem? ha))⟩
  ·rw [hn] at hb; simp at hb
  ·rw [hb'] at hb; cases hb
   exact ⟨c, e, fun _ => h1, h2, fun k v hk hv => (h3 k v _ hv (List.getElem?_eq_getElem hk)).1, fun k v a hv ha => (h3 k v a hv ha).2.1.mono hx (h3 k v a hv ha).2.2⟩
  ·refine ⟨#[], 0, fun hw => by omega, by simp [flat0 id b' blk h1], fun k v hk => by simp [flat0 id b' blk h1] at hk, fun k v a hk => by simp at hk⟩
 ·rcases hrow id blk hl with ⟨h1, hp, h2, h3⟩ | ⟨_, _, ⟨_, hn⟩ | ⟨b', c, e, hb', h1, h2, h3⟩⟩ | ⟨h0, b', hb', h1⟩
  ·rw [hp] at hb
   exact h.emp id blk h1 hb
  ·exact hn
  ·rw [hb'] at hb; cases hb
  ·rw [hb'] at hb; cases hb
theorem Ext.of_heap {S : Nat → Prop} {E : Emb} {w : World} (os : w.os = E.w.os) (tape : w.tape = E.w.tape) (out : w.output = E.w.output) (size : E.w.heap.size ≤ w.heap.size)
  (keep : ∀ b, b < E.w.heap.size → w.heap[b]? = E.w.heap[b]?) (h : HOk E) : Ext S E ⟨E.φ, E.H, w⟩ := by
 refine ⟨os, tape, out, size, fun _ _ h => h, fun _ _ _ => rfl, fun j blk' _ _ hb => ⟨blk', hb, rfl⟩, ?_, fun b _ hm => hm, fun b hb _ => keep b hb⟩
 intro id blk' b _ _ hb hp
 simp only [a1w, keep _ (h.lt hb hp)]
theorem HOk.of_heap {E : Emb} {w : World} (os : w.os = E.w.os) (tape : w.tape = E.w.tape) (out : w.output = E.w.output) (size : E.w.heap.size ≤ w.heap.size)
  (keep : ∀ b, b < E.w.heap.size → w.heap[b]? = E.w.heap[b]?) (h : HOk E) : HOk ⟨E.φ, E.H, w⟩ :=
 h.build (Ext.of_heap (S := (· < E.H.length)) os tape out size keep h) (fun _ _ _ _ _ q => q) (fun id blk hl => .inl ⟨hl, rfl, fun b hb => keep _ (h.lt hl hb), h.refs hl⟩) h.inj
theorem a6S (H : Heap) (id : Nat) (x : Option Blk) (hid : id < H.length) (j : Nat) : (H.set id x)[j]? = if id = j then some x else H[j]? := by
 rw [List.getElem?_set]
 by_cases hj : id = j
 ·subst hj; simp [hid]
 ·simp [hj]
theorem a2M (H : Heap) (x : Option Blk) (j : Nat) : (H ++ [x])[j]? = if j = H.length then some x else H[j]? := by
 rw [List.getElem?_append]
 split
 ·rw [if_neg (by omega)]
 ·rcases Nat.lt_or_ge H.length j with hj | hj
  ·rw [if_neg (by omega), List.getElem?_eq_none (by simp; omega), List.getElem?_eq_none (by omega)]
  ·have : j = H.length := by omega
   subst this; simp
theorem HOk.write {E : Emb} (h : HOk E) {id : Nat} {blk : Blk} {b : Nat} (hl : E.H[id]? = some (some blk)) (hb : E.φ id = some b) (hp0 : 0 < blk.wd) {c : Array Value} {e : TypeId} (r : RowOk E b blk c e)
  (c' : Array Value) (xs' : List AV) (hsz : c'.size = c.size) (hw : ∀ x ∈ xs', x.cells.length = blk.wd) (hfit : (xs'.flatMap AV.cells).length ≤ c'.size)
  (hnew : ∀ (k : Nat) v a, c'[k]? = some v → (xs'.flatMap AV.cells)[k]? = some a → v.oneCell' = true ∧ Rep E v a) :
  HOk ⟨E.φ, E.H.set id (some ⟨blk.wd, xs'⟩), E.w.setRow b c'⟩ ∧ Ext (· < E.H.length) E ⟨E.φ, E.H.set id (some ⟨blk.wd, xs'⟩), E.w.setRow b c'⟩ := by
 have hid := a0o hl
 have hget := a6S E.H id (some ⟨blk.wd, xs'⟩) hid
 have hother : ∀ (j : Nat) bj bn, id ≠ j → E.H[j]? = some (some bj) → E.φ j = some bn → (E.w.setRow b c').heap[bn]? = E.w.heap[bn]? := by
  intro j bj bn hj hlj hbj
  exact b0J _ _ _ _ (fun he => hj (h.inj _ _ _ _ b hl hlj hb (he ▸ hbj)))
 have hx : Ext (· < E.H.length) E ⟨E.φ, E.H.set id (some ⟨blk.wd, xs'⟩), E.w.setRow b c'⟩ := by
  refine ⟨rfl, rfl, rfl, by simp, by simp, fun _ _ _ => rfl, ?_, ?_, ?_, ?_⟩
  ·intro j blk' _ hj hb'
   simp only [hget] at hb'
   by_cases hji : id = j
   ·subst hji
    simp at hb'; subst hb'
    exact ⟨blk, hl, rfl⟩
   ·simp only [hji, if_false] at hb'; exact ⟨blk', hb', rfl⟩
  ·intro j blk' bj _ hj hb' hp
   simp only [hget] at hb'
   by_cases hji : id = j
   ·subst hji
    rw [hb] at hp; cases hp
    rw [a2l (r.heap hp0), a2l (a8u _ _ _ _ _ _ (r.heap hp0)), hsz]
   ·simp only [hji, if_false] at hb'
    simp only [a1w, hother j blk' bj hji hb' hp]
  ·intro b' hb' hm
   obtain ⟨j, blk', hj, hp⟩ := hm
   simp only [hget] at hj
   by_cases hji : id = j
   ·subst hji; exact ⟨id, blk, hl, hp⟩
   ·simp only [hji, if_false] at hj; exact ⟨j, blk', hj, hp⟩
  ·intro b' hb' hm
   exact b0J _ _ _ _ (fun he => hm ⟨id, blk, hl, he ▸ hb⟩)
 refine ⟨h.build hx ?_ ?_ ?_, hx⟩
 ·intro mid m _ _ _ q blk' hj
  simp only [hget] at hj
  by_cases hji : id = mid
  ·subst hji; exact absurd (q blk hl).1 (by omega)
  ·simp only [hji, if_false] at hj; exact q blk' hj
 ·intro j blk' hj
  simp only [hget] at hj
  by_cases hji : id = j
  ·subst hji; simp at hj; subst hj
   exact .inr <| .inl ⟨hp0, hw, .inr ⟨b, c', e, hb, a8u _ _ _ _ _ _ (r.heap hp0), hfit, fun k v a hk ha => ⟨(hnew k v a hk ha).1, (hnew k v a hk ha).2, (hnew k v a hk ha).2.ref⟩⟩⟩
  ·simp only [hji, if_false] at hj
   exact .inl ⟨hj, rfl, fun bj hbj => hother j blk' bj hji hj hbj, h.refs hj⟩
 ·intro i j b1 b2 bn h1 h2 p1 p2
  simp only [hget] at h1 h2
  have l1 : ∃ b, E.H[i]? = some (some b) := by by_cases q : id = i <;> simp [q] at h1 <;> first | exact ⟨blk, q ▸ hl⟩ | exact ⟨b1, h1⟩
  have l2 : ∃ b, E.H[j]? = some (some b) := by by_cases q : id = j <;> simp [q] at h2 <;> first | exact ⟨blk, q ▸ hl⟩ | exact ⟨b2, h2⟩
  obtain ⟨_, l1⟩ := l1
  obtain ⟨_, l2⟩ := l2
  exact h.inj _ _ _ _ bn l1 l2 p1 p2
theorem HOk.alloc {E : Emb} (h : HOk E) {w : World} (os : w.os = E.w.os) (tape : w.tape = E.w.tape) (out : w.output = E.w.output) (size : E.w.heap.size ≤ w.heap.size) (ob : Option Nat) (hob : ∀ b, ob = some b → E.w.heap.size ≤ b)
  (keep : ∀ b, b < E.w.heap.size → w.heap[b]? = E.w.heap[b]?) (blk : Blk) (hpos : 0 < blk.wd) (hw : ∀ x ∈ blk.xs, x.cells.length = blk.wd)
  (hnew : (ob = none ∧ blk.xs = []) ∨ ∃ b c e, ob = some b ∧ w.heap[b]? = some (.cells c e (0, 0)) ∧ blk.flat.length ≤ c.size ∧
   ∀ (k : Nat) v a, c[k]? = some v → blk.flat[k]? = some a → v.oneCell' = true ∧ Rep E v a) :
  HOk ⟨fun j => if j = E.H.length then ob else E.φ j, E.H ++ [some blk], w⟩ ∧ Ext (· < E.H.length) E ⟨fun j => if j = E.H.length then ob else E.φ j, E.H ++ [some blk], w⟩ := by
 have hx : Ext (· < E.H.length) E ⟨fun j => if j = E.H.length then ob else E.φ j, E.H ++ [some blk], w⟩ := by
  refine ⟨os, tape, out, size, by simp; intros; omega, fun j hj _ => if_neg (by omega), ?_, ?_, ?_, fun b hb _ => keep b hb⟩
  ·intro j blk' _ hj hb'
   simp only [a2M] at hb'
   rw [if_neg (by omega)] at hb'
   exact ⟨blk', hb', rfl⟩
  ·intro j blk' b _ hj hb' hp
   simp only [a2M] at hb'
   rw [if_neg (by omega)] at hb'
   simp only [a1w, keep _ (h.lt hb' hp)]
  ·intro b' hb' ⟨j, blk', hj, e'⟩
   simp only [a2M] at hj
   by_cases hjn : j = E.H.length
   ·simp only [hjn, if_true] at e'
    have := hob b' e'; omega
   ·simp only [hjn, if_false] at hj e'; exact ⟨j, blk', hj, e'⟩
 refine ⟨h.build hx ?_ ?_ ?_, hx⟩
 ·intro mid m id hm hi q blk' hj
  simp only [List.length_append, List.length_cons, List.length_nil] at hi
  have hne : mid ≠ E.H.length := by omega
  simp only [a2M, hne, if_false] at hj ⊢
  exact q blk' hj
 ·intro j blk' hj
  simp only [a2M] at hj
  by_cases hjn : j = E.H.length
  ·simp only [hjn, if_true, Option.some.injEq] at hj
   subst hj
   refine .inr <| .inl ⟨hpos, hw, ?_⟩
   simp only [hjn, if_true]
   rcases hnew with hn | ⟨b, c, e, h1, h2, h3, h4⟩
   ·exact .inl hn
   ·exact .inr ⟨b, c, e, h1, h2, h3, fun k v a hk ha => ⟨(h4 k v a hk ha).1, (h4 k v a hk ha).2, (h4 k v a hk ha).2.ref⟩⟩
  ·simp only [hjn, if_false] at hj
   exact .inl ⟨hj, by simp only [hjn, if_false], fun b hb => keep _ (h.lt hj hb), h.refs hj⟩
 ·intro i j b1 b2 bn h1 h2 p1 p2
  simp only [a2M] at h1 h2
  by_cases hi : i = E.H.length <;> by_cases hj : j = E.H.length
  ·omega
  ·simp only [hi, hj, if_true, if_false] at h2 p1 p2
   have := h.lt h2 p2; have := hob _ p1; omega
  ·simp only [hi, hj, if_true, if_false] at h1 p1 p2
   have := h.lt h1 p1; have := hob _ p2; omega
  ·simp only [hi, hj, if_false] at h1 h2 p1 p2
   exact h.inj _ _ _ _ bn h1 h2 p1 p2
theorem HOk.rebind {E : Emb} (h : HOk E) {w : World} (os : w.os = E.w.os) (tape : w.tape = E.w.tape) (out : w.output = E.w.output) (size : E.w.heap.size ≤ w.heap.size)
  {id : Nat} {blk : Blk} (hl : E.H[id]? = some (some blk)) (hp0 : 0 < blk.wd) (b : Nat) (hb : E.φ id = some b ∨ E.w.heap.size ≤ b)
  (keep : ∀ b, b < E.w.heap.size → E.φ id ≠ some b → w.heap[b]? = E.w.heap[b]?) (xs' : List AV) (hw : ∀ x ∈ xs', x.cells.length = blk.wd) {c : Array Value} {e : TypeId}
  (hh : w.heap[b]? = some (.cells c e (0, 0))) (hfit : (xs'.flatMap AV.cells).length ≤ c.size)
  (hfree : ∀ (j : Nat) bj, j ≠ id → E.H[j]? = some (some bj) → ∀ a ∈ bj.flat, Ref (· ≠ id) a)
  (hnew : ∀ (k : Nat) v a, c[k]? = some v → (xs'.flatMap AV.cells)[k]? = some a → v.oneCell' = true ∧ Rep E v a ∧ Ref (· ≠ id) a) :
  HOk ⟨fun j => if j = id then some b else E.φ j, E.H.set id (some ⟨blk.wd, xs'⟩), w⟩ ∧ Ext (· ≠ id) E ⟨fun j => if j = id then some b else E.φ j, E.H.set id (some ⟨blk.wd, xs'⟩), w⟩ := by
 have hid := a0o hl
 have hget := a6S E.H id (some ⟨blk.wd, xs'⟩) hid
 have hother : ∀ (j : Nat) bj bn, j ≠ id → E.H[j]? = some (some bj) → E.φ j = some bn → w.heap[bn]? = E.w.heap[bn]? := fun j bj bn hj hlj hp =>
  keep _ (h.lt hlj hp) (fun he => hj (h.inj _ _ _ _ bn hlj hl hp he))
 have hx : Ext (· ≠ id) E ⟨fun j => if j = id then some b else E.φ j, E.H.set id (some ⟨blk.wd, xs'⟩), w⟩ := by
  refine ⟨os, tape, out, size, by simp, fun j hj _ => if_neg hj, ?_, ?_, ?_, ?_⟩
  ·intro j blk' hj _ hb'
   simp only [hget] at hb'
   rw [if_neg (fun he => hj he.symm)] at hb'
   exact ⟨blk', hb', rfl⟩
  ·intro j blk' bn hj _ hb' hp
   simp only [hget] at hb'
   rw [if_neg (fun he => hj he.symm)] at hb'
   simp only [a1w, hother j blk' bn hj hb' hp]
  ·intro b' hb' ⟨j, blk', hj, e'⟩
   by_cases hji : j = id
   ·simp only [hji, if_true, Option.some.injEq] at e'
    rcases hb with hb | hb
    ·exact ⟨id, blk, hl, by rw [← e', hb]⟩
    ·omega
   ·simp only [hget, hji, if_false] at hj e'
    rw [if_neg (fun he => hji he.symm)] at hj
    exact ⟨j, blk', hj, e'⟩
  ·intro b' hb' hm
   exact keep b' hb' (fun he => hm ⟨id, blk, hl, he⟩)
 refine ⟨h.build hx ?_ ?_ ?_, hx⟩
 ·intro mid m _ _ _ q blk' hj
  by_cases hji : mid = id
  ·subst hji; exact absurd (q blk hl).1 (by omega)
  ·simp only [hget, Ne.symm hji, if_false] at hj
   simp only [hji, if_false]; exact q blk' hj
 ·intro j blk' hj
  by_cases hji : j = id
  ·subst hji
   simp only [hget, if_true, Option.some.injEq] at hj
   subst hj
   exact .inr <| .inl ⟨hp0, hw, .inr ⟨b, c, e, by simp, hh, hfit, hnew⟩⟩
  ·simp only [hget] at hj
   rw [if_neg (fun he => hji he.symm)] at hj
   exact .inl ⟨hj, by simp only [hji, if_false], fun bn hp => hother j blk' bn hji hj hp, hfree j blk' hji hj⟩
 ·intro i j b1 b2 bn h1 h2 p1 p2
  simp only [hget] at h1 h2
  by_cases hi : i = id <;> by_cases hj : j = id
  ·omega
  ·rw [if_neg (fun he => hj he.symm)] at h2
   simp only [hi, hj, if_true, if_false, Option.some.injEq] at p1 p2
   rcases hb with hb | hb
   ·exact absurd (h.inj _ _ _ _ bn hl h2 (p1 ▸ hb) p2) (fun he => hj he.symm)
   ·have := h.lt h2 p2; omega
  ·rw [if_neg (fun he => hi he.symm)] at h1
   simp only [hi, hj, if_true, if_false, Option.some.injEq] at p1 p2
   rcases hb with hb | hb
   ·exact absurd (h.inj _ _ _ _ bn h1 hl p1 (p2 ▸ hb)) hi
   ·have := h.lt h1 p1; omega
  ·rw [if_neg (fun he => hi he.symm)] at h1
   rw [if_neg (fun he => hj he.symm)] at h2
   simp only [hi, hj, if_false] at p1 p2
   exact h.inj _ _ _ _ bn h1 h2 p1 p2
theorem HOk.cut {E : Emb} (h : HOk E) (m : Nat) (hfree : ∀ (j : Nat) bj, j < m → E.H[j]? = some (some bj) → ∀ a ∈ bj.flat, Ref (· < m) a) :
  HOk ⟨E.φ, E.H.take m, E.w⟩ ∧ Ext (· < m) E ⟨E.φ, E.H.take m, E.w⟩ := by
 have hget : ∀ (j : Nat) x, (E.H.take m)[j]? = some x → j < m ∧ E.H[j]? = some x := by
  intro j x hj
  rw [List.getElem?_take] at hj
  split at hj
  ·exact ⟨by omega, hj⟩
  ·simp at hj
 have hx : Ext (· < m) E ⟨E.φ, E.H.take m, E.w⟩ :=
  ⟨rfl, rfl, rfl, Nat.le_refl _, fun i hi hl => by simp; omega, fun _ _ _ => rfl, fun j blk' _ _ hb => ⟨blk', (hget j _ hb).2, rfl⟩, fun _ _ _ _ _ _ _ => rfl,
   fun b _ ⟨j, blk', hj, e⟩ => ⟨j, blk', (hget j _ hj).2, e⟩, fun _ _ _ => rfl⟩
 exact ⟨h.build hx (fun mid m _ _ _ q blk hj => q blk (hget mid _ hj).2) (fun j b hj => .inl ⟨(hget j _ hj).2, rfl, fun _ _ => rfl, hfree j b (hget j _ hj).1 (hget j _ hj).2⟩) (fun i j b1 b2 b h1 h2 => h.inj i j b1 b2 b (hget _ _ h1).2 (hget _ _ h2).2), hx⟩
theorem HOk.owrite {E : Emb} (h : HOk E) {w : World} (os : w.os = E.w.os) (tape : w.tape = E.w.tape) (out : w.output = E.w.output) (size : E.w.heap.size ≤ w.heap.size)
  {id : Nat} {blk : Blk} {b : Nat} (hl : E.H[id]? = some (some blk)) (h0 : blk.wd = 0) (hb : E.φ id = some b) (keep : ∀ b', b' < E.w.heap.size → b' ≠ b → w.heap[b']? = E.w.heap[b']?) (xs' : List AV)
  (hobj : e4Z ⟨E.φ, E.H.set id (some ⟨0, xs'⟩), w⟩ id b xs') :
  HOk ⟨E.φ, E.H.set id (some ⟨0, xs'⟩), w⟩ ∧ Ext (· < E.H.length) E ⟨E.φ, E.H.set id (some ⟨0, xs'⟩), w⟩ := by
 have hid := a0o hl
 have hget := a6S E.H id (some ⟨0, xs'⟩) hid
 have hother : ∀ (j : Nat) bj bn, id ≠ j → E.H[j]? = some (some bj) → E.φ j = some bn → w.heap[bn]? = E.w.heap[bn]? := fun j bj bn hj hlj hbj =>
  keep _ (h.lt hlj hbj) (fun he => hj (h.inj _ _ _ _ b hl hlj hb (he ▸ hbj)))
 have z1 : a1w E.w b = 0 := by
  rcases h.obj id blk b hl h0 hb with ⟨_, _, q⟩ | ⟨_, _, _, _, _, q, _⟩ <;> simp [a1w, q]
 have z2 : a1w w b = 0 := by
  rcases hobj with ⟨_, _, q⟩ | ⟨_, _, _, _, _, q, _⟩ <;> simp only at q <;> simp [a1w, q]
 have hx : Ext (· < E.H.length) E ⟨E.φ, E.H.set id (some ⟨0, xs'⟩), w⟩ := by
  refine ⟨os, tape, out, size, by simp, fun _ _ _ => rfl, ?_, ?_, ?_, ?_⟩
  ·intro j blk' _ hj hb'
   simp only [hget] at hb'
   by_cases hji : id = j
   ·subst hji
    simp at hb'; subst hb'
    exact ⟨blk, hl, h0⟩
   ·simp only [hji, if_false] at hb'; exact ⟨blk', hb', rfl⟩
  ·intro j blk' bj _ hj hb' hp
   simp only [hget] at hb'
   by_cases hji : id = j
   ·subst hji
    rw [hb] at hp; cases hp
    rw [z1, z2]
   ·simp only [hji, if_false] at hb'
    simp only [a1w, hother j blk' bj hji hb' hp]
  ·intro b' hb' hm
   obtain ⟨j, blk', hj, hp⟩ := hm
   simp only [hget] at hj
   by_cases hji : id = j
   ·subst hji; exact ⟨id, blk, hl, hp⟩
   ·simp only [hji, if_false] at hj; exact ⟨j, blk', hj, hp⟩
  ·intro b' hb' hm
   exact keep b' hb' (fun he => hm ⟨id, blk, hl, he ▸ hb⟩)
 refine ⟨h.build hx ?_ ?_ ?_, hx⟩
 ·intro mid m _ _ _ q blk' hj
  simp only [hget] at hj
  by_cases hji : id = mid
  ·subst hji; simp at hj; subst hj; exact ⟨rfl, (q blk hl).2⟩
  ·simp only [hji, if_false] at hj; exact q blk' hj
 ·intro j blk' hj
  simp only [hget] at hj
  by_cases hji : id = j
  ·subst hji; simp at hj; subst hj
   exact .inr <| .inr ⟨rfl, b, hb, hobj⟩
  ·simp only [hji, if_false] at hj
   exact .inl ⟨hj, rfl, fun bj hbj => hother j blk' bj hji hj hbj, h.refs hj⟩
 ·intro i j b1 b2 bn h1 h2 p1 p2
  simp only [hget] at h1 h2
  have l1 : ∃ b, E.H[i]? = some (some b) := by by_cases q : id = i <;> simp [q] at h1 <;> first | exact ⟨blk, q ▸ hl⟩ | exact ⟨b1, h1⟩
  have l2 : ∃ b, E.H[j]? = some (some b) := by by_cases q : id = j <;> simp [q] at h2 <;> first | exact ⟨blk, q ▸ hl⟩ | exact ⟨b2, h2⟩
  obtain ⟨_, l1⟩ := l1
  obtain ⟨_, l2⟩ := l2
  exact h.inj _ _ _ _ bn l1 l2 p1 p2
theorem HOk.oalloc {E : Emb} (h : HOk E) {w : World} (os : w.os = E.w.os) (tape : w.tape = E.w.tape) (out : w.output = E.w.output) (size : E.w.heap.size ≤ w.heap.size) (b : Nat) (hob : E.w.heap.size ≤ b)
  (keep : ∀ b, b < E.w.heap.size → w.heap[b]? = E.w.heap[b]?) (xs : List AV)
  (hobj : e4Z ⟨fun j => if j = E.H.length then some b else E.φ j, E.H ++ [some ⟨0, xs⟩], w⟩ E.H.length b xs) :
  HOk ⟨fun j => if j = E.H.length then some b else E.φ j, E.H ++ [some ⟨0, xs⟩], w⟩ ∧ Ext (· < E.H.length) E ⟨fun j => if j = E.H.length then some b else E.φ j, E.H ++ [some ⟨0, xs⟩], w⟩ := by
 have hx : Ext (· < E.H.length) E ⟨fun j => if j = E.H.length then some b else E.φ j, E.H ++ [some ⟨0, xs⟩], w⟩ := by
  refine ⟨os, tape, out, size, by simp; intros; omega, fun j hj _ => if_neg (by omega), ?_, ?_, ?_, fun b hb _ => keep b hb⟩
  ·intro j blk' _ hj hb'
   simp only [a2M] at hb'
   rw [if_neg (by omega)] at hb'
   exact ⟨blk', hb', rfl⟩
  ·intro j blk' b _ hj hb' hp
   simp only [a2M] at hb'
   rw [if_neg (by omega)] at hb'
   simp only [a1w, keep _ (h.lt hb' hp)]
  ·intro b' hb' ⟨j, blk', hj, e'⟩
   simp only [a2M] at hj
   by_cases hjn : j = E.H.length
   ·simp only [hjn, if_true, Option.some.injEq] at e'; omega
   ·simp only [hjn, if_false] at hj e'; exact ⟨j, blk', hj, e'⟩
 refine ⟨h.build hx ?_ ?_ ?_, hx⟩
 ·intro mid m id hm hi q blk' hj
  simp only [List.length_append, List.length_cons, List.length_nil] at hi
  have hne : mid ≠ E.H.length := by omega
  simp only [a2M, hne, if_false] at hj ⊢
  exact q blk' hj
 ·intro j blk' hj
  simp only [a2M] at hj
  by_cases hjn : j = E.H.length
  ·simp only [hjn, if_true, Option.some.injEq] at hj
   subst hj
   refine .inr <| .inr ⟨rfl, b, by simp only [hjn, if_true], ?_⟩
   rw [hjn]; exact hobj
  ·simp only [hjn, if_false] at hj
   exact .inl ⟨hj, by simp only [hjn, if_false], fun b hb => keep _ (h.lt hj hb), h.refs hj⟩
 ·intro i j b1 b2 bn h1 h2 p1 p2
  simp only [a2M] at h1 h2
  by_cases hi : i = E.H.length <;> by_cases hj : j = E.H.length
  ·omega
  ·simp only [hi, hj, if_true, if_false, Option.some.injEq] at h2 p1 p2
   have := h.lt h2 p2; omega
  ·simp only [hi, hj, if_true, if_false, Option.some.injEq] at h1 p1 p2
   have := h.lt h1 p1; omega
  ·simp only [hi, hj, if_false] at h1 h2 p1 p2
   exact h.inj _ _ _ _ bn h1 h2 p1 p2
end Go.Abs
namespace Go.Abs
abbrev Env := List (Nat × AV)
def look : Env → Nat → AV
 | [], _ => .top
 | (k, v) :: r, t => if k = t then v else look r t
inductive Src where
 | t (n : Nat)
 | c (a : AV)
def Src.ev (env : Env) : Src → AV
 | .t n => look env n
 | .c a => a
inductive POp where
 | mv (a : Src)
 | pick (c a b : Src)
 | lens (a : Src)
 | len (a : Src)
 | bin (op : BinOp) (a b : Src)
 | beq (neg : Bool) (a b : Src)
 | un (op : UnOp) (a : Src)
 | conv (k : IntKind) (a : Src)
 | ext (a : Src) (i : Nat)
 | fldp (a : Src) (off : Nat)
 | idxp (wd : Nat) (a i : Src)
 | idxs (a i : Src)
 | load (n : Option Nat) (a : Src)
 | slc (wd : Nat) (x : Src) (lo hi mx : Option Src)
 | slcs (x : Src) (lo hi : Option Src)
 | bld (zero : List AV) (a1Q : List (Nat × Nat × Src))
 | mkfn (f : FuncId) (caps : List Src)
 | mkbf (f : FuncId) (bs : List Src)
 | mnx (mx : Bool) (a b : Src)
 | b2s (a : Src)
 | mlook (m k : Src)
 | ment (a : Src)
def AV.solid : AV → Bool
 | .top | .agg _ | .tup _ | .mo _ | .io .. => false
 | .lit v => v.oneCell'
 | _ => true
def a4C (op : BinOp) (k : IntKind) (x y : Int) : Option AV :=
 match op with
 | .add => some (.int k (k.wrap (x + y)))
 | .sub => some (.int k (k.wrap (x - y)))
 | .mul => some (.int k (k.wrap (x * y)))
 | .quo => if y = 0 then none else some (.int k (k.wrap (x.tdiv y)))
 | .rem => if y = 0 then none else some (.int k (x.tmod y))
 | .and => some (.int k (k.wrap (BitVec.ofInt k.bits x &&& BitVec.ofInt k.bits y).toNat))
 | .or => some (.int k (k.wrap (BitVec.ofInt k.bits x ||| BitVec.ofInt k.bits y).toNat))
 | .xor => some (.int k (k.wrap (BitVec.ofInt k.bits x ^^^ BitVec.ofInt k.bits y).toNat))
 | .eql => some (.bool (x == y))
 | .neq => some (.bool (x != y))
 | .lss => some (.bool (x < y))
 | .leq => some (.bool (x ≤ y))
 | .gtr => some (.bool (x > y))
 | .geq => some (.bool (x ≥ y))
 | _ => none
def b0I (op : BinOp) (k : IntKind) (x y : Int) : Option AV :=
 if y < 0 then none else
 match op with
 | .shl => some (.int k (k.wrap (x * 2 ^ (min y.toNat k.bits))))
 | .shr => some (.int k (x.fdiv (2 ^ (min y.toNat k.bits))))
 | _ => none
def binV (op : BinOp) (a b : AV) : Option AV :=
 match a, b with
 | .int k x, .int k' y =>
  match op with
  | .shl => b0I .shl k x y
  | .shr => b0I .shr k x y
  | op => if k = k' then a4C op k x y else none
 | .str x, .str y =>
  match op with
  | .add => if ((x.size + y.size : Nat) : Int) > IntKind.i64.max then none else some (.str (x ++ y))
  | .eql => some (.bool (x.toList == y.toList))
  | .neq => some (.bool !(x.toList == y.toList))
  | _ => none
 | _, _ => none
def hrow (H : Heap) (id : Nat) : Option Blk := (H[id]?).join
def lenV (H : Heap) : AV → Option AV
 | .sl _ xs => some (.int .i64 xs.length)
 | .nil => some (.int .i64 0)
 | .mu id _ len _ => if (hrow H id).isSome then some (.int .i64 len) else none
 | _ => none
def atV (H : Heap) : AV → Option (List AV)
 | .ro x off => some (x.cells.drop off)
 | .loc id i off => (hrow H id).bind fun b => if i < b.xs.length then some ((b.xs.getD i .top).cells.drop off) else none
 | _ => none
def a7p (H : Heap) (n : Option Nat) (p : AV) : Option AV :=
 (atV H p).bind fun cs => match n with
  | none => cs[0]?
  | some n => if n ≤ cs.length then some (.agg (cs.take n)) else none
def idxV (H : Heap) (wd : Nat) (a i : AV) : Option AV :=
 match i with
 | .int _ i =>
  match a with
  | .sl wd' xs => if wd' = wd ∧ 0 ≤ i ∧ i < xs.length then some (.ro (xs.getD i.toNat .top) 0) else none
  | .mu id off len _ => (hrow H id).bind fun b => if b.wd = wd ∧ 0 ≤ i ∧ i < len then some (.loc id (off + i.toNat) 0) else none
  | _ => none
 | _ => none
def a3V (d : Int) : Option AV → Option Int
 | none => some d
 | some (.int _ i) => some i
 | some _ => none
def slcV (H : Heap) (wd : Nat) (x : AV) (lo hi mx : Option AV) : Option AV :=
 match x with
 | .sl wd' xs => (a3V 0 lo).bind fun l => (a3V xs.length hi).bind fun h =>
   match mx with
   | none => if wd' = wd ∧ 0 ≤ l ∧ l ≤ h ∧ h ≤ xs.length then some (.sl wd ((xs.drop l.toNat).take (h.toNat - l.toNat))) else none
   | some (.int _ m) => if wd' = wd ∧ hi.isSome ∧ 0 ≤ l ∧ l ≤ h ∧ h ≤ m ∧ m ≤ xs.length then some (.sl wd ((xs.drop l.toNat).take (h.toNat - l.toNat))) else none
   | some _ => none
 | .mu id off len oc => (hrow H id).bind fun b => (a3V 0 lo).bind fun l => (a3V len hi).bind fun h =>
   match mx with
   | none => if b.wd = wd ∧ 0 ≤ l ∧ l ≤ h ∧ h ≤ len then some (.mu id (off + l.toNat) (h.toNat - l.toNat) (oc.map (· - l.toNat))) else none
   | some (.int _ m) => if b.wd = wd ∧ hi.isSome ∧ 0 ≤ l ∧ l ≤ h ∧ h ≤ m ∧ m ≤ len then some (.mu id (off + l.toNat) (h.toNat - l.toNat) (some (m.toNat - l.toNat))) else none
   | some _ => none
 | _ => none
def slcS (x : AV) (lo hi : Option AV) : Option AV :=
 match x with
 | .str s => (a3V 0 lo).bind fun l => (a3V s.size hi).bind fun h => if 0 ≤ l ∧ l ≤ h ∧ h ≤ s.size then some (.str (s.extract l.toNat h.toNat)) else none
 | _ => none
def a2i (cs : List AV) (off : Nat) (aXs : List AV) : List AV := cs.take off ++ aXs ++ cs.drop (off + aXs.length)
def AV.fit : AV → Bool
 | .agg _ => true
 | a => a.solid
def bldV (env : Env) : List AV → List (Nat × Nat × Src) → Option (List AV)
 | cs, [] => some cs
 | cs, (off, n, s) :: r =>
  let a := s.ev env
  if a.cells.length = n ∧ off + n ≤ cs.length ∧ a.fit = true then bldV env (a2i cs off a.cells) r else none
def c2C : List AV → Option (List Int)
 | [] => some []
 | .int .u8 n :: r => (c2C r).map (n :: ·)
 | _ => none
def strB (xs : List AV) : Option AV := (c2C xs).map fun ns => .str (strOfNums ns)
def b2sV (H : Heap) : AV → Option AV
 | .nil => some (.str ByteArray.empty)
 | .sl wd xs => if wd = 1 then strB xs else none
 | .mu id off len _ => (hrow H id).bind fun b => if b.wd = 1 ∧ off + len ≤ b.xs.length then strB ((b.xs.drop off).take len) else none
 | _ => none
def mnxV (mx : Bool) (a b : AV) : Option AV :=
 match a, b with
 | .int k x, .int _ y => some (.int k (if mx then (if y > x then y else x) else (if y < x then y else x)))
 | _, _ => none
def b1Q (H : Heap) : AV → Option (List (Int × Int))
 | .mp true id => match hrow H id with
  | some ⟨0, [.mo L]⟩ => some L
  | _ => none
 | _ => none
def b7S (H : Heap) : AV → Option (Nat × Nat × List Nat)
 | .mp false id => match hrow H id with
  | some ⟨0, [.io m n seen]⟩ => some (m, n, seen)
  | _ => none
 | _ => none
def mget : List (Int × Int) → Int → Option Int
 | [], _ => none
 | p :: L, x => if x = p.1 then some p.2 else mget L x
def pv (o : POp) (env : Env) (H : Heap) : Option AV :=
 match o with
 | .mv a => some (a.ev env)
 | .pick c a b => match c.ev env with
  | .bool c => if c then some (a.ev env) else some (b.ev env)
  | _ => none
 | .lens a => match a.ev env with
  | .str s => some (.int .i64 s.size)
  | _ => none
 | .len a => lenV H (a.ev env)
 | .bin op a b => binV op (a.ev env) (b.ev env)
 | .beq neg a b => match a.ev env, b.ev env with
  | .bool x, .bool y => some (.bool (if neg then !(x == y) else (x == y)))
  | _, _ => none
 | .un op a => match op, a.ev env with
  | .neg, .int k n => some (.int k (k.wrap (0 - n)))
  | .not, .bool b => some (.bool !b)
  | _, _ => none
 | .conv k a => match a.ev env with
  | .int _ n => some (.int k (k.wrap n))
  | _ => none
 | .ext a i => match a.ev env with
  | .tup vs => vs[i]?
  | _ => none
 | .fldp a off => match a.ev env with
  | .ro x o => some (.ro x (o + off))
  | .loc id i o => if (hrow H id).isSome then some (.loc id i (o + off)) else none
  | _ => none
 | .idxp wd a i => idxV H wd (a.ev env) (i.ev env)
 | .idxs a i => match a.ev env, i.ev env with
  | .str s, .int _ i => if 0 ≤ i ∧ i < s.size then some (.int .u8 (s.data.toList.getD i.toNat 0).toNat) else none
  | _, _ => none
 | .load n a => a7p H n (a.ev env)
 | .slc wd x lo hi mx => slcV H wd (x.ev env) (lo.map (·.ev env)) (hi.map (·.ev env)) (mx.map (·.ev env))
 | .slcs x lo hi => slcS (x.ev env) (lo.map (·.ev env)) (hi.map (·.ev env))
 | .bld zero a1Q => (bldV env zero a1Q).map .agg
 | .mkfn f caps => some (.fn f (caps.map (·.ev env)))
 | .mkbf f bs => some (.bfn f (bs.map (·.ev env)))
 | .mnx mx a b => mnxV mx (a.ev env) (b.ev env)
 | .b2s a => b2sV H (a.ev env)
 | .mlook m k => match b1Q H (m.ev env), k.ev env with
  | some L, .int .i64 x => some (.tup [.int .i64 ((mget L x).getD 0), .bool (mget L x).isSome])
  | _, _ => none
 | .ment a => match b7S H (a.ev env) with
  | some (mid, n, seen) => match b1Q H (.mp true mid), seen.getLast? with
   | some L, some i => if L.length = n then (L[i]?).map fun p => .tup [.int .i64 p.1, .int .i64 p.2] else none
   | _, _ => none
  | none => none
def a4W : Value → AV
 | .int k n => .int k n
 | .bool b => .bool b
 | .string s => .str s
 | .slice none 0 0 => .nil
 | v => .lit v
def a0O : Operand → Option Src
 | .tmp t => some (.t t)
 | .const v => some (.c (a4W v))
 | .func f => some (.c (.fn f []))
 | .global _ => none
def c0B : Option Operand → Option (Option Src)
 | none => some none
 | some x => (a0O x).map some
def b4c : TypeDesc → Bool
 | .struct _ | .array _ _ => true
 | _ => false
def a3y (P : Program) (t : TypeId) : Option Nat := (P.info? t).map (·.size)
def c5c (P : Program) (fs : Array Field) : List (Nat × Operand) → Option (List (Nat × Nat × Src))
 | [] => some []
 | (i, x) :: r => do
  let f ← fs[i]?
  let n ← a3y P f.type
  let s ← a0O x
  let r ← c5c P fs r
  some ((f.offset, n, s) :: r)
def srcs : List Operand → Option (List Src)
 | [] => some []
 | x :: r => do
  let s ← a0O x
  let r ← srcs r
  some (s :: r)
def mapT (P : Program) (t : TypeId) : Bool := match P.underlying t with
 | some (.map kt vt) => match P.underlying kt, P.underlying vt, (P.info? vt).bind (·.zero) with
  | some (.int .i64), some (.int .i64), some (.int .i64 n) => n == 0
  | _, _, _ => false
 | _ => false
def a6q (P : Program) (o : Op) : Option POp :=
 match o with
 | .move x | .assign x => (a0O x).map .mv
 | .pick c a b => do some (.pick (← a0O c) (← a0O a) (← a0O b))
 | .binOp op xt x y _ =>
  match op with
  | .eql | .neq =>
   match P.underlying xt with
   | some .bool => do some (.beq (op == .neq) (← a0O x) (← a0O y))
   | _ => do some (.bin op (← a0O x) (← a0O y))
  | _ => do some (.bin op (← a0O x) (← a0O y))
 | .unOp op _ x => do some (.un op (← a0O x))
 | .convert src dst x =>
  match P.underlying src, P.underlying dst with
  | some _, some (.int k) => do some (.conv k (← a0O x))
  | some (.slice e), some .string => match P.underlying e with
   | some (.int .u8) => do some (.b2s (← a0O x))
   | _ => none
  | _, _ => none
 | .extract x i => do some (.ext (← a0O x) i)
 | .fieldAddr s x f =>
  match P.underlying s with
  | some (.struct fs) =>
   match fs[f]? with
   | some fl => match a3y P fl.type with
    | some (n + 1) => do some (.fldp (← a0O x) fl.offset)
    | _ => none
   | none => none
  | _ => none
 | .indexAddr t x ix =>
  match P.underlying t with
  | some (.slice e) => do some (.idxp (← a3y P e) (← a0O x) (← a0O ix))
  | _ => none
 | .index t x ix =>
  match P.underlying t with
  | some .string => do some (.idxs (← a0O x) (← a0O ix))
  | _ => none
 | .load t x =>
  match P.underlying t with
  | some d => if b4c d then do some (.load (some (← a3y P t)) (← a0O x)) else do some (.load none (← a0O x))
  | none => none
 | .slice t x lo hi mx =>
  match P.underlying t with
  | some (.slice e) => do some (.slc (← a3y P e) (← a0O x) (← c0B lo) (← c0B hi) (← c0B mx))
  | some .string => match mx with
   | none => do some (.slcs (← a0O x) (← c0B lo) (← c0B hi))
   | some _ => none
  | _ => none
 | .build t a1Q =>
  match P.underlying t, (P.info? t).bind (·.zero) with
  | some (.struct fs), some (.agg zs) => if zs.all (·.oneCell') && fs.toList.all (fun f => (a3y P f.type).isSome) then do some (.bld (zs.toList.map a4W) (← c5c P fs a1Q.toList)) else none
  | _, _ => none
 | .makeFunc fn first caps =>
  match fn, first.toList, caps.toList with
  | .func f, [], _ => do some (.mkfn f (← srcs caps.toList))
  | .func f, _, [] => do some (.mkbf f (← srcs first.toList))
  | _, _, _ => none
 | .nilCheck x => do some (.fldp (← a0O x) 0)
 | .call c =>
  match c.callee, c.args.toList, c.argTypes.toList with
  | .builtin .len, [x], t :: _ =>
   match P.underlying t with
   | some .string => do some (.lens (← a0O x))
   | some (.slice _) => do some (.len (← a0O x))
   | _ => none
  | .builtin .max, [x, y], _ => do some (.mnx true (← a0O x) (← a0O y))
  | .builtin .min, [x, y], _ => do some (.mnx false (← a0O x) (← a0O y))
  | _, _, _ => none
 | .lookup t m k ok => if mapT P t && ok then do some (.mlook (← a0O m) (← a0O k)) else none
 | .entry x => do some (.ment (← a0O x))
 | _ => none
def a0B (E : Emb) (env : Env) (tmps : Array Value) : Prop := ∀ t, Rep E (tmps.getD t undef) (look env t)
theorem b0O (E : Emb) (v : Value) : Rep E v (a4W v) := by
 cases v with
 | int k n => exact .int k n
 | bool b => exact .bool b
 | string s => exact .str s
 | slice a l c =>
  unfold a4W
  split <;> first | (rename_i h; cases h) | skip
  ·exact .nil
  ·exact .lit _
 | _ => exact .lit _
theorem a0t {E : Emb} {env : Env} {tmps : Array Value} (h : a0B E env tmps) {x : Operand} {s : Src} (hs : a0O x = some s) : Rep E (Act.eval ⟨tmps, []⟩ x) (s.ev env) := by
 cases x <;> simp [a0O] at hs <;> subst hs
 ·exact h _
 ·exact b0O E _
 ·exact .fn _ [] [] rfl (fun k v a hk => by simp at hk)
theorem b2D {E : Emb} {env : Env} {tmps : Array Value} (h : a0B E env tmps) : ∀ {xs : List Operand} {ss : List Src}, srcs xs = some ss →
  ss.length = xs.length ∧ ∀ (k : Nat) v a, (xs.map (Act.eval ⟨tmps, []⟩))[k]? = some v → (ss.map (·.ev env))[k]? = some a → Rep E v a
 | [], ss, hs => by simp [srcs] at hs; subst hs; exact ⟨rfl, fun k v a hk => by simp at hk⟩
 | x :: xs, ss, hs => by
  simp only [srcs, Option.bind_eq_bind, Option.bind_eq_some_iff] at hs
  obtain ⟨s, h1, r, h2, h3⟩ := hs
  cases h3
  obtain ⟨hl, hr⟩ := b2D h h2
  refine ⟨by simp [hl], fun k v a hk ha => ?_⟩
  cases k with
  | zero => simp at hk ha; subst hk; subst ha; exact a0t h h1
  | succ k => exact hr k v a (by simpa using hk) (by simpa using ha)
theorem a1p {xs : List AV} {wd : Nat} (h : ∀ x ∈ xs, x.cells.length = wd) : (xs.flatMap AV.cells).length = xs.length * wd := by
 induction xs with
 | nil => simp
 | cons x xs ih =>
  simp only [List.flatMap_cons, List.length_append, List.length_cons]
  rw [ih (fun y hy => h y (by simp [hy])), h x (by simp), Nat.add_mul]; omega
theorem b1Z {xs : List AV} {wd : Nat} (h : ∀ x ∈ xs, x.cells.length = wd) (k : Nat) : (xs.drop k).flatMap AV.cells = (xs.flatMap AV.cells).drop (k * wd) := by
 induction xs generalizing k with
 | nil => simp
 | cons x xs ih =>
  cases k with
  | zero => simp
  | succ k =>
   simp only [List.drop_succ_cons, List.flatMap_cons]
   rw [ih (fun y hy => h y (by simp [hy]))]
   have : (k + 1) * wd = x.cells.length + k * wd := by rw [h x (by simp), Nat.add_mul]; omega
   have e1 : List.drop (x.cells.length + k * wd) x.cells = [] := List.drop_eq_nil_of_le (by omega)
   rw [this, List.drop_append, e1, List.nil_append]
   congr 1; omega
theorem a4E {xs : List AV} {wd : Nat} (h : ∀ x ∈ xs, x.cells.length = wd) (k : Nat) : (xs.take k).flatMap AV.cells = (xs.flatMap AV.cells).take (k * wd) := by
 induction xs generalizing k with
 | nil => simp
 | cons x xs ih =>
  cases k with
  | zero => simp
  | succ k =>
   simp only [List.take_succ_cons, List.flatMap_cons]
   rw [ih (fun y hy => h y (by simp [hy]))]
   have : (k + 1) * wd = x.cells.length + k * wd := by rw [h x (by simp), Nat.add_mul]; omega
   have e1 : List.take (x.cells.length + k * wd) x.cells = x.cells := List.take_of_length_le (by omega)
   rw [this, List.take_append, e1]
   congr 2; omega
theorem c3W {xs : List AV} {wd : Nat} (h : ∀ x ∈ xs, x.cells.length = wd) {i : Nat} (hi : i < xs.length) (j : Nat) (hj : j < wd) :
  (xs.flatMap AV.cells)[i * wd + j]? = (xs.getD i .top).cells[j]? := by
 induction xs generalizing i with
 | nil => simp at hi
 | cons x xs ih =>
  have hx := h x (by simp)
  cases i with
  | zero =>
   simp only [List.flatMap_cons, Nat.zero_mul, Nat.zero_add, List.getD_cons_zero]
   rw [List.getElem?_append_left (by omega)]
  | succ i =>
   simp only [List.flatMap_cons, List.getD_cons_succ]
   have : (i + 1) * wd + j = x.cells.length + (i * wd + j) := by rw [hx, Nat.add_mul]; omega
   rw [this, List.getElem?_append_right (by omega)]
   rw [show x.cells.length + (i * wd + j) - x.cells.length = i * wd + j by omega]
   exact ih (fun y hy => h y (by simp [hy])) (by simpa using hi)
theorem c3S {xs : List AV} {i : Nat} (hi : i < xs.length) : xs.getD i .top ∈ xs := by
 rw [List.getD_eq_getElem?_getD, List.getElem?_eq_getElem hi]; exact List.getElem_mem hi
theorem a7U {E : Emb} {v : Value} {a : AV} (h : Rep E v a) (hf : a.fit = true) :
  v.cells.toList.length = a.cells.length ∧ (∀ u ∈ v.cells.toList, u.oneCell' = true) ∧ ∀ (k : Nat) u b, v.cells.toList[k]? = some u → a.cells[k]? = some b → Rep E u b := by
 have one : ∀ {v : Value} {a : AV}, Rep E v a → v.oneCell' = true → a.cells = [a] → v.cells.toList.length = a.cells.length ∧ (∀ u ∈ v.cells.toList, u.oneCell' = true) ∧ ∀ (k : Nat) u b, v.cells.toList[k]? = some u → a.cells[k]? = some b → Rep E u b := by
  intro v a h h1 hc
  have hv : v.cells = #[v] := by cases v <;> first | rfl | simp [Value.oneCell'] at h1
  rw [hv, hc]
  refine ⟨rfl, by simpa using h1, fun k u b hk hb => ?_⟩
  cases k with
  | zero => simp at hk hb; subst hk; subst hb; exact h
  | succ k => simp at hk
 cases h with
 | agg vs cs hlen h1 hrep => exact ⟨by simp [Value.cells, AV.cells, hlen], by simpa [Value.cells] using h1, fun k u b hk hb => hrep k u b (by simpa [Value.cells] using hk) (by simpa [AV.cells] using hb)⟩
 | top v => simp [AV.fit, AV.solid] at hf
 | tup vs cs hlen hrep => simp [AV.fit, AV.solid] at hf
 | lit v => exact one (.lit v) (by simpa [AV.fit, AV.solid] using hf) rfl
 | int k n => exact one (.int k n) rfl rfl
 | bool b => exact one (.bool b) rfl rfl
 | str s => exact one (.str s) rfl rfl
 | nil => exact one .nil rfl rfl
 | sl base cap wd xs vs b o hcap hpos hw hcl hbase hlen hcell hrep => exact one (.sl base cap wd xs vs b o hcap hpos hw hcl hbase hlen hcell hrep) rfl rfl
 | mu blk id off len oc b q cap hlive hb hq hlen hsz hoc => exact one (.mu blk id off len oc b q cap hlive hb hq hlen hsz hoc) rfl rfl
 | mu0 blk id off oc hlive hb hoc => exact one (.mu0 blk id off oc hlive hb hoc) rfl rfl
 | loc blk id i off b hlive hb => exact one (.loc blk id i off b hlive hb) rfl rfl
 | mp blk k id b hlive hb hw => exact one (.mp blk k id b hlive hb hw) (by cases k <;> rfl) rfl
 | dead v a id hr hd h1 => exact one (.dead _ _ id hr hd h1) h1 (by cases a <;> simp [AV.ref] at hr <;> rfl)
 | ro x off b o vs hb hpos hcl hlen hcell hrep => exact one (.ro x off b o vs hb hpos hcl hlen hcell hrep) rfl rfl
 | fn f vs cs hlen hrep => exact one (.fn f vs cs hlen hrep) rfl rfl
 | bfn f vs cs hlen hrep => exact one (.bfn f vs cs hlen hrep) rfl rfl
end Go.Abs
namespace Go.Abs
section
variable {P : Program} {E : Emb} {env : Env} {tmps : Array Value}
theorem a0h {α : Type} {l : List α} {i : Nat} {x : α} (h : l[i]? = some x) : i < l.length := by
 rcases Nat.lt_or_ge i l.length with h' | h'
 ·exact h'
 ·simp [List.getElem?_eq_none h'] at h
theorem a1h {H : Heap} {id : Nat} {b : Blk} (h : hrow H id = some b) : H[id]? = some (some b) := by
 unfold hrow at h
 cases hx : H[id]? with
 | none => simp [hx] at h
 | some x => simp [hx] at h; simp [h]
theorem d9r (hok : HOk E) {v : Value} {p : AV} (hr : Rep E v p) {cs : List AV} (h : atV E.H p = some cs) :
  ∃ (b o : Nat) (vs : List Value), v = .pointer (some ⟨b, o, none⟩) ∧ vs.length = cs.length ∧ (∀ (k : Nat) u, vs[k]? = some u → E.w.cell? ⟨b, o + k, none⟩ = some u ∧ u.oneCell' = true) ∧
   ∀ (k : Nat) u a, vs[k]? = some u → cs[k]? = some a → Rep E u a := by
 cases hr with
 | ro x off b o vs hb hpos hcl hlen hcell hrep =>
  simp [atV] at h; subst h
  refine ⟨b, o + off, vs.drop off, rfl, by simp [hlen], fun k u hk => ?_, fun k u a hk ha => ?_⟩
  ·have := hcell (off + k) u (by simpa using hk)
   rwa [← Nat.add_assoc] at this
  ·exact hrep (off + k) u a (by simpa using hk) (by simpa using ha)
 | loc blk id i off bn hlive hbn =>
  simp only [atV, Option.bind_eq_some_iff] at h
  obtain ⟨blk', hb', h⟩ := h
  have hb2 := a1h hb'
  rw [hlive] at hb2; cases hb2
  split at h
  ·rename_i hi
   cases h
   obtain ⟨c, e, r⟩ := hok.row id blk bn hlive hbn
   have hw := hok.wids id blk hlive
   have hcl : (blk.xs.getD i .top).cells.length = blk.wd := hw _ (c3S hi)
   have hfl : blk.flat.length = blk.xs.length * blk.wd := a1p hw
   have hmul : (i + 1) * blk.wd ≤ blk.xs.length * blk.wd := Nat.mul_le_mul_right _ hi
   have hmul' : (i + 1) * blk.wd = i * blk.wd + blk.wd := by rw [Nat.add_mul]; omega
   refine ⟨bn, i * blk.wd + off, (c.toList.drop (i * blk.wd + off)).take (blk.wd - off), rfl, ?_, ?_, ?_⟩
   ·have := r.fits
    rw [hfl] at this
    rw [List.length_take, List.length_drop, List.length_drop, hcl, Array.length_toList]; omega
   ·intro k u hk
    rw [List.getElem?_take] at hk
    split at hk
    ·rename_i hk'
     simp at hk
     refine ⟨?_, r.one (i * blk.wd + off + k) u (by omega) hk⟩
     rw [cell_of_row _ _ _ _ _ _ (r.heap (by omega))]; exact hk
    ·simp at hk
   ·intro k u a hk ha
    rw [List.getElem?_take] at hk
    split at hk
    ·rename_i hk'
     simp at hk ha
     refine r.rep (i * blk.wd + off + k) u a hk ?_
     have := c3W hw hi (off + k) (by omega)
     rw [← Nat.add_assoc] at this
     exact this.trans ha
    ·simp at hk
  ·simp at h
 | dead v a id hrf hd h1 =>
  cases p <;> simp [AV.ref] at hrf
  ·simp [atV] at h
  ·subst hrf
   simp [atV, hrow, hd] at h
  ·simp [atV] at h
 | _ => simp [atV] at h
theorem d8S (t : TypeId) (d : TypeDesc) (hd : P.underlying t = some d) (w : World) (b o : Nat) (v : Value) :
  (b4c d = false → w.cell? ⟨b, o, none⟩ = some v → (Instr.loadAt t (.pointer (some ⟨b, o, none⟩))).run P w = .ok v w) ∧
  (b4c d = true → ∀ n (vs : List Value), a3y P t = some n → vs.length = n → (∀ (k : Nat) u, vs[k]? = some u → w.cell? ⟨b, o + k, none⟩ = some u) →
   (Instr.loadAt t (.pointer (some ⟨b, o, none⟩))).run P w = .ok (.agg vs.toArray) w) := by
 constructor
 ·intro ha hc
  have : (isAgg t).run P w = .ok false w := by
   simp only [isAgg, Sem.run_bind, run_underlying hd, Result.andThen_ok]
   cases d <;> simp [b4c] at ha <;> rfl
  simp [Instr.loadAt, Instr.sureAddr, loadVar, this, hc]
 ·intro ha n vs hs hl hc
  have : (isAgg t).run P w = .ok true w := by
   simp only [isAgg, Sem.run_bind, run_underlying hd, Result.andThen_ok]
   cases d <;> simp [b4c] at ha <;> rfl
  unfold a3y at hs
  simp only [Option.map_eq_some_iff] at hs
  obtain ⟨i, hi, rfl⟩ := hs
  have hlc := run_loadCells_list (P := P) w ⟨b, o, none⟩ vs (fun j v hj => by rw [Addr.add_lit]; exact hc j v hj)
  rw [hl] at hlc
  simp [Instr.loadAt, Instr.sureAddr, loadVar, this, sizeOf, typeInfo, hi, hlc]
theorem b9I (hok : HOk E) {t : TypeId} {x : Value} {p a : AV} (hr : Rep E x p) {n : Option Nat} {d : TypeDesc} (hd : P.underlying t = some d)
  (hn : (n = none ∧ b4c d = false) ∨ (∃ m, n = some m ∧ b4c d = true ∧ a3y P t = some m)) (h : a7p E.H n p = some a) :
  ∃ v, (Instr.loadAt t x).run P E.w = .ok v E.w ∧ Rep E v a := by
 simp only [a7p, Option.bind_eq_some_iff] at h
 obtain ⟨cs, hat, h⟩ := h
 obtain ⟨b, o, vs, rfl, hlen, hcell, hrep⟩ := d9r hok hr hat
 rcases hn with ⟨rfl, hag⟩ | ⟨m, rfl, hag, hsz⟩
 ·simp only at h
  have h0 : 0 < cs.length := by
   rcases Nat.lt_or_ge 0 cs.length with h' | h'
   ·exact h'
   ·simp [List.getElem?_eq_none h'] at h
  refine ⟨vs[0]'(by omega), (d8S t d hd E.w b o _).1 hag (by simpa using (hcell 0 _ (List.getElem?_eq_getElem (by omega))).1), hrep 0 _ _ (List.getElem?_eq_getElem (by omega)) h⟩
 ·simp only at h
  split at h
  ·rename_i hle
   cases h
   refine ⟨.agg (vs.take m).toArray, (d8S t d hd E.w b o .nilFunc).2 hag m _ hsz (by simp; omega) (fun k u hk => ?_), .agg _ _ (by simp [hlen]) ?_ ?_⟩
   ·rw [List.getElem?_take] at hk
    split at hk
    ·exact (hcell k u hk).1
    ·simp at hk
   ·intro u hu
    obtain ⟨k, hk, rfl⟩ := List.getElem_of_mem (List.mem_of_mem_take hu)
    exact (hcell k _ (List.getElem?_eq_getElem hk)).2
   ·intro k u a hk ha
    rw [List.getElem?_take] at hk ha
    split at hk
    ·rename_i hk'
     simp only [hk', if_true] at ha
     exact hrep k u a hk ha
    ·simp at hk
  ·simp at h
theorem e3D (hok : HOk E) {t e : TypeId} {x i : Value} {a ia r : AV} (hx : Rep E x a) (hi : Rep E i ia) {wd : Nat} (ht : P.underlying t = some (.slice e)) (hwd : a3y P e = some wd)
  (h : idxV E.H wd a ia = some r) : ∃ v, (Instr.indexAt t x i).run P E.w = .ok v E.w ∧ Rep E v r := by
 unfold a3y at hwd
 simp only [Option.map_eq_some_iff] at hwd
 obtain ⟨inf, hinf, rfl⟩ := hwd
 unfold idxV at h
 cases hi with
 | int k n =>
  simp only at h
  cases hx with
  | sl base cap wd xs vs b o hcap hpos hw hcl hbase hlen hcell hrep =>
   simp only at h
   split at h
   ·rename_i hc
    obtain ⟨rfl, h0, h1⟩ := hc
    cases h
    obtain ⟨m, rfl⟩ := Int.eq_ofNat_of_zero_le h0
    have hm : m < xs.length := by omega
    have hne : xs ≠ [] := by rintro rfl; simp at hm
    obtain ⟨rfl, hmut⟩ := hbase.resolve_left hne
    have hcl' := hw _ (c3S hm)
    have hfl : (xs.flatMap AV.cells).length = xs.length * inf.size := a1p hw
    have hmul : (m + 1) * inf.size ≤ xs.length * inf.size := Nat.mul_le_mul_right _ hm
    have hmul' : (m + 1) * inf.size = m * inf.size + inf.size := by rw [Nat.add_mul]; omega
    refine ⟨.pointer (some ⟨b, o + m * inf.size, none⟩), ?_, ?_⟩
    ·simp [Instr.indexAt, asIntOf, run_underlying ht, hm, sizeOf, typeInfo, hinf, Addr.add_lit]
    ·have := Rep.ro (E := E) (xs.getD m .top) 0 b (o + m * inf.size) ((vs.drop (m * inf.size)).take inf.size) hmut (by omega)
      (fun c hc => hcl c (List.mem_flatMap.2 ⟨_, c3S hm, hc⟩)) (by rw [List.length_take, List.length_drop, hlen, hfl, hcl']; omega)
      (fun k u hk => by
       rw [List.getElem?_take] at hk
       split at hk
       ·simp at hk
        have := hcell _ u hk
        rwa [← Nat.add_assoc] at this
       ·simp at hk)
      (fun k u a hk ha => by
       rw [List.getElem?_take] at hk
       split at hk
       ·rename_i hk'
        simp at hk
        exact hrep _ u a hk ((c3W hw hm k hk').trans ha)
       ·simp at hk)
     simpa using this
   ·simp at h
  | mu blk id off len oc bn q cap hlive hbn hq hlen hsz hoc =>
   simp only [Option.bind_eq_some_iff] at h
   obtain ⟨blk', hb', h⟩ := h
   have hb2 := a1h hb'
   rw [hlive] at hb2; cases hb2
   split at h
   ·rename_i hc
    obtain ⟨hwd, h0, h1⟩ := hc
    cases h
    obtain ⟨m, rfl⟩ := Int.eq_ofNat_of_zero_le h0
    have hm : m < len := by omega
    have hq' : q = off * blk.wd := hq.resolve_right (by omega)
    refine ⟨.pointer (some ⟨bn, (off + m) * blk.wd + 0, none⟩), ?_, ?_⟩
    ·have e : off * blk.wd + m * blk.wd = (off + m) * blk.wd := by rw [Nat.add_mul]
     simp [Instr.indexAt, asIntOf, run_underlying ht, hm, sizeOf, typeInfo, hinf, Addr.add_lit, hq', ← hwd, e]
    ·exact .loc blk id (off + m) 0 bn hlive hbn
   ·simp at h
  | mu0 blk id off oc hlive hbn hoc =>
   simp only [Option.bind_eq_some_iff] at h
   obtain ⟨blk', hb', h⟩ := h
   split at h
   ·rename_i hc; omega
   ·simp at h
  | dead v a id hrf hd h1 =>
   cases a <;> simp [AV.ref] at hrf
   ·subst hrf
    simp [hrow, hd] at h
   ·simp at h
   ·simp at h
  | _ => simp at h
 | dead v ia id hrf hd h1 =>
  cases ia <;> simp [AV.ref] at hrf <;> simp at h
 | _ => simp at h
theorem a2D {xv : Option Value} {xa : Option AV} (hr : (xv = none ∧ xa = none) ∨ ∃ v a, xv = some v ∧ xa = some a ∧ Rep E v a) {d i : Int} (h : a3V d xa = some i) :
  (xv = none ∧ xa = none ∧ i = d) ∨ ∃ k, xv = some (.int k i) ∧ xa = some (.int k i) := by
 rcases hr with ⟨rfl, rfl⟩ | ⟨v, a, rfl, rfl, hr⟩
 ·simp [a3V] at h; exact .inl ⟨rfl, rfl, h.symm⟩
 ·cases hr with
  | int k n => simp [a3V] at h; subst h; exact .inr ⟨k, rfl, rfl⟩
  | dead v a id hrf hd h1 => cases a <;> simp [AV.ref] at hrf <;> simp [a3V] at h
  | _ => simp [a3V] at h
theorem c8S (w : World) (len cap : Nat) (lo hi mx : Option Value) (l h m : Nat)
  (hlo : (lo = none ∧ l = 0) ∨ ∃ k, lo = some (.int k (l : Int))) (hhi : (hi = none ∧ h = len ∧ mx = none) ∨ ∃ k, hi = some (.int k (h : Int)))
  (hmx : (mx = none ∧ m = cap) ∨ ∃ k, mx = some (.int k (m : Int))) (h1 : l ≤ h) (h2 : h ≤ m) (h3 : m ≤ cap) (b : Bool) :
  (Instr.sliceBounds b len cap lo hi mx).run P w = .ok (l, h, m) w := by
 rcases hmx with ⟨rfl, rfl⟩ | ⟨k3, rfl⟩ <;> rcases hhi with ⟨rfl, rfl, hn⟩ | ⟨k2, rfl⟩ <;> rcases hlo with ⟨rfl, rfl⟩ | ⟨k1, rfl⟩ <;>
  first
   | (simp at hn; done)
   | simp [Instr.sliceBounds, Instr.sliceBound, asIntOf, h1, h2, h3]
theorem e2g (hok : HOk E) {t e : TypeId} {x : Value} {a r : AV} (hx : Rep E x a) {wd : Nat} (ht : P.underlying t = some (.slice e)) (hwd : a3y P e = some wd)
  {lo hi mx : Option Value} {la ha ma : Option AV}
  (hlo : (lo = none ∧ la = none) ∨ ∃ v a, lo = some v ∧ la = some a ∧ Rep E v a) (hhi : (hi = none ∧ ha = none) ∨ ∃ v a, hi = some v ∧ ha = some a ∧ Rep E v a)
  (hmx : (mx = none ∧ ma = none) ∨ ∃ v a, mx = some v ∧ ma = some a ∧ Rep E v a)
  (h : slcV E.H wd a la ha ma = some r) : ∃ v, (Instr.sliceAt t x lo hi mx).run P E.w = .ok v E.w ∧ Rep E v r := by
 unfold a3y at hwd
 simp only [Option.map_eq_some_iff] at hwd
 obtain ⟨inf, hinf, rfl⟩ := hwd
 -- the bounds, aXs numbers
 have key : ∀ (len cap l hh m : Nat) (base : Option Addr), x = .slice base len cap → ((lo = none ∧ l = 0) ∨ ∃ k, lo = some (.int k (l : Int))) → ((hi = none ∧ hh = len ∧ mx = none) ∨ ∃ k, hi = some (.int k (hh : Int))) →
   ((mx = none ∧ m = cap) ∨ ∃ k, mx = some (.int k (m : Int))) → l ≤ hh → hh ≤ m → m ≤ cap →
   (Instr.sliceAt t x lo hi mx).run P E.w = .ok (.slice (if m = l then base else base.map (·.add (l * inf.size))) (hh - l) (m - l)) E.w := by
  intro len cap l hh m base hxe h1 h2 h3 h4 h5 h6
  subst hxe
  have hb := c8S (P := P) E.w len cap lo hi mx l hh m h1 h2 h3 h4 h5 h6 true
  simp [Instr.sliceAt, Instr.slice, run_underlying ht, hb, sizeOf, typeInfo, hinf]
 cases hx with
 | sl base cap wd xs vs b o hcap hpos hw hcl hbase hlen hcell hrep =>
  simp only [slcV, Option.bind_eq_some_iff] at h
  obtain ⟨l, hl, hh, hhh, h⟩ := h
  have hl' := a2D hlo hl
  have hh' := a2D hhi hhh
  have main : ∀ (m : Int), wd = inf.size → 0 ≤ l → l ≤ hh → hh ≤ m → m ≤ cap → hh ≤ xs.length → ((mx = none ∧ m = cap) ∨ ∃ k, mx = some (.int k m)) → (mx = none ∨ ∃ k, hi = some (.int k hh)) →
    ∃ v, (Instr.sliceAt t (.slice base xs.length cap) lo hi mx).run P E.w = .ok v E.w ∧ Rep E v (.sl inf.size ((xs.drop l.toNat).take (hh.toNat - l.toNat))) := by
   intro m hwd h0 h1 h2 h3 h4 hm1 hm2
   obtain ⟨l, rfl⟩ := Int.eq_ofNat_of_zero_le h0
   obtain ⟨hh, rfl⟩ := Int.eq_ofNat_of_zero_le (show 0 ≤ hh by omega)
   obtain ⟨m, rfl⟩ := Int.eq_ofNat_of_zero_le (show 0 ≤ m by omega)
   subst hwd
   refine ⟨_, key xs.length cap l hh m base rfl ?_ ?_ ?_ (by omega) (by omega) (by omega), ?_⟩
   ·rcases hl' with ⟨h, _, h'⟩ | ⟨k, h, _⟩
    ·exact .inl ⟨h, by omega⟩
    ·exact .inr ⟨k, h⟩
   ·rcases hh' with ⟨h, _, h'⟩ | ⟨k, h, _⟩
    ·rcases hm2 with hm2 | ⟨k, hm2⟩
     ·exact .inl ⟨h, by omega, hm2⟩
     ·rw [h] at hm2; simp at hm2
    ·exact .inr ⟨k, h⟩
   ·rcases hm1 with ⟨h, h'⟩ | ⟨k, h⟩
    ·exact .inl ⟨h, by omega⟩
    ·exact .inr ⟨k, h⟩
   ·simp only [Int.toNat_natCast]
    have hl : ((xs.drop l).take (hh - l)).length = hh - l := by simp; omega
    have hw' : ∀ x ∈ (xs.drop l).take (hh - l), x.cells.length = inf.size := fun x hx => hw x (List.mem_of_mem_drop (List.mem_of_mem_take hx))
    have hfl : ((xs.drop l).take (hh - l)).flatMap AV.cells = ((xs.flatMap AV.cells).drop (l * inf.size)).take ((hh - l) * inf.size) := by
     rw [a4E (wd := inf.size) (fun x hx => hw x (List.mem_of_mem_drop hx)), b1Z hw]
    have hR := Rep.sl (E := E) (if m = l then base else base.map (·.add (l * inf.size))) (m - l) inf.size ((xs.drop l).take (hh - l)) ((vs.drop (l * inf.size)).take ((hh - l) * inf.size)) b (o + l * inf.size)
     (by omega) hpos hw' (fun c hc => by rw [hfl] at hc; exact hcl c (List.mem_of_mem_drop (List.mem_of_mem_take hc)))
     (by
      by_cases he : hh = l
      ·left; subst he; simp
      ·right
       have hne : xs ≠ [] := by rintro rfl; simp at h4; omega
       obtain ⟨rfl, hm⟩ := hbase.resolve_left hne
       refine ⟨?_, hm⟩
       rw [if_neg (by omega)]
       simp [Addr.add_lit])
     (by rw [hfl]; simp [hlen])
     (fun k u hk => by
      rw [List.getElem?_take] at hk
      split at hk
      ·simp at hk
       have := hcell _ u hk
       rwa [← Nat.add_assoc] at this
      ·simp at hk)
     (fun k u a hk ha => by
      rw [hfl] at ha
      rw [List.getElem?_take] at hk ha
      split at hk
      ·rename_i hk'
       simp only [hk', if_true] at ha
       simp at hk ha
       exact hrep _ u a hk ha
      ·simp at hk)
    rw [hl] at hR
    exact hR
  cases hma : ma with
  | none =>
   rw [hma] at h
   simp only at h
   split at h
   ·rename_i hc
    cases h
    obtain ⟨h1, h2, h3, h4⟩ := hc
    have hmn : mx = none := by
     rcases hmx with ⟨h, _⟩ | ⟨_, _, _, h, _⟩
     ·exact h
     ·rw [hma] at h; simp at h
    exact main cap h1 h2 h3 (by omega) (by omega) h4 (.inl ⟨hmn, rfl⟩) (.inl hmn)
   ·simp at h
  | some ma' =>
   rw [hma] at h hmx
   rcases hmx with ⟨_, h'⟩ | ⟨mv, mav, hmv, hmav, hmr⟩
   ·simp at h'
   ·cases hmav
    cases hmr with
    | int k m =>
     simp only at h
     split at h
     ·rename_i hc
      cases h
      obtain ⟨h1, h1', h2, h3, h4, h5⟩ := hc
      refine main m h1 h2 h3 h4 (by omega) (by omega) (.inr ⟨k, hmv⟩) ?_
      rcases hh' with ⟨_, h, _⟩ | ⟨k, h, _⟩
      ·rw [h] at h1'; simp at h1'
      ·exact .inr ⟨k, h⟩
     ·simp at h
    | dead v a id hrf hd h1 => cases ma' <;> simp [AV.ref] at hrf <;> simp at h
    | _ => simp at h
 | mu blk id off len oc bn q cap hlive hbn hq hlen hsz hoc =>
  simp only [slcV, Option.bind_eq_some_iff] at h
  obtain ⟨blk', hb', l, hl, hh, hhh, h⟩ := h
  have hb2 := a1h hb'
  rw [hlive] at hb2; cases hb2
  have hl' := a2D hlo hl
  have hh' := a2D hhi hhh
  have main : ∀ (m : Int) (oc' : Option Nat), blk.wd = inf.size → 0 ≤ l → l ≤ hh → hh ≤ m → m ≤ cap → hh ≤ len → ((mx = none ∧ m = cap) ∨ ∃ k, mx = some (.int k m)) → (mx = none ∨ ∃ k, hi = some (.int k hh)) →
    (∀ c, oc' = some c → m.toNat - l.toNat = c) →
    ∃ v, (Instr.sliceAt t (.slice (some ⟨bn, q, none⟩) len cap) lo hi mx).run P E.w = .ok v E.w ∧ Rep E v (.mu id (off + l.toNat) (hh.toNat - l.toNat) oc') := by
   intro m oc' hwd h0 h1 h2 h3 h4 hm1 hm2 hoc'
   obtain ⟨l, rfl⟩ := Int.eq_ofNat_of_zero_le h0
   obtain ⟨hh, rfl⟩ := Int.eq_ofNat_of_zero_le (show 0 ≤ hh by omega)
   obtain ⟨m, rfl⟩ := Int.eq_ofNat_of_zero_le (show 0 ≤ m by omega)
   refine ⟨_, key len cap l hh m _ rfl ?_ ?_ ?_ (by omega) (by omega) (by omega), ?_⟩
   ·rcases hl' with ⟨h, _, h'⟩ | ⟨k, h, _⟩
    ·exact .inl ⟨h, by omega⟩
    ·exact .inr ⟨k, h⟩
   ·rcases hh' with ⟨h, _, h'⟩ | ⟨k, h, _⟩
    ·rcases hm2 with hm2 | ⟨k, hm2⟩
     ·exact .inl ⟨h, by omega, hm2⟩
     ·rw [h] at hm2; simp at hm2
    ·exact .inr ⟨k, h⟩
   ·rcases hm1 with ⟨h, h'⟩ | ⟨k, h⟩
    ·exact .inl ⟨h, by omega⟩
    ·exact .inr ⟨k, h⟩
   ·simp only [Int.toNat_natCast] at hoc' ⊢
    have hmul : (off + l + (m - l)) * blk.wd ≤ (off + cap) * blk.wd := Nat.mul_le_mul_right _ (by omega)
    by_cases hml : m = l
    ·rw [if_pos hml]
     exact .mu blk id (off + l) (hh - l) oc' bn q (m - l) hlive hbn (.inr ⟨by omega, by omega⟩) (by omega) (by omega) hoc'
    ·rw [if_neg hml]
     have hq' : q = off * blk.wd := hq.resolve_right (by omega)
     have e : (some (⟨bn, q, none⟩ : Addr)).map (·.add (l * inf.size)) = some ⟨bn, (off + l) * blk.wd, none⟩ := by
      simp [Addr.add_lit, hq', ← hwd, Nat.add_mul]
     rw [e]
     exact .mu blk id (off + l) (hh - l) oc' bn _ (m - l) hlive hbn (.inl rfl) (by omega) (by omega) hoc'
  cases hma : ma with
  | none =>
   rw [hma] at h
   simp only at h
   split at h
   ·rename_i hc
    cases h
    obtain ⟨h1, h2, h3, h4⟩ := hc
    have hmn : mx = none := by
     rcases hmx with ⟨h, _⟩ | ⟨_, _, _, h, _⟩
     ·exact h
     ·rw [hma] at h; simp at h
    refine main cap _ h1 h2 h3 (by omega) (by omega) h4 (.inl ⟨hmn, rfl⟩) (.inl hmn) ?_
    intro c hc
    simp only [Option.map_eq_some_iff] at hc
    obtain ⟨c', hc', rfl⟩ := hc
    have := hoc c' hc'
    omega
   ·simp at h
  | some ma' =>
   rw [hma] at h hmx
   rcases hmx with ⟨_, h'⟩ | ⟨mv, mav, hmv, hmav, hmr⟩
   ·simp at h'
   ·cases hmav
    cases hmr with
    | int k m =>
     simp only at h
     split at h
     ·rename_i hc
      cases h
      obtain ⟨h1, h1', h2, h3, h4, h5⟩ := hc
      refine main m _ h1 h2 h3 h4 (by omega) (by omega) (.inr ⟨k, hmv⟩) ?_ (fun c hc => by cases hc; rfl)
      rcases hh' with ⟨_, h, _⟩ | ⟨k, h, _⟩
      ·rw [h] at h1'; simp at h1'
      ·exact .inr ⟨k, h⟩
     ·simp at h
    | dead v a id hrf hd h1 => cases ma' <;> simp [AV.ref] at hrf <;> simp at h
    | _ => simp at h
 | mu0 blk id off oc hlive hbn hoc =>
  simp only [slcV, Option.bind_eq_some_iff] at h
  obtain ⟨blk', hb', l, hl, hh, hhh, h⟩ := h
  have hb2 := a1h hb'
  rw [hlive] at hb2; cases hb2
  have hl' := a2D hlo hl
  have hh' := a2D hhi hhh
  have main : ∀ (m : Int) (oc' : Option Nat), 0 ≤ l → l ≤ hh → hh ≤ m → m ≤ (0 : Nat) → ((mx = none ∧ m = (0 : Nat)) ∨ ∃ k, mx = some (.int k m)) → (mx = none ∨ ∃ k, hi = some (.int k hh)) → (∀ c, oc' = some c → 0 = c) →
    ∃ v, (Instr.sliceAt t (.slice none 0 0) lo hi mx).run P E.w = .ok v E.w ∧ Rep E v (.mu id (off + l.toNat) (hh.toNat - l.toNat) oc') := by
   intro m oc' h0 h1 h2 h3 hm1 hm2 hoc'
   obtain rfl : l = (0 : Nat) := by omega
   obtain rfl : hh = (0 : Nat) := by omega
   obtain rfl : m = (0 : Nat) := by omega
   refine ⟨_, key 0 0 0 0 0 none rfl ?_ ?_ ?_ (by omega) (by omega) (by omega), ?_⟩
   ·rcases hl' with ⟨h, _, h'⟩ | ⟨k, h, _⟩
    ·exact .inl ⟨h, rfl⟩
    ·exact .inr ⟨k, h⟩
   ·rcases hh' with ⟨h, _, h'⟩ | ⟨k, h, _⟩
    ·rcases hm2 with hm2 | ⟨k, hm2⟩
     ·exact .inl ⟨h, rfl, hm2⟩
     ·rw [h] at hm2; simp at hm2
    ·exact .inr ⟨k, h⟩
   ·rcases hm1 with ⟨h, h'⟩ | ⟨k, h⟩
    ·exact .inl ⟨h, rfl⟩
    ·exact .inr ⟨k, h⟩
   ·exact .mu0 blk id _ oc' hlive hbn hoc'
  cases hma : ma with
  | none =>
   rw [hma] at h
   simp only at h
   split at h
   ·rename_i hc
    cases h
    obtain ⟨h1, h2, h3, h4⟩ := hc
    have hmn : mx = none := by
     rcases hmx with ⟨h, _⟩ | ⟨_, _, _, h, _⟩
     ·exact h
     ·rw [hma] at h; simp at h
    refine main (0 : Nat) _ h2 h3 (by omega) (by omega) (.inl ⟨hmn, rfl⟩) (.inl hmn) ?_
    intro c hc
    simp only [Option.map_eq_some_iff] at hc
    obtain ⟨c', hc', rfl⟩ := hc
    have := hoc c' hc'
    omega
   ·simp at h
  | some ma' =>
   rw [hma] at h hmx
   rcases hmx with ⟨_, h'⟩ | ⟨mv, mav, hmv, hmav, hmr⟩
   ·simp at h'
   ·cases hmav
    cases hmr with
    | int k m =>
     simp only at h
     split at h
     ·rename_i hc
      cases h
      obtain ⟨h1, h1', h2, h3, h4, h5⟩ := hc
      refine main m _ h2 h3 h4 (by omega) (.inr ⟨k, hmv⟩) ?_ (fun c hc => by cases hc; omega)
      rcases hh' with ⟨_, h, _⟩ | ⟨k, h, _⟩
      ·rw [h] at h1'; simp at h1'
      ·exact .inr ⟨k, h⟩
     ·simp at h
    | dead v a id hrf hd h1 => cases ma' <;> simp [AV.ref] at hrf <;> simp at h
    | _ => simp at h
 | dead v a id hrf hd h1 =>
  cases a <;> simp [AV.ref] at hrf
  ·subst hrf
   simp [slcV, hrow, hd] at h
  ·simp [slcV] at h
  ·simp [slcV] at h
 | _ => simp [slcV] at h
theorem d9U {t : TypeId} {x : Value} {a r : AV} (hx : Rep E x a) (ht : P.underlying t = some .string)
  {lo hi : Option Value} {la ha : Option AV}
  (hlo : (lo = none ∧ la = none) ∨ ∃ v a, lo = some v ∧ la = some a ∧ Rep E v a) (hhi : (hi = none ∧ ha = none) ∨ ∃ v a, hi = some v ∧ ha = some a ∧ Rep E v a)
  (h : slcS a la ha = some r) : ∃ v, (Instr.sliceAt t x lo hi none).run P E.w = .ok v E.w ∧ Rep E v r := by
 cases hx with
 | str s =>
  simp only [slcS, Option.bind_eq_some_iff] at h
  obtain ⟨l, hl, hh, hhh, h⟩ := h
  have hl' := a2D hlo hl
  have hh' := a2D hhi hhh
  split at h
  ·rename_i hc
   cases h
   obtain ⟨h0, h1, h2⟩ := hc
   obtain ⟨l, rfl⟩ := Int.eq_ofNat_of_zero_le h0
   obtain ⟨hh, rfl⟩ := Int.eq_ofNat_of_zero_le (show 0 ≤ hh by omega)
   have hb := c8S (P := P) E.w s.size s.size lo hi none l hh s.size
    (by
     rcases hl' with ⟨h, _, h'⟩ | ⟨k, h, _⟩
     ·exact .inl ⟨h, by omega⟩
     ·exact .inr ⟨k, h⟩)
    (by
     rcases hh' with ⟨h, _, h'⟩ | ⟨k, h, _⟩
     ·exact .inl ⟨h, by omega, rfl⟩
     ·exact .inr ⟨k, h⟩) (.inl ⟨rfl, rfl⟩) (by omega) (by omega) (Nat.le_refl _) false
   refine ⟨.string (s.extract l hh), by simp [Instr.sliceAt, Instr.slice, run_underlying ht, hb], ?_⟩
   simp only [Int.toNat_natCast]
   exact .str _
  ·simp at h
 | dead v a id hrf hd h1 => cases a <;> simp [AV.ref] at hrf <;> simp [slcS] at h
 | _ => simp [slcS] at h
theorem b1Y (off : Nat) : ∀ (us : List Value) (j0 : Nat) (cs : Array Value), off + j0 + us.length ≤ cs.size →
  ((us.zipIdx j0).foldl (fun cs (p : Value × Nat) => cs.setIfInBounds (off + p.2) p.1) cs).toList = cs.toList.take (off + j0) ++ us ++ cs.toList.drop (off + j0 + us.length)
 | [], j0, cs, h => by simp
 | u :: us, j0, cs, h => by
  simp only [List.zipIdx_cons, List.foldl_cons, List.length_cons] at h ⊢
  rw [b1Y off us (j0 + 1) _ (by simp; omega)]
  simp only [Array.toList_setIfInBounds, List.take_set, List.drop_set]
  rw [if_pos (by omega)]
  have e1 : off + (j0 + 1) = off + j0 + 1 := by omega
  rw [e1, List.take_succ_eq_append_getElem (by simp; omega)]
  rw [List.set_append]
  simp only [List.length_take, Array.length_toList]
  rw [if_neg (by omega)]
  have e2 : off + j0 - min (off + j0) cs.size = 0 := by omega
  rw [e2]
  simp only [List.set_cons_zero, List.append_assoc, List.cons_append, List.nil_append, List.singleton_append]
  rw [show off + j0 + 1 + us.length = off + j0 + (us.length + 1) by omega]
theorem d9T {cs : List AV} {zs : List Value} (hl : zs.length = cs.length) (h1 : ∀ v ∈ zs, v.oneCell' = true)
  (hr : ∀ (k : Nat) u a, zs[k]? = some u → cs[k]? = some a → Rep E u a) {us : List Value} {aXs : List AV} (hul : us.length = aXs.length) (hu1 : ∀ u ∈ us, u.oneCell' = true)
  (hur : ∀ (k : Nat) u a, us[k]? = some u → aXs[k]? = some a → Rep E u a) (off : Nat) (hfit : off + aXs.length ≤ cs.length) :
  (zs.take off ++ us ++ zs.drop (off + us.length)).length = (a2i cs off aXs).length ∧ (∀ v ∈ zs.take off ++ us ++ zs.drop (off + us.length), v.oneCell' = true) ∧
  ∀ (k : Nat) u a, (zs.take off ++ us ++ zs.drop (off + us.length))[k]? = some u → (a2i cs off aXs)[k]? = some a → Rep E u a := by
 refine ⟨by simp [a2i]; omega, ?_, ?_⟩
 ·intro v hv
  simp only [List.mem_append] at hv
  rcases hv with (hv | hv) | hv
  ·exact h1 v (List.mem_of_mem_take hv)
  ·exact hu1 v hv
  ·exact h1 v (List.mem_of_mem_drop hv)
 ·intro k u a hk ha
  unfold a2i at ha
  rw [List.append_assoc] at hk ha
  rcases Nat.lt_or_ge k off with h | h
  ·rw [List.getElem?_append_left (by simp; omega)] at hk ha
   rw [List.getElem?_take] at hk ha
   simp only [h, if_true] at hk ha
   exact hr k u a hk ha
  ·rw [List.getElem?_append_right (by simp; omega)] at hk ha
   have t1 : (zs.take off).length = off := by simp; omega
   have t2 : (cs.take off).length = off := by simp; omega
   rw [t1] at hk
   rw [t2] at ha
   rcases Nat.lt_or_ge (k - off) us.length with h' | h'
   ·rw [List.getElem?_append_left h'] at hk
    rw [List.getElem?_append_left (by omega)] at ha
    exact hur _ u a hk ha
   ·rw [List.getElem?_append_right h'] at hk
    rw [List.getElem?_append_right (by omega)] at ha
    simp at hk ha
    rw [hul] at hk
    exact hr _ u a hk ha
theorem d0B (he : a0B E env tmps) (fs : Array Field) (places : Array (Nat × Nat)) (hpl : ∀ (i : Nat) f, fs[i]? = some f → ∀ n, a3y P f.type = some n → places[i]? = some (f.offset, n)) :
  ∀ (a1Q : List (Nat × Operand)) (ps : List (Nat × Nat × Src)) (zs : Array Value) (cs out : List AV), c5c P fs a1Q = some ps → bldV env cs ps = some out →
   zs.toList.length = cs.length → (∀ v ∈ zs.toList, v.oneCell' = true) → (∀ (k : Nat) u a, zs.toList[k]? = some u → cs[k]? = some a → Rep E u a) →
   ∃ us : Array Value, Instr.fill (places[·]?) zs (a1Q.map fun p => (p.1, Act.eval ⟨tmps, []⟩ p.2)) = some us ∧ us.toList.length = out.length ∧ (∀ v ∈ us.toList, v.oneCell' = true) ∧
    ∀ (k : Nat) u a, us.toList[k]? = some u → out[k]? = some a → Rep E u a
 | [], ps, zs, cs, out, hp, hb, hl, h1, hr => by
  simp [c5c] at hp; subst hp
  simp [bldV] at hb; subst hb
  exact ⟨zs, rfl, hl, h1, hr⟩
 | (i, x) :: a1Q, ps, zs, cs, out, hp, hb, hl, h1, hr => by
  simp only [c5c, Option.bind_eq_bind, Option.bind_eq_some_iff] at hp
  obtain ⟨f, hf, n, hn, s, hs, r, hpr, hps⟩ := hp
  cases hps
  simp only [bldV] at hb
  split at hb
  ·rename_i hc
   obtain ⟨c1, c2, c3⟩ := hc
   have hrep := a0t he hs
   obtain ⟨q1, q2, q3⟩ := a7U hrep c3
   have hpi := hpl i f hf n hn
   have S := d9T hl h1 hr q1 q2 q3 f.offset (by omega)
   have hsz : (Act.eval ⟨tmps, []⟩ x).cells.size = n := by rw [← Array.length_toList, q1, c1]
   have hfold := b1Y f.offset (Act.eval ⟨tmps, []⟩ x).cells.toList 0 zs (by simp at hl ⊢; omega)
   simp only [Nat.add_zero] at hfold
   have hz : ((Act.eval ⟨tmps, []⟩ x).cells.zipIdx.foldl (fun cs (p : Value × Nat) => cs.setIfInBounds (f.offset + p.2) p.1) zs) =
     ((Act.eval ⟨tmps, []⟩ x).cells.toList.zipIdx.foldl (fun cs (p : Value × Nat) => cs.setIfInBounds (f.offset + p.2) p.1) zs) := by
    rw [← Array.foldl_toList, Array.toList_zipIdx]
   obtain ⟨us, g1, g2, g3, g4⟩ := d0B he fs places hpl a1Q r ((Act.eval ⟨tmps, []⟩ x).cells.toList.zipIdx.foldl (fun cs (p : Value × Nat) => cs.setIfInBounds (f.offset + p.2) p.1) zs) (a2i cs f.offset (s.ev env).cells) out hpr hb
    (by rw [hfold]; exact S.1) (by rw [hfold]; exact S.2.1) (by rw [hfold]; exact S.2.2)
   refine ⟨us, ?_, g2, g3, g4⟩
   simp only [List.map_cons, Instr.fill, hpi]
   rw [if_neg (by simp [hsz]; simp at hl; omega)]
   exact (congrArg (fun z => Instr.fill (places[·]?) z _) hz).trans g1
  ·simp at hb
theorem b1j (he : a0B E env tmps) {x : Option Operand} {s : Option Src} (h : c0B x = some s) :
  (x.map (Act.eval ⟨tmps, []⟩) = none ∧ s.map (·.ev env) = none) ∨ ∃ v a, x.map (Act.eval ⟨tmps, []⟩) = some v ∧ s.map (·.ev env) = some a ∧ Rep E v a := by
 cases x with
 | none => simp [c0B] at h; subst h; exact .inl ⟨rfl, rfl⟩
 | some x =>
  simp only [c0B, Option.map_eq_some_iff] at h
  obtain ⟨s', hs, rfl⟩ := h
  exact .inr ⟨_, _, rfl, rfl, a0t he hs⟩
theorem a0U {v : Value} {k : IntKind} {n : Int} (h : Rep E v (.int k n)) : v = .int k n := by
 cases h with
 | int => rfl
 | dead v a id hr hd h1 => simp [AV.ref] at hr
theorem a2u {v : Value} {b : Bool} (h : Rep E v (.bool b)) : v = .bool b := by
 cases h with
 | bool => rfl
 | dead v a id hr hd h1 => simp [AV.ref] at hr
theorem a8w {v : Value} {s : ByteArray} (h : Rep E v (.str s)) : v = .string s := by
 cases h with
 | str => rfl
 | dead v a id hr hd h1 => simp [AV.ref] at hr
theorem c4O (op : BinOp) (t : TypeId) (x y : Operand) (k k' : IntKind) (m n : Int) (w : World) : (eqGuard op t x y (.int k m) (.int k' n)).run P w = .ok () w := by
 unfold eqGuard; split <;> rfl
theorem c4N (op : BinOp) (t : TypeId) (x y : Operand) (m n : ByteArray) (w : World) : (eqGuard op t x y (.string m) (.string n)).run P w = .ok () w := by
 unfold eqGuard; split <;> rfl
theorem c3z (op : BinOp) (t : TypeId) (x y : Operand) (m n : Bool) (w : World) : (eqGuard op t x y (.bool m) (.bool n)).run P w = .ok () w := by
 unfold eqGuard; split <;> rfl
theorem e4D {op : BinOp} {t : TypeId} {x y : Operand} {xv yv : Value} {a b r : AV} (hx : Rep E xv a) (hy : Rep E yv b) (h : binV op a b = some r) :
  ∃ v, (do eqGuard op t x y xv yv; binOp op t xv yv : Sem Value).run P E.w = .ok v E.w ∧ Rep E v r := by
 unfold binV at h
 split at h
 ·rename_i k m k' n
  have := a0U hx; have := a0U hy; subst_vars
  simp only [Sem.run_bind, c4O, Result.andThen_ok]
  have sh : ∀ (op : BinOp), op = .shl ∨ op = .shr → b0I op k m n = some r → ∃ v, (Op.shift op k m k' n).run P E.w = .ok v E.w ∧ Rep E v r := by
   intro op hop h
   unfold b0I at h
   split at h
   ·simp at h
   ·rename_i hn
    rcases hop with rfl | rfl
    ·cases h; exact ⟨_, by simp [Op.shift, hn], .int _ _⟩
    ·cases h; exact ⟨_, by simp [Op.shift, hn], .int _ _⟩
  cases op <;> simp only at h
  case shl => exact sh .shl (.inl rfl) h
  case shr => exact sh .shr (.inr rfl) h
  all_goals
   split at h
   ·rename_i hk; subst hk
    simp only [a4C] at h
    first
     | (cases h; refine ⟨.int _ _, ?_, .int _ _⟩; simp [binOp, Op.intArith, Op.intBits]; done)
     | (cases h; refine ⟨.bool _, ?_, .bool _⟩; simp [binOp, Op.intCmp]; done)
     | (split at h
        ·simp at h
        ·rename_i hn; cases h; refine ⟨.int _ _, ?_, .int _ _⟩; simp [binOp, Op.intDiv, hn])
     | (simp at h)
   ·simp at h
 ·rename_i m n
  have := a8w hx; have := a8w hy; subst_vars
  simp only [Sem.run_bind, c4N, Result.andThen_ok]
  cases op <;> simp only at h
  case add =>
   split at h
   ·simp at h
   ·rename_i hn
    cases h
    exact ⟨.string (m ++ n), by simp only [binOp, Op.stringOp]; rw [if_neg hn]; rfl, .str _⟩
  case eql => cases h; exact ⟨_, rfl, .bool _⟩
  case neq => cases h; exact ⟨_, rfl, .bool _⟩
  all_goals simp at h
 ·simp at h
theorem b9o : ∀ {xs : List AV} {ns : List Int}, c2C xs = some ns → xs = ns.map (AV.int .u8 ·)
 | [], ns, h => by simp [c2C] at h; subst h; rfl
 | x :: xs, ns, h => by
  cases x <;> first | (simp [c2C] at h; done) | skip
  rename_i k n
  cases k <;> first | (simp [c2C] at h; done) | skip
  rw [c2C] at h
  simp only [Option.map_eq_some_iff] at h
  obtain ⟨ms, h1, rfl⟩ := h
  rw [b9o h1]; rfl
theorem d8V (ns : List Int) : ((ns.map (AV.int .u8 ·)).flatMap AV.cells) = ns.map (AV.int .u8 ·) := by
 induction ns with
 | nil => rfl
 | cons n ns ih => simp only [List.map_cons, List.flatMap_cons, ih, AV.cells]; rfl
theorem d5X {src dst e : TypeId} (hs : P.underlying src = some (.slice e)) (he : P.underlying e = some (.int .u8)) (hd : P.underlying dst = some .string) (b o cap : Nat) (ns : List Int) (vs : List Value) (hl : vs.length = ns.length)
  (hcell : ∀ (k : Nat) v, vs[k]? = some v → E.w.cell? ⟨b, o + k, none⟩ = some v) (hrep : ∀ (k : Nat) v n, vs[k]? = some v → ns[k]? = some n → v = .int .u8 n) :
  (convert src dst (.slice (some ⟨b, o, none⟩) ns.length cap)).run P E.w = .ok (.string (strOfNums ns)) E.w := by
 refine run_convert_bytes_arg E.w src e hs he b o ns.length cap ns rfl (fun i hi => ?_) dst hd
 have h1 : vs[i]? = some vs[i] := List.getElem?_eq_getElem (by omega)
 rw [hcell i _ h1, hrep i _ ns[i] h1 (List.getElem?_eq_getElem hi)]
 simp [List.getD, List.getElem?_eq_getElem hi]
theorem e4J (hok : HOk E) {src dst e : TypeId} (hs : P.underlying src = some (.slice e)) (he : P.underlying e = some (.int .u8)) (hd : P.underlying dst = some .string) {v : Value} {a r : AV} (hr : Rep E v a) (h : b2sV E.H a = some r) :
  ∃ u, (convert src dst v).run P E.w = .ok u E.w ∧ Rep E u r := by
 have emp : ∀ base cap, (convert src dst (.slice base 0 cap)).run P E.w = .ok (.string (strOfNums [])) E.w := by
  intro base cap
  cases base with
  | none => rw [run_convert_bytes_nil E.w src e hs he 0 cap dst hd]; rfl
  | some ad => rw [run_convert_bytes_string E.w src dst e _ 0 cap hs he hd, run_bytesToString E.w ad 0 cap [] (by simp [loadCells, loadCellsFrom])]; rfl
 cases hr with
 | nil => simp only [b2sV] at h; cases h; exact ⟨_, run_convert_bytes_nil E.w src e hs he 0 0 dst hd, .str _⟩
 | sl base cap wd xs vs b o hcap hpos hw hcl hbase hlen hcell hrep =>
  simp only [b2sV] at h
  split at h
  ·simp only [strB, Option.map_eq_some_iff] at h
   obtain ⟨ns, h1, rfl⟩ := h
   have hx := b9o h1
   subst hx
   rcases hbase with hb | ⟨hb, _⟩
   ·have : ns = [] := by simpa using hb
    subst this
    exact ⟨_, emp base cap, .str _⟩
   ·subst hb
    rw [d8V] at hlen hrep
    have := d5X (P := P) (E := E) hs he hd b o cap ns vs (by simpa using hlen) (fun k v hk => (hcell k v hk).1) (fun k v n hk hn => a0U (hrep k v _ hk (by simp [hn])))
    exact ⟨_, by simpa using this, .str _⟩
  ·simp at h
 | mu blk id off len oc b q cap hlive hb hq hlen hsz hoc =>
  have hrw : hrow E.H id = some blk := by simp [hrow, hlive]
  simp only [b2sV, hrw, Option.bind_some] at h
  split at h
  ·rename_i hc
   obtain ⟨hwd, hle⟩ := hc
   simp only [strB, Option.map_eq_some_iff] at h
   obtain ⟨ns, h1, rfl⟩ := h
   have hx := b9o h1
   have hnl : ns.length = len := by
    have := congrArg List.length hx
    simp at this; omega
   rcases Nat.eq_zero_or_pos len with h0 | h0
   ·subst h0
    have : ns = [] := List.length_eq_zero_iff.1 hnl
    subst this
    exact ⟨_, emp _ cap, .str _⟩
   ·have hq' : q = off := by
     rcases hq with hq | ⟨hq, _⟩
     ·rw [hwd] at hq; omega
     ·omega
    subst hq'
    obtain ⟨c, et, r⟩ := hok.row id blk b hlive hb
    have hwid := hok.wids id blk hlive
    rw [hwd] at hwid
    have hflat : blk.flat.length = blk.xs.length := by rw [Blk.flat, a1p hwid]; omega
    have hget : ∀ k, k < len → blk.flat[q + k]? = (ns[k]?).map (AV.int .u8 ·) := by
     intro k hk
     have h2 : (((blk.xs.drop q).take len).flatMap AV.cells)[k]? = (ns.map (AV.int .u8 ·))[k]? := by rw [hx, d8V]
     have e1 : blk.flat = (blk.xs.take q).flatMap AV.cells ++ (((blk.xs.drop q).take len).flatMap AV.cells ++ ((blk.xs.drop q).drop len).flatMap AV.cells) := by
      rw [← List.flatMap_append, List.take_append_drop, ← List.flatMap_append, List.take_append_drop]; rfl
     have l1 : ((blk.xs.take q).flatMap AV.cells).length = q := by
      rw [a1p (wd := 1) (fun x hx => hwid x (List.mem_of_mem_take hx)), List.length_take]; omega
     have l2 : (((blk.xs.drop q).take len).flatMap AV.cells).length = len := by
      rw [a1p (wd := 1) (fun x hx => hwid x (List.mem_of_mem_drop (List.mem_of_mem_take hx))), List.length_take, List.length_drop]; omega
     rw [e1, List.getElem?_append_right (by omega), l1, Nat.add_sub_cancel_left, List.getElem?_append_left (by omega), h2]
     simp
    have hfit := r.fits
    have hcsz : ∀ k, k < len → q + k < c.size := fun k hk => by omega
    have := d5X (P := P) (E := E) hs he hd b q cap ns ((c.toList.drop q).take len) (by simp; omega)
     (fun k v hk => by
      have hkl := a0h hk
      simp at hkl
      rw [List.getElem?_take, if_pos (by omega), List.getElem?_drop] at hk
      simp [World.cell?, r.heap (by omega)]
      simpa using hk)
     (fun k v n hk hn => by
      have hkl := a0h hk
      simp at hkl
      rw [List.getElem?_take, if_pos (by omega), List.getElem?_drop] at hk
      refine a0U (r.rep (q + k) v (.int .u8 n) (by simpa using hk) ?_)
      rw [hget k (by omega), hn]; rfl)
    rw [hnl] at this
    exact ⟨_, this, .str _⟩
  ·simp at h
 | mu0 blk id off oc hlive hb hoc =>
  have hrw : hrow E.H id = some blk := by simp [hrow, hlive]
  simp only [b2sV, hrw, Option.bind_some] at h
  split at h
  ·simp only [List.take_zero, strB, c2C, Option.map_some] at h
   cases h
   exact ⟨_, emp none 0, .str _⟩
  ·simp at h
 | dead v a id hrf hd2 h1 =>
  cases a <;> simp [AV.ref] at hrf
  ·subst hrf; simp [b2sV, hrow, hd2] at h
  ·simp [b2sV] at h
  ·simp [b2sV] at h
 | _ => simp [b2sV] at h
theorem e3h (hok : HOk E) {v : Value} {a : AV} (hr : Rep E v a) {L : List (Int × Int)} (h : b1Q E.H a = some L) : ∃ b, v = .map (some b) ∧ E.w.heap[b]? = some (.map (a6o L) L.length) := by
 unfold b1Q at h
 split at h
 ·rename_i id
  split at h
  ·rename_i L' hrw
   cases h
   have hl := a1h hrw
   cases hr with
   | mp blk _ _ b hlive hb hw =>
    rw [hl] at hlive; cases hlive
    rcases hok.obj id _ b hl rfl hb with ⟨L', q1, q2⟩ | ⟨_, _, _, _, q1, _⟩
    ·simp at q1; subst q1; exact ⟨b, rfl, q2⟩
    ·simp at q1
   | dead v a id' hr hd h1 => simp [AV.ref] at hr; subst hr; rw [hl] at hd; cases hd
  ·cases h
 ·cases h
theorem d0u (hok : HOk E) {v : Value} {a : AV} (hr : Rep E v a) {mid n : Nat} {seen : List Nat} (h : b7S E.H a = some (mid, n, seen)) :
  ∃ b m, v = .pointer (some ⟨b, 0, none⟩) ∧ E.w.heap[b]? = some (.mapIter (some m) n seen.toArray n) ∧ ∀ L, b1Q E.H (.mp true mid) = some L → E.w.heap[m]? = some (.map (a6o L) L.length) := by
 unfold b7S at h
 split at h
 ·rename_i id
  split at h
  ·rename_i m0 n0 seen0 hrw
   cases h
   have hl := a1h hrw
   cases hr with
   | mp blk _ _ b hlive hb hw =>
    rw [hl] at hlive; cases hlive
    rcases hok.obj id _ b hl rfl hb with ⟨L', q1, q2⟩ | ⟨_, _, _, m, q1, q2, q3, q4⟩
    ·simp at q1
    ·simp at q1; obtain ⟨rfl, rfl, rfl⟩ := q1
     refine ⟨b, m, rfl, q2, fun L hL => ?_⟩
     unfold b1Q at hL
     simp only at hL
     split at hL
     ·rename_i L' hrm
      cases hL
      have hlm := a1h hrm
      obtain ⟨s1, s2⟩ := q4 _ hlm
      rcases hok.obj mid _ m hlm rfl s2 with ⟨L', s3, s4⟩ | ⟨_, _, _, _, s3, _⟩
      ·simp at s3; subst s3; exact s4
      ·simp at s3
     ·cases hL
   | dead v a id' hr hd h1 => simp [AV.ref] at hr; subst hr; rw [hl] at hd; cases hd
  ·cases h
 ·cases h
theorem d2k (q : IntKind) (x : Int) : ∀ (L : List (Int × Int)) (b i : Nat), ∃ r, Instr.findNow (.int q) (.int .i64 x) (mapE b L) i = some r ∧ r.map (·.2) = (mget L x).map (Value.int .i64 ·)
 | [], b, i => ⟨none, rfl, rfl⟩
 | p :: L, b, i => by
  by_cases hx : x = p.1
  ·exact ⟨some (i, .int .i64 p.2), by simp [mapE, Instr.findNow, Instr.sameNow, hx], by simp [mget, hx]⟩
  ·obtain ⟨r, h1, h2⟩ := d2k q x L (b + 1) (i + 1)
   refine ⟨r, ?_, by simp only [mget, if_neg hx]; exact h2⟩
   have : (x == p.1) = false := by simpa using hx
   simp [mapE, Instr.findNow, Instr.sameNow, this, h1]
theorem d1W {t : TypeId} (h : mapT P t = true) : ∃ kt vt i, P.underlying t = some (.map kt vt) ∧ P.underlying kt = some (.int .i64) ∧ P.underlying vt = some (.int .i64) ∧ P.info? vt = some i ∧ i.zero = some (.int .i64 0) := by
 unfold mapT at h
 split at h
 ·rename_i kt vt h1
  split at h
  ·rename_i n h2 h3 h4
   simp only [Option.bind_eq_some_iff] at h4
   obtain ⟨i, h5, h6⟩ := h4
   simp at h; subst h
   exact ⟨kt, vt, i, h1, h2, h3, h5, h6⟩
  ·cases h
 ·cases h
theorem a3t {w : World} {r : Nat} {es : Array MapEntry} {clock : Nat} (hb : w.heap[r]? = some (.map es clock)) : (getObj r).run P w = .ok (.map es clock) w := by simp [getObj, Sem.run, hb]
theorem b0M {w : World} {r : Nat} {m : Option Nat} {s : Nat} {seen : Array Nat} {c : Nat} (hb : w.heap[r]? = some (.mapIter m s seen c)) : (getObj r).run P w = .ok (.mapIter m s seen c) w := by simp [getObj, Sem.run, hb]
theorem d3l {w : World} {r : Nat} {es : Array MapEntry} {clock : Nat} (o : Obj) (hb : w.heap[r]? = some (.map es clock)) : (setObj r o).run P w = .ok () { w with heap := w.heap.setIfInBounds r o } := by simp [setObj, Sem.run, hb]
theorem d3m {w : World} {r : Nat} {m : Option Nat} {s : Nat} {seen : Array Nat} {c : Nat} (o : Obj) (hb : w.heap[r]? = some (.mapIter m s seen c)) : (setObj r o).run P w = .ok () { w with heap := w.heap.setIfInBounds r o } := by simp [setObj, Sem.run, hb]
theorem c3v {kt : TypeId} (hk : P.underlying kt = some (.int .i64)) (e : Bool) (x : Int) (w : World) : (Instr.checkKey e 10000 kt (.int .i64 x)).run P w = .ok () w := by
 show (Instr.checkKey e (9999 + 1) kt (.int .i64 x)).run P w = .ok () w
 unfold Instr.checkKey
 simp [run_underlying hk]
theorem e6d {t : TypeId} (ht : mapT P t = true) {w : World} {b n : Nat} {L : List (Int × Int)} (hb : w.heap[b]? = some (.map (a6o L) n)) (x : Int) :
  (Instr.lookup t (.map (some b)) (.int .i64 x) true).run P w = .ok (.tuple #[.int .i64 ((mget L x).getD 0), .bool (mget L x).isSome]) w := by
 obtain ⟨kt, vt, i, h1, h2, h3, h4, h5⟩ := d1W ht
 obtain ⟨r, q1, q2⟩ := d2k .i64 x L 0 0
 unfold Instr.lookup
 simp only [Sem.run_bind, run_underlying h1, Result.andThen_ok, a3t hb, Sem.run_pure, c3v h2, Instr.findKey, run_underlying h2, a6o]
 rw [show (Instr.findNow (.int .i64) (.int .i64 x) (mapE 0 L).toArray.toList 0) = some r from q1]
 cases hr : r with
 | none =>
  rw [hr] at q2
  have : mget L x = none := by cases hg : mget L x <;> simp [hg] at q2 ⊢
  simp [zeroValue, typeInfo, h4, h5, this]
 | some p =>
  rw [hr] at q2
  have : ∃ y, mget L x = some y ∧ p.2 = .int .i64 y := by
   cases hg : mget L x with
   | none => simp [hg] at q2
   | some y => exact ⟨y, rfl, by simpa [hg] using q2⟩
  obtain ⟨y, hy, hp⟩ := this
  obtain ⟨p1, p2⟩ := p
  simp only at hp; subst hp
  simp [hy]
theorem d5C : ∀ (L : List (Int × Int)) (b i : Nat), (mapE b L).find? (·.born == b + i) = (L[i]?).map fun p => { key := .int .i64 p.1, val := .int .i64 p.2, born := b + i }
 | [], b, i => by simp [mapE]
 | p :: L, b, 0 => by simp [mapE]
 | p :: L, b, i + 1 => by
  have := d5C L (b + 1) i
  rw [show b + 1 + i = b + (i + 1) by omega] at this
  simp [mapE, this]
theorem e9T {w : World} {b m n : Nat} {seen : List Nat} {L : List (Int × Int)} (hi : w.heap[b]? = some (.mapIter (some m) n seen.toArray n)) (hm : w.heap[m]? = some (.map (a6o L) L.length)) (hn : L.length = n) {i : Nat} (hs : seen.getLast? = some i) {p : Int × Int} (hp : L[i]? = some p) :
  (Instr.entry (.pointer (some ⟨b, 0, none⟩))).run P w = .ok (.tuple #[.int .i64 p.1, .int .i64 p.2]) w := by
 have hb : seen.toArray.back? = some i := by rw [← hs]; simp [Array.back?, List.getLast?_eq_getElem?]
 have hf := d5C L 0 i
 simp only [Nat.zero_add, hp, Option.map_some] at hf
 unfold Instr.entry
 simp only [Sem.run_bind, b0M hi, Result.andThen_ok, hb, a3t hm]
 subst hn
 simp [a6o, hf]
theorem e5B {o : Oper} {po : POp} (hc : a6q P o.op = some po) (hok : HOk E) (he : a0B E env tmps) {a : AV} (hp : pv po env E.H = some a) :
  ∃ v, (execOp (Act.eval ⟨tmps, []⟩) o).run P E.w = .ok (.value v) E.w ∧ Rep E v a := by
 obtain ⟨dst, op, type, pos, after, guard⟩ := o
 simp only at hc
 have val : ∀ (s : Sem Value) v, s.run P E.w = .ok v E.w → (do pure (Next.value (← s)) : Sem Next).run P E.w = .ok (.value v) E.w := by
  intro s v hs; simp [hs]
 cases op with
 | move x =>
  simp only [a6q, Option.map_eq_some_iff] at hc
  obtain ⟨s, hs, rfl⟩ := hc
  simp only [pv] at hp; cases hp
  exact ⟨_, rfl, a0t he hs⟩
 | assign x =>
  simp only [a6q, Option.map_eq_some_iff] at hc
  obtain ⟨s, hs, rfl⟩ := hc
  simp only [pv] at hp; cases hp
  exact ⟨_, rfl, a0t he hs⟩
 | pick c x y =>
  simp only [a6q, Option.bind_eq_bind, Option.bind_eq_some_iff] at hc
  obtain ⟨sc, h1, sx, h2, sy, h3, h4⟩ := hc
  cases h4
  simp only [pv] at hp
  split at hp
  ·rename_i b hb
   have := a0t he h1
   rw [hb] at this
   have hcv := a2u this
   cases b
   ·simp at hp; subst hp
    exact ⟨_, by simp [execOp, hcv, asBool], a0t he h3⟩
   ·simp at hp; subst hp
    exact ⟨_, by simp [execOp, hcv, asBool], a0t he h2⟩
  ·simp at hp
 | binOp op xt x y yt =>
  have main : ∀ (sx sy : Src), a0O x = some sx → a0O y = some sy → binV op (sx.ev env) (sy.ev env) = some a →
    ∃ v, (execOp (Act.eval ⟨tmps, []⟩) ⟨dst, .binOp op xt x y yt, type, pos, after, guard⟩).run P E.w = .ok (.value v) E.w ∧ Rep E v a := by
   intro sx sy h1 h2 h
   obtain ⟨v, hv, hr⟩ := e4D (P := P) (t := xt) (x := x) (y := y) (a0t he h1) (a0t he h2) h
   exact ⟨v, val _ _ hv, hr⟩
  have bools : ∀ (neg : Bool) (sx sy : Src), (op = if neg then BinOp.neq else BinOp.eql) → P.underlying xt = some .bool → a0O x = some sx → a0O y = some sy → pv (.beq neg sx sy) env E.H = some a →
    ∃ v, (execOp (Act.eval ⟨tmps, []⟩) ⟨dst, .binOp op xt x y yt, type, pos, after, guard⟩).run P E.w = .ok (.value v) E.w ∧ Rep E v a := by
   intro neg sx sy hop hu h1 h2 h
   simp only [pv] at h
   split at h
   ·rename_i b1 b2 e1 e2
    have r1 := a0t he h1
    have r2 := a0t he h2
    rw [e1] at r1
    rw [e2] at r2
    have v1 := a2u r1
    have v2 := a2u r2
    cases h
    refine ⟨_, val _ _ ?_, .bool _⟩
    rw [v1, v2]
    simp only [Sem.run_bind, c3z, Result.andThen_ok]
    have eqr : (Op.equal xt (.bool b1) (.bool b2)).run P E.w = .ok (b1 == b2) E.w := by
     have gen : ∀ d, (Op.equalIn (d + 1) xt (.bool b1) (.bool b2)).run P E.w = .ok (b1 == b2) E.w := by
      intro d
      simp only [Op.equalIn, Sem.run_bind, run_underlying hu, Result.andThen_ok]
      rfl
     exact gen 9999
    cases neg
    ·simp only [Bool.false_eq_true, if_false] at hop; subst hop
     simp [Go.binOp, eqr]
    ·simp only [if_true] at hop; subst hop
     simp [Go.binOp, eqr]
   ·simp at h
  cases op <;> simp only [a6q] at hc
  case eql =>
   split at hc
   ·rename_i hu
    simp only [Option.bind_eq_bind, Option.bind_eq_some_iff] at hc
    obtain ⟨sx, h1, sy, h2, h3⟩ := hc
    cases h3
    exact bools false sx sy rfl hu h1 h2 hp
   ·simp only [Option.bind_eq_bind, Option.bind_eq_some_iff] at hc
    obtain ⟨sx, h1, sy, h2, h3⟩ := hc
    cases h3
    exact main sx sy h1 h2 hp
  case neq =>
   split at hc
   ·rename_i hu
    simp only [Option.bind_eq_bind, Option.bind_eq_some_iff] at hc
    obtain ⟨sx, h1, sy, h2, h3⟩ := hc
    cases h3
    exact bools true sx sy rfl hu h1 h2 hp
   ·simp only [Option.bind_eq_bind, Option.bind_eq_some_iff] at hc
    obtain ⟨sx, h1, sy, h2, h3⟩ := hc
    cases h3
    exact main sx sy h1 h2 hp
  all_goals
   simp only [Option.bind_eq_bind, Option.bind_eq_some_iff] at hc
   obtain ⟨sx, h1, sy, h2, h3⟩ := hc
   cases h3
   exact main sx sy h1 h2 hp
 | unOp op xt x =>
  simp only [a6q, Option.bind_eq_bind, Option.bind_eq_some_iff] at hc
  obtain ⟨sx, h1, h2⟩ := hc
  cases h2
  simp only [pv] at hp
  have r1 := a0t he h1
  split at hp
  ·rename_i k n e
   rw [e] at r1
   have := a0U r1
   cases hp
   exact ⟨_, val _ _ (by rw [this]; simp [Op.unary, Op.intArith]), .int _ _⟩
  ·rename_i b e
   rw [e] at r1
   have := a2u r1
   cases hp
   exact ⟨_, val _ _ (by rw [this]; simp [Op.unary]), .bool _⟩
  ·simp at hp
 | convert src d x =>
  simp only [a6q] at hc
  split at hc
  ·rename_i d1 k hu1 hu2
   simp only [Option.bind_eq_bind, Option.bind_eq_some_iff] at hc
   obtain ⟨sx, h1, h2⟩ := hc
   cases h2
   simp only [pv] at hp
   have r1 := a0t he h1
   split at hp
   ·rename_i k' n e
    rw [e] at r1
    have := a0U r1
    cases hp
    refine ⟨_, val _ (.int k (k.wrap n)) ?_, .int _ _⟩
    rw [this]
    simp [convert, run_underlying hu1, run_underlying hu2, Conv.intToInt]
   ·simp at hp
  ·rename_i e hu1 hu2
   split at hc
   ·rename_i hue
    simp only [Option.bind_eq_bind, Option.bind_eq_some_iff] at hc
    obtain ⟨sx, h1, h2⟩ := hc
    cases h2
    simp only [pv] at hp
    obtain ⟨u, q1, q2⟩ := e4J hok hu1 hue hu2 (a0t he h1) hp
    exact ⟨u, val _ _ q1, q2⟩
   ·simp at hc
  ·simp at hc
 | extract x i =>
  simp only [a6q, Option.bind_eq_bind, Option.bind_eq_some_iff] at hc
  obtain ⟨sx, h1, h2⟩ := hc
  cases h2
  simp only [pv] at hp
  have r1 := a0t he h1
  split at hp
  ·rename_i vs e
   rw [e] at r1
   generalize hxv : Act.eval ⟨tmps, []⟩ x = xv at r1
   cases r1 with
   | tup us cs hlen hrep =>
    have hi := a0h hp
    refine ⟨us[i]'(by omega), val _ _ ?_, hrep i _ _ (List.getElem?_eq_getElem (by omega)) hp⟩
    rw [hxv]
    simp [Instr.extract, List.getElem?_eq_getElem (show i < us.length by omega)]
   | dead v a id hr hd h1 => simp [AV.ref] at hr
  ·simp at hp
 | fieldAddr s x f =>
  simp only [a6q] at hc
  split at hc
  ·rename_i fs hu
   split at hc
   ·rename_i fl hfl
    split at hc
    ·rename_i n hn
     simp only [Option.bind_eq_bind, Option.bind_eq_some_iff] at hc
     obtain ⟨sx, h1, h2⟩ := hc
     cases h2
     simp only [pv] at hp
     have r1 := a0t he h1
     unfold a3y at hn
     simp only [Option.map_eq_some_iff] at hn
     obtain ⟨inf, hinf, hn⟩ := hn
     have fp : ∀ (b o : Nat), (Instr.fieldAt s (.pointer (some ⟨b, o, none⟩)) f).run P E.w = .ok (.pointer (some ⟨b, o + fl.offset, none⟩)) E.w := by
      intro b o
      simp [Instr.fieldAt, run_underlying hu, hfl, Instr.sureAddr, fieldPlace, sizeOf, typeInfo, hinf, hn, Addr.add_lit]
     generalize hxv : Act.eval ⟨tmps, []⟩ x = xv at r1
     split at hp
     ·rename_i x' o e
      rw [e] at r1
      cases hp
      cases r1 with
      | ro _ _ b o' vs hb hpos hcl hlen hcell hrep =>
       refine ⟨_, val _ _ (by rw [hxv]; exact fp b (o' + o)), ?_⟩
       rw [Nat.add_assoc]
       exact .ro x' (o + fl.offset) b o' vs hb hpos hcl hlen hcell hrep
      | dead v a id hr hd h1 => simp [AV.ref] at hr
     ·rename_i id i o e
      rw [e] at r1
      split at hp
      ·rename_i hliv
       cases hp
       cases r1 with
       | loc blk _ _ _ bn hlive hbn =>
        refine ⟨_, val _ _ (by rw [hxv]; exact fp _ _), ?_⟩
        rw [Nat.add_assoc]
        exact .loc blk id i (o + fl.offset) bn hlive hbn
       | dead v a id' hr hd h1 =>
        simp [AV.ref] at hr; subst hr
        simp [hrow, hd] at hliv
      ·simp at hp
     ·simp at hp
    ·simp at hc
   ·simp at hc
  ·simp at hc
 | indexAddr t x ix =>
  simp only [a6q] at hc
  split at hc
  ·rename_i e hu
   simp only [Option.bind_eq_bind, Option.bind_eq_some_iff] at hc
   obtain ⟨wd, h0, sx, h1, si, h2, h3⟩ := hc
   cases h3
   simp only [pv] at hp
   obtain ⟨v, hv, hr⟩ := e3D hok (a0t he h1) (a0t he h2) hu h0 hp
   exact ⟨v, val _ _ hv, hr⟩
  ·simp at hc
 | index t x ix =>
  simp only [a6q] at hc
  split at hc
  ·rename_i hu
   simp only [Option.bind_eq_bind, Option.bind_eq_some_iff] at hc
   obtain ⟨sx, h1, si, h2, h3⟩ := hc
   cases h3
   simp only [pv] at hp
   have r1 := a0t he h1
   have r2 := a0t he h2
   split at hp
   ·rename_i s k i e1 e2
    rw [e1] at r1
    rw [e2] at r2
    have v1 := a8w r1
    have v2 := a0U r2
    split at hp
    ·rename_i hlt
     cases hp
     obtain ⟨m, rfl⟩ := Int.eq_ofNat_of_zero_le hlt.1
     have hm : m < s.size := by omega
     refine ⟨_, val _ _ ?_, .int _ _⟩
     rw [v1, v2]
     have hb : s[m]? = some s[m] := by simp [hm]
     have hd : s.data[m]? = some s[m] := by rw [Array.getElem?_eq_getElem (by exact hm)]; rfl
     simp [Instr.index, asIntOf, run_underlying hu, hb, hd]
    ·simp at hp
   ·simp at hp
  ·simp at hc
 | load t x =>
  simp only [a6q] at hc
  split at hc
  ·rename_i d hu
   split at hc
   ·rename_i hag
    simp only [Option.bind_eq_bind, Option.bind_eq_some_iff] at hc
    obtain ⟨n, h0, sx, h1, h2⟩ := hc
    cases h2
    simp only [pv] at hp
    obtain ⟨v, hv, hr⟩ := b9I hok (a0t he h1) hu (.inr ⟨n, rfl, hag, h0⟩) hp
    exact ⟨v, val _ _ hv, hr⟩
   ·rename_i hag
    simp only [Option.bind_eq_bind, Option.bind_eq_some_iff] at hc
    obtain ⟨sx, h1, h2⟩ := hc
    cases h2
    simp only [pv] at hp
    obtain ⟨v, hv, hr⟩ := b9I hok (a0t he h1) hu (.inl ⟨rfl, by simpa using hag⟩) hp
    exact ⟨v, val _ _ hv, hr⟩
  ·simp at hc
 | slice t x lo hi mx =>
  simp only [a6q] at hc
  split at hc
  ·rename_i e hu
   simp only [Option.bind_eq_bind, Option.bind_eq_some_iff] at hc
   obtain ⟨wd, h0, sx, h1, sl, h2, sh, h3, sm, h4, h5⟩ := hc
   cases h5
   simp only [pv] at hp
   obtain ⟨v, hv, hr⟩ := e2g hok (a0t he h1) hu h0 (b1j he h2) (b1j he h3) (b1j he h4) hp
   exact ⟨v, val _ _ hv, hr⟩
  ·rename_i hu
   split at hc
   ·simp only [Option.bind_eq_bind, Option.bind_eq_some_iff] at hc
    obtain ⟨sx, h1, sl, h2, sh, h3, h5⟩ := hc
    cases h5
    simp only [pv] at hp
    obtain ⟨v, hv, hr⟩ := d9U (a0t he h1) hu (b1j he h2) (b1j he h3) hp
    exact ⟨v, val _ _ hv, hr⟩
   ·simp at hc
  ·simp at hc
 | build t a1Q =>
  simp only [a6q] at hc
  split at hc
  ·rename_i fs zs hu hz
   split at hc
   ·rename_i hone
    rw [Bool.and_eq_true] at hone
    simp only [Option.bind_eq_bind, Option.bind_eq_some_iff] at hc
    obtain ⟨ps, h0, h1⟩ := hc
    cases h1
    simp only [pv, Option.map_eq_some_iff] at hp
    obtain ⟨out, hb, rfl⟩ := hp
    simp only [Option.bind_eq_some_iff] at hz
    obtain ⟨inf, hinf, hzero⟩ := hz
    have hall : ∀ (i : Nat) f, fs[i]? = some f → ∀ n, a3y P f.type = some n → ((fs.map fun f => (f.offset, (a3y P f.type).getD 0)))[i]? = some (f.offset, n) := by
     intro i f hf n hn
     simp [hf, hn]
    obtain ⟨us, g1, g2, g3, g4⟩ := d0B he fs _ hall a1Q.toList ps zs (zs.toList.map a4W) out h0 hb (by simp)
     (by
      intro v hv
      have := Array.all_eq_true.1 hone.1
      obtain ⟨k, hk, rfl⟩ := List.getElem_of_mem hv
      simpa using this k (by simpa using hk))
     (by
      intro k u a hk ha
      simp at hk ha
      rw [hk] at ha
      simp at ha
      obtain ⟨_, rfl, rfl⟩ := ha
      exact b0O E _)
    refine ⟨.agg us, val _ _ ?_, ?_⟩
    ·have hmap : ∀ (l : List Field), (∀ f ∈ l, ∃ n, a3y P f.type = some n) → (l.mapM fun f => (do pure (f.offset, ← sizeOf f.type) : Sem (Nat × Nat))).run P E.w = .ok (l.map fun f => (f.offset, (a3y P f.type).getD 0)) E.w := by
      intro l hl
      induction l with
      | nil => rfl
      | cons f l ih =>
       obtain ⟨n, hn⟩ := hl f (by simp)
       have hn' := hn
       unfold a3y at hn
       simp only [Option.map_eq_some_iff] at hn
       obtain ⟨inf, hinf, rfl⟩ := hn
       have hs : (sizeOf f.type).run P E.w = .ok inf.size E.w := by simp [sizeOf, typeInfo, hinf]
       simp only [List.mapM_cons, Sem.run_bind, hs, Result.andThen_ok, Sem.run_pure, ih (fun g hg => hl g (by simp [hg])), List.map_cons, hn', Option.getD_some]
     have hfs : ∀ f ∈ fs.toList, ∃ n, a3y P f.type = some n := by
      intro f hf
      have := List.all_eq_true.1 hone.2 f hf
      exact Option.isSome_iff_exists.1 this
     have hm2 : (fs.mapM fun f => (do pure (f.offset, ← sizeOf f.type) : Sem (Nat × Nat))).run P E.w = .ok (fs.map fun f => (f.offset, (a3y P f.type).getD 0)) E.w := by
      have := hmap fs.toList hfs
      rw [Array.mapM_eq_mapM_toList, Sem.run_map, this]
      simp only [Result.andThen_ok]
      congr 1
      apply Array.ext'
      simp
     have hz0 : (zeroValue t).run P E.w = .ok (.agg zs) E.w := by simp [zeroValue, typeInfo, hinf, hzero]
     have hpl : (a1Q.map fun (i, x) => (i, Act.eval ⟨tmps, []⟩ x)).toList = a1Q.toList.map fun p => (p.1, Act.eval ⟨tmps, []⟩ p.2) := by simp
     simp only [Instr.build, Sem.run_bind, run_underlying hu, Result.andThen_ok, hz0, hm2, Value.cells, hpl, g1, Sem.run_pure]
    ·have := Rep.agg (E := E) us.toList out g2 g3 g4
     simpa using this
   ·simp at hc
  ·simp at hc
 | makeFunc fn first caps =>
  simp only [a6q] at hc
  split at hc
  ·rename_i cl f hfirst
   have hf : first = #[] := by rw [← Array.toArray_toList (xs := first), hfirst]
   subst hf
   simp only [Option.bind_eq_bind, Option.bind_eq_some_iff] at hc
   obtain ⟨ss, h1, h2⟩ := hc
   cases h2
   simp only [pv] at hp; cases hp
   obtain ⟨hl, hr⟩ := b2D he h1
   refine ⟨.func (.func f) #[] (caps.toList.map (Act.eval ⟨tmps, []⟩)).toArray, ?_, .fn f _ _ (by simp [hl]) hr⟩
   simp only [execOp, Instr.makeFunc, Sem.run_bind, Sem.run_pure, Result.andThen_ok, Array.map_empty]
   rw [← Array.toList_map, Array.toArray_toList]
  ·rename_i f hcaps hne
   have hf : caps = #[] := by rw [← Array.toArray_toList (xs := caps), hcaps]
   subst hf
   simp only [Option.bind_eq_bind, Option.bind_eq_some_iff] at hc
   obtain ⟨ss, h1, h2⟩ := hc
   cases h2
   simp only [pv] at hp; cases hp
   obtain ⟨hl, hr⟩ := b2D he h1
   refine ⟨.func (.func f) (first.toList.map (Act.eval ⟨tmps, []⟩)).toArray #[], ?_, .bfn f _ _ (by simp [hl]) hr⟩
   simp only [execOp, Instr.makeFunc, Sem.run_bind, Sem.run_pure, Result.andThen_ok, Array.map_empty]
   rw [← Array.toList_map, Array.toArray_toList]
  ·simp at hc
 | nilCheck x =>
  simp only [a6q, Option.bind_eq_bind, Option.bind_eq_some_iff] at hc
  obtain ⟨sx, h1, h2⟩ := hc
  cases h2
  simp only [pv] at hp
  have r1 := a0t he h1
  generalize hxv : Act.eval ⟨tmps, []⟩ x = xv at r1
  split at hp
  ·rename_i x' o e
   rw [e] at r1
   cases hp
   cases r1 with
   | ro _ _ b o' vs hb hpos hcl hlen hcell hrep => exact ⟨.pointer (some ⟨b, o' + o, none⟩), by simp only [execOp, hxv]; rfl, .ro x' o b o' vs hb hpos hcl hlen hcell hrep⟩
   | dead v a id hr hd h1 => simp [AV.ref] at hr
  ·rename_i id i o e
   rw [e] at r1
   split at hp
   ·rename_i hliv
    cases hp
    cases r1 with
    | loc blk _ _ _ bn hlive hbn => exact ⟨.pointer (some ⟨bn, i * blk.wd + o, none⟩), by simp only [execOp, hxv]; rfl, .loc blk id i o bn hlive hbn⟩
    | dead v a id' hr hd h1 =>
     simp [AV.ref] at hr; subst hr
     simp [hrow, hd] at hliv
   ·simp at hp
  ·simp at hp
 | call c =>
  simp only [a6q] at hc
  have mnx : ∀ (mx : Bool) (x y : Operand), c.callee = .builtin (if mx then .max else .min) → c.args.toList = [x, y] → ∀ (sx sy : Src), a0O x = some sx → a0O y = some sy → po = .mnx mx sx sy →
    ∃ v, (execOp (Act.eval ⟨tmps, []⟩) ⟨dst, .call c, type, pos, after, guard⟩).run P E.w = .ok (.value v) E.w ∧ Rep E v a := by
   intro mx x y hcal hargs sx sy h1 h2 h3
   subst h3
   obtain ⟨callee, args, argTypes⟩ := c
   simp only at hcal hargs
   have ha : args = #[x, y] := by rw [← Array.toArray_toList (xs := args), hargs]
   subst hcal ha
   simp only [pv, mnxV] at hp
   have r1 := a0t he h1
   have r2 := a0t he h2
   split at hp
   ·rename_i k u k' w e1 e2
    rw [e1] at r1
    rw [e2] at r2
    have v1 := a0U r1
    have v2 := a0U r2
    cases hp
    refine ⟨_, ?_, .int _ _⟩
    cases mx
    ·simp [execOp, resolve, invoke, builtin, v1, v2, Builtin.min_, Builtin.min2]
    ·simp [execOp, resolve, invoke, builtin, v1, v2, Builtin.max_, Builtin.max2]
   ·simp at hp
  split at hc
  ·rename_i x t ts hcal hargs htys
   obtain ⟨callee, args, argTypes⟩ := c
   simp only at hcal hargs htys
   have ha : args = #[x] := by rw [← Array.toArray_toList (xs := args), hargs]
   have ht : argTypes = (t :: ts).toArray := by rw [← Array.toArray_toList (xs := argTypes), htys]
   subst hcal ha ht
   have fin : ∀ (xv : Value) (n : Int), Act.eval ⟨tmps, []⟩ x = xv → a = .int .i64 n → (Builtin.len_ (t :: ts).toArray type #[xv]).run P E.w = .ok (goInt n) E.w →
     ∃ v, (execOp (Act.eval ⟨tmps, []⟩) ⟨dst, .call ⟨.builtin .len, #[x], (t :: ts).toArray⟩, type, pos, after, guard⟩).run P E.w = .ok (.value v) E.w ∧ Rep E v a := by
    intro xv n hx ha hr
    subst ha
    refine ⟨.int .i64 n, ?_, .int _ _⟩
    simp only [goInt] at hr
    simp [execOp, resolve, invoke, builtin, hx, hr]
   split at hc
   ·rename_i hu
    have ru := run_underlying (P := P) hu E.w
    simp only [Option.bind_eq_bind, Option.bind_eq_some_iff] at hc
    obtain ⟨sx, h1, h2⟩ := hc
    cases h2
    simp only [pv] at hp
    have r1 := a0t he h1
    split at hp
    ·rename_i s e
     rw [e] at r1
     cases hp
     exact fin _ _ (a8w r1) rfl (by simp [Builtin.len_, ru])
    ·simp at hp
   ·rename_i e hu
    have ru := run_underlying (P := P) hu E.w
    simp only [Option.bind_eq_bind, Option.bind_eq_some_iff] at hc
    obtain ⟨sx, h1, h2⟩ := hc
    cases h2
    simp only [pv] at hp
    have r1 := a0t he h1
    generalize hxv : Act.eval ⟨tmps, []⟩ x = xv at r1
    generalize Src.ev env sx = sa at r1 hp
    cases r1 with
    | sl base cap wd xs vs b o hcap hpos hw hcl hbase hlen hcell hrep => simp only [lenV] at hp; cases hp; exact fin _ _ hxv rfl (by simp [Builtin.len_, ru])
    | nil => simp only [lenV] at hp; cases hp; exact fin _ _ hxv rfl (by simp [Builtin.len_, ru])
    | mu blk id off len oc bn q cap hlive hbn hq hlen hsz hoc =>
     simp only [lenV, hrow, hlive, Option.join, Option.isSome, if_true] at hp
     cases hp; exact fin _ _ hxv rfl (by simp [Builtin.len_, ru])
    | mu0 blk id off oc hlive hbn hoc =>
     simp only [lenV, hrow, hlive, Option.join, Option.isSome, if_true] at hp
     cases hp; exact fin _ _ hxv rfl (by simp [Builtin.len_, ru])
    | dead v a' id hr hd h1 =>
     cases sa <;> simp [AV.ref] at hr
     ·subst hr; simp [lenV, hrow, hd] at hp
     ·simp [lenV] at hp
     ·simp [lenV] at hp
    | _ => simp [lenV] at hp
   ·simp at hc
  ·rename_i x y hcal hargs
   simp only [Option.bind_eq_bind, Option.bind_eq_some_iff] at hc
   obtain ⟨sx, h1, sy, h2, h3⟩ := hc
   cases h3
   exact mnx true x y hcal hargs sx sy h1 h2 rfl
  ·rename_i x y hcal hargs
   simp only [Option.bind_eq_bind, Option.bind_eq_some_iff] at hc
   obtain ⟨sx, h1, sy, h2, h3⟩ := hc
   cases h3
   exact mnx false x y hcal hargs sx sy h1 h2 rfl
  ·simp at hc
 | lookup t m k ok =>
  simp only [a6q] at hc
  split at hc
  ·rename_i hcond
   simp only [Bool.and_eq_true] at hcond
   obtain ⟨ht, rfl⟩ := hcond
   simp only [Option.bind_eq_bind, Option.bind_eq_some_iff] at hc
   obtain ⟨sm, h1, sk, h2, h3⟩ := hc
   cases h3
   simp only [pv] at hp
   have r1 := a0t he h1
   have r2 := a0t he h2
   split at hp
   ·rename_i L x e1 e2
    cases hp
    obtain ⟨b, hv, hb⟩ := e3h hok r1 e1
    rw [e2] at r2
    have hx := a0U r2
    refine ⟨_, val _ _ (by rw [hv, hx]; exact e6d ht hb x), ?_⟩
    exact .tup [_, _] [_, _] rfl (fun k v a hk ha => by
     rcases k with _ | _ | k
     ·simp at hk ha; subst hk; subst ha; exact .int _ _
     ·simp at hk ha; subst hk; subst ha; exact .bool _
     ·simp at hk)
   ·cases hp
  ·cases hc
 | entry x =>
  simp only [a6q, Option.bind_eq_bind, Option.bind_eq_some_iff] at hc
  obtain ⟨sx, h1, h2⟩ := hc
  cases h2
  simp only [pv] at hp
  have r1 := a0t he h1
  split at hp
  ·rename_i mid n seen e1
   split at hp
   ·rename_i L i e2 e3
    split at hp
    ·rename_i hn
     simp only [Option.map_eq_some_iff] at hp
     obtain ⟨p, hp, rfl⟩ := hp
     obtain ⟨b, m, hv, hb, hm⟩ := d0u hok r1 e1
     refine ⟨_, val _ _ (by rw [hv]; exact e9T hb (hm L e2) hn e3 hp), ?_⟩
     exact .tup [_, _] [_, _] rfl (fun k v a hk ha => by
      rcases k with _ | _ | k
      ·simp at hk ha; subst hk; subst ha; exact .int _ _
      ·simp at hk ha; subst hk; subst ha; exact .int _ _
      ·simp at hk)
    ·cases hp
   ·cases hp
  ·cases hp
 | _ => simp [a6q] at hc
end
end Go.Abs
namespace Go.Abs
inductive EOp where
 | store (n : Nat) (a v : Src)
 | box (n : Nat) (v : Src)
 | bsl (wd : Nat) (a1Q : List Src)
 | bslm (wd : Nat) (a1Q : List Src)
 | mksl (wd bytes : Nat) (zero : AV) (l c : Src)
 | app (wd bytes : Nat) (str : Bool) (a b : Src)
 | cpy (wd : Nat) (a b : Src)
 | mkmap
 | mset (m k v : Src)
 | mrng (m : Src)
def upd (x : AV) (wd off n : Nat) (v : AV) : AV := if off = 0 ∧ n = wd then v else .agg (a2i x.cells off v.cells)
noncomputable def clb (a : AV) : Bool := @decide (Cl a) (Classical.propDecidable _)
noncomputable def nref (id : Nat) (a : AV) : Bool := @decide (Ref (· ≠ id) a) (Classical.propDecidable _)
theorem c7G {a : AV} : clb a = true ↔ Cl a := by unfold clb; exact @decide_eq_true_iff _ (Classical.propDecidable _)
theorem a0j {id : Nat} {a : AV} : nref id a = true ↔ Ref (· ≠ id) a := by unfold nref; exact @decide_eq_true_iff _ (Classical.propDecidable _)
noncomputable def scrub (id : Nat) (env : Env) : Env := env.map fun p => (p.1, if nref id p.2 then p.2 else .top)
def Free (H : Heap) (id : Nat) : Prop := ∀ (j : Nat) bj, j ≠ id → H[j]? = some (some bj) → ∀ a ∈ bj.flat, Ref (· ≠ id) a
noncomputable def free (H : Heap) (id : Nat) : Bool := @decide (Free H id) (Classical.propDecidable _)
theorem c3V {H : Heap} {id : Nat} : free H id = true ↔ Free H id := by unfold free; exact @decide_eq_true_iff _ (Classical.propDecidable _)
noncomputable def topd (id : Nat) (a : AV) : AV := if nref id a then a else .top
noncomputable def a3K (id : Nat) (x : AV) : AV := if nref id x then x else match x with
 | .agg cs => .agg (cs.map (topd id))
 | _ => .top
noncomputable def a9Y (id : Nat) (b : Blk) : Blk := ⟨b.wd, b.xs.map (a3K id)⟩
noncomputable def a1C (id : Nat) (H : Heap) : Heap := H.map (Option.map (a9Y id))
def b2t (s : ByteArray) : List AV := s.data.toList.map fun b => .int .u8 b.toNat
def a0Q (H : Heap) (wd : Nat) (str : Bool) : AV → Option (List AV)
 | .str s => if str then some (b2t s) else none
 | .nil => if str then none else some []
 | .sl wd' xs => if str = false ∧ wd' = wd then some xs else none
 | .mu id off len _ => (hrow H id).bind fun b => if str = false ∧ b.wd = wd ∧ off + len ≤ b.xs.length then some ((b.xs.drop off).take len) else none
 | _ => none
def a1c (oc : Option Nat) (n : Nat) : Option Nat := oc.bind fun c => if n ≤ c then some c else none
noncomputable def ev (n0 : Nat) (o : EOp) (env : Env) (H : Heap) : Option (AV × Env × Heap) :=
 match o with
 | .store n a v => match a.ev env with
  | .loc id i off => (hrow H id).bind fun b =>
    if i < b.xs.length ∧ (v.ev env).fit = true ∧ (v.ev env).cells.length = n ∧ off + n ≤ b.wd then
     some (.top, env, H.set id (some ⟨b.wd, b.xs.set i (upd (b.xs.getD i .top) b.wd off n (v.ev env))⟩)) else none
  | _ => none
 | .box n v => if (v.ev env).fit = true ∧ (v.ev env).cells.length = n ∧ 0 < n then some (.loc H.length 0 0, env, H ++ [some ⟨n, [v.ev env]⟩]) else none
 | .bsl wd ps => if 0 < wd ∧ ps.all (fun s => (s.ev env).fit && decide ((s.ev env).cells.length = wd) && (s.ev env).cells.all clb) then some (.sl wd (ps.map (·.ev env)), env, H) else none
 | .bslm wd ps => if 0 < wd ∧ ps.all (fun s => (s.ev env).fit && decide ((s.ev env).cells.length = wd)) then
   some (.mu H.length 0 ps.length (some ps.length), env, H ++ [some ⟨wd, ps.map (·.ev env)⟩]) else none
 | .mksl wd bytes z l c => match l.ev env, c.ev env with
  | .int _ l, .int _ c => if 0 < wd ∧ 0 ≤ l ∧ l ≤ c ∧ (bytes : Int) * c ≤ 281474976710656 ∧ c ≤ 9223372036854775807 then
    some (.mu H.length 0 l.toNat (some c.toNat), env, H ++ [some ⟨wd, List.replicate l.toNat z⟩]) else none
  | _, _ => none
 | .app wd bytes str a b => (a0Q H wd str (b.ev env)).bind fun ys =>
   match a.ev env with
   | .nil => if 0 < wd ∧ ys.length * bytes ≤ 140737488355328 ∧ ys.length ≤ 9223372036854775807 then some (.mu H.length 0 ys.length none, env, H ++ [some ⟨wd, ys⟩]) else none
   | .mu id off len oc => (hrow H id).bind fun r =>
     if r.wd = wd ∧ off = 0 ∧ len ≤ r.xs.length ∧ n0 ≤ id ∧ 0 < ys.length ∧ (oc.any fun c => decide (len + ys.length ≤ c)) = true then
      some (.mu id 0 (len + ys.length) oc, env, H.set id (some ⟨wd, r.xs.take len ++ ys⟩)) else
     if r.wd = wd ∧ off = 0 ∧ len ≤ r.xs.length ∧ n0 ≤ id ∧ free H id = true ∧ (ys.flatMap AV.cells).all (nref id) = true ∧ (r.xs.flatMap AV.cells).all (nref id) = true ∧
       (len + ys.length) * bytes ≤ 140737488355328 ∧ len + ys.length ≤ 9223372036854775807 then
      some (.mu id 0 (len + ys.length) (a1c oc (len + ys.length)), scrub id env, H.set id (some ⟨wd, r.xs.take len ++ ys⟩)) else
     if r.wd = wd ∧ off + len ≤ r.xs.length ∧ 0 < ys.length ∧ (oc.any fun c => decide (c < len + ys.length)) = true ∧ (len + ys.length) * bytes ≤ 140737488355328 ∧ len + ys.length ≤ 9223372036854775807 then
      some (.mu H.length 0 (len + ys.length) none, env, H ++ [some ⟨wd, (r.xs.drop off).take len ++ ys⟩]) else
     if r.wd = wd ∧ off = 0 ∧ len ≤ r.xs.length ∧ n0 ≤ id ∧ (ys.flatMap AV.cells).all (nref id) = true ∧ r.xs.all (nref id) = true ∧ (len + ys.length) * bytes ≤ 140737488355328 ∧ len + ys.length ≤ 9223372036854775807 then
      some (.mu id 0 (len + ys.length) (a1c oc (len + ys.length)), scrub id env, (a1C id H).set id (some ⟨wd, r.xs.take len ++ ys⟩)) else none
   | _ => none
 | .cpy wd a b => (a0Q H wd false (b.ev env)).bind fun ys =>
   match a.ev env with
   | .mu id off len _ => (hrow H id).bind fun r =>
     if r.wd = wd ∧ off + len ≤ r.xs.length then
      some (.int .i64 (min ys.length len : Nat), env, H.set id (some ⟨wd, r.xs.take off ++ ys.take (min ys.length len) ++ r.xs.drop (off + min ys.length len)⟩)) else none
   | _ => none
 | .mkmap => some (.mp true H.length, env, H ++ [some ⟨0, [.mo []]⟩])
 | .mset m k v => match m.ev env, k.ev env, v.ev env with
  | .mp true id, .int .i64 x, .int .i64 y => (b1Q H (.mp true id)).bind fun L =>
    if mget L x = none then some (.top, env, H.set id (some ⟨0, [.mo (L ++ [(x, y)])]⟩)) else none
  | _, _, _ => none
 | .mrng m => match m.ev env with
  | .mp true id => (b1Q H (.mp true id)).bind fun L => some (.mp false H.length, env, H ++ [some ⟨0, [.io id L.length []]⟩])
  | _ => none
def a3i : Value → AV
 | .agg cs => .agg (cs.toList.map a4W)
 | v => a4W v
def c4w : Value → Bool
 | .agg cs => cs.all (·.oneCell')
 | v => v.oneCell'
def a7V (k : Nat) : List (Nat × Operand) → Option (List Src)
 | [] => some []
 | (i, x) :: r => if i = k then do
   let s ← a0O x
   let r ← a7V (k + 1) r
   some (s :: r) else none
def ceff (P : Program) (mutable : Bool) (o : Op) : Option EOp :=
 match o with
 | .store t a v => do
  let n ← a3y P t
  if 0 < n then some (.store n (← a0O a) (← a0O v)) else none
 | .box t v => do some (.box (← a3y P t) (← a0O v))
 | .alloc t => do
   let i ← P.info? t
   let z ← i.zero
   if c4w z && decide (z.cells.size = i.size) then some (.box i.size (.c (a3i z))) else none
 | .buildSlice t len a1Q =>
  match P.underlying t with
  | some (.slice e) => do
   let i ← P.info? e
   let z ← i.zero
   let ps ← a7V 0 a1Q.toList
   if z.cells.size = i.size ∧ c4w z = true ∧ ps.length = len ∧ len * i.size ≤ 16777216 then some (if mutable then .bslm i.size ps else .bsl i.size ps) else none
  | _ => none
 | .makeSlice t l c =>
  match P.underlying t with
  | some (.slice e) => do
   let i ← P.info? e
   let z ← i.zero
   if z.cells.size = i.size ∧ c4w z = true then some (.mksl i.size i.bytes (a3i z) (← a0O l) (← a0O c)) else none
  | _ => none
 | .call c =>
  match c.callee, c.args.toList, c.argTypes.toList with
  | .builtin .append, [x, y], [t, u] =>
   match P.underlying t with
   | some (.slice e) => do
    let i ← P.info? e
    let z ← i.zero
    if z.cells.size = i.size ∧ 0 < i.size then
     match P.underlying u with
     | some (.slice _) => some (.app i.size i.bytes false (← a0O x) (← a0O y))
     | some .string => if i.size = 1 then some (.app i.size i.bytes true (← a0O x) (← a0O y)) else none
     | _ => none
    else none
   | _ => none
  | .builtin .copy, [x, y], [t, u] =>
   match P.underlying t with
   | some (.slice e) => do
    let n ← a3y P e
    if 0 < n then some (.cpy n (← a0O x) (← a0O y)) else none
   | _ => none
  | _, _, _ => none
 | .makeMap t none => if mapT P t then some .mkmap else none
 | .mapUpdate t m k v => if mapT P t then do some (.mset (← a0O m) (← a0O k) (← a0O v)) else none
 | .range t x => if mapT P t then do some (.mrng (← a0O x)) else none
 | _ => none
theorem d8t (E : Emb) {z : Value} (h : c4w z = true) : Rep E z (a3i z) ∧ (a3i z).fit = true ∧ (a3i z).cells.length = z.cells.size := by
 cases z with
 | agg cs =>
  simp only [c4w, Array.all_eq_true] at h
  refine ⟨?_, rfl, by simp [a3i, AV.cells, Value.cells]⟩
  have := Rep.agg (E := E) cs.toList (cs.toList.map a4W) (by simp) (by
   intro v hv
   obtain ⟨k, hk, rfl⟩ := List.getElem_of_mem hv
   simpa using h k (by simpa using hk)) (by
   intro k v a hk ha
   simp at hk ha
   rw [hk] at ha
   simp at ha
   obtain ⟨_, rfl, rfl⟩ := ha
   exact b0O E _)
  simpa [a3i] using this
 | slice a l c =>
  refine ⟨b0O E _, ?_, ?_⟩
  ·simp only [a3i, a4W]; split <;> simp_all [AV.fit, AV.solid, Value.oneCell']
  ·simp only [a3i, a4W]; split <;> simp_all [AV.cells, Value.cells]
 | _ => first | (simp [c4w, Value.oneCell'] at h; done) | exact ⟨b0O E _, by simp [a3i, a4W, AV.fit, AV.solid, Value.oneCell'], by simp [a3i, a4W, AV.cells, Value.cells]⟩
end Go.Abs
namespace Go.Abs
section
variable {P : Program} {E : Emb} {env : Env} {tmps : Array Value}
theorem a0B.mono {E' : Emb} (he : a0B E env tmps) (hx : Ext (· < E.H.length) E E') : a0B E' env tmps := fun t => (he t).mono' hx
theorem a1E (id : Nat) (env : Env) (t : Nat) : look (scrub id env) t = if nref id (look env t) then look env t else .top := by
 induction env with
 | nil => cases h : nref id AV.top <;> simp [scrub, look, h]
 | cons p r ih =>
  obtain ⟨k, v⟩ := p
  simp only [scrub, List.map_cons, look]
  split
  ·rfl
  ·exact ih
theorem a0B.scrub {E' : Emb} {id : Nat} (he : a0B E env tmps) (hx : Ext (· ≠ id) E E') : a0B E' (Abs.scrub id env) tmps := by
 intro t
 rw [a1E]
 split
 ·rename_i h; exact (he t).mono hx (a0j.1 h)
 ·exact .top _
theorem e2d (hok : HOk E) {wd : Nat} {tx : TypeId} {str : Bool} (hk : (str = false ∧ ∃ e', P.underlying tx = some (.slice e')) ∨ (str = true ∧ P.underlying tx = some .string ∧ wd = 1))
  {v : Value} {a : AV} (hr : Rep E v a) {ys : List AV} (h : a0Q E.H wd str a = some ys) :
  ∃ news : List Value, Go.Src P wd tx v ys.length news E.w ∧ (∀ y ∈ ys, y.cells.length = wd) ∧ news.length = (ys.flatMap AV.cells).length ∧
   ∀ (k : Nat) u b, news[k]? = some u → (ys.flatMap AV.cells)[k]? = some b → Rep E u b := by
 cases hr with
 | str s =>
  simp only [a0Q] at h
  split at h
  ·rename_i hs
   cases h
   rcases hk with ⟨h1, _⟩ | ⟨_, hk, rfl⟩
   ·rw [hs] at h1; cases h1
   ·have hfl : (b2t s).flatMap AV.cells = b2t s := by
     unfold b2t
     generalize s.data.toList = l
     induction l with
     | nil => rfl
     | cons b l ih => simp only [List.map_cons, List.flatMap_cons, ih]; rfl
    have hln : (b2t s).length = s.size := by unfold b2t; rw [List.length_map, Array.length_toList]; rfl
    refine ⟨byteCells s, by rw [hln]; exact Go.Src.ofString E.w hk s, ?_, ?_, ?_⟩
    ·intro y hy
     unfold b2t at hy
     obtain ⟨b, _, rfl⟩ := List.mem_map.1 hy
     rfl
    ·rw [hfl, hln, byteCells_length]
    ·intro k u b hk hb
     rw [hfl] at hb
     unfold byteCells at hk
     unfold b2t at hb
     rw [List.getElem?_map] at hk hb
     cases hx : s.data.toList[k]? with
     | none => simp [hx] at hk
     | some c => simp [hx] at hk hb; subst hk; subst hb; exact .int _ _
  ·simp at h
 | nil =>
  simp only [a0Q] at h
  split at h
  ·simp at h
  ·rename_i hs
   cases h
   rcases hk with ⟨_, e', hk⟩ | ⟨h1, _⟩
   ·exact ⟨[], Go.Src.ofNil E.w hk 0, by simp, rfl, fun k u b hk => by simp at hk⟩
   ·exact absurd h1 hs
 | sl base cap wd' xs vs b o hcap hpos hw hcl hbase hlen hcell hrep =>
  simp only [a0Q] at h
  split at h
  ·rename_i hs
   cases h
   obtain ⟨hs, rfl⟩ := hs
   rcases hk with ⟨_, e', hk⟩ | ⟨h1, _⟩
   ·have hfl := a1p hw
    rcases hbase with rfl | ⟨rfl, hm⟩
    ·simp at hlen; subst hlen
     refine ⟨[], ?_, by simp, rfl, fun k u b hk => by simp at hk⟩
     cases base with
     | none => exact Go.Src.ofNil E.w hk cap
     | some ad => exact Go.Src.ofSlice E.w hk ad 0 cap [] (by simp) (fun j u hj => by simp at hj) (fun u hu => by simp at hu)
    ·refine ⟨vs, Go.Src.ofSlice E.w hk ⟨b, o, none⟩ _ cap vs (by rw [hlen, hfl]) (fun j u hj => by rw [Addr.add_lit]; exact (hcell j u hj).1) ?_, hw, hlen, hrep⟩
     intro u hu
     obtain ⟨k, hk, rfl⟩ := List.getElem_of_mem hu
     exact (hcell k _ (List.getElem?_eq_getElem hk)).2
   ·rw [hs] at h1; cases h1
  ·simp at h
 | mu blk id off len oc bn q cap hlive hbn hq hlen hsz hoc =>
  simp only [a0Q, Option.bind_eq_some_iff] at h
  obtain ⟨blk', hb', h⟩ := h
  have hb2 := a1h hb'
  rw [hlive] at hb2; cases hb2
  split at h
  ·rename_i hs
   cases h
   obtain ⟨hs, hwd, hle⟩ := hs
   rcases hk with ⟨_, e', hk⟩ | ⟨h1, _⟩
   ·have hw := hok.wids id blk hlive
    have hfl : blk.flat.length = blk.xs.length * blk.wd := a1p hw
    obtain ⟨c, e, r⟩ := hok.row id blk bn hlive hbn
    subst hwd
    have hl : ((blk.xs.drop off).take len).length = len := by simp; omega
    have hf : ((blk.xs.drop off).take len).flatMap AV.cells = (blk.flat.drop (off * blk.wd)).take (len * blk.wd) := by
     rw [a4E (wd := blk.wd) (fun x hx => hw x (List.mem_of_mem_drop hx)), b1Z hw]; rfl
    have hmul : (off + len) * blk.wd ≤ blk.xs.length * blk.wd := Nat.mul_le_mul_right _ hle
    have hmul' : (off + len) * blk.wd = off * blk.wd + len * blk.wd := Nat.add_mul ..
    have hfit := r.fits
    have hnl : ((c.toList.drop (off * blk.wd)).take (len * blk.wd)).length = len * blk.wd := by
     rw [List.length_take, List.length_drop, Array.length_toList]; omega
    have one : ∀ u ∈ (c.toList.drop (off * blk.wd)).take (len * blk.wd), u.oneCell' = true := by
     intro u hu
     obtain ⟨k, hk, rfl⟩ := List.getElem_of_mem hu
     rw [hnl] at hk
     refine r.one (off * blk.wd + k) _ (by omega) ?_
     rw [List.getElem_take, List.getElem_drop]
     simp
    refine ⟨(c.toList.drop (off * blk.wd)).take (len * blk.wd), ?_, fun y hy => hw y (List.mem_of_mem_drop (List.mem_of_mem_take hy)), ?_, ?_⟩
    ·rw [hl]
     by_cases hz : len = 0
     ·subst hz
      exact Go.Src.ofSlice E.w hk _ 0 cap _ (by simp) (fun j u hj => by simp at hj) (fun u hu => by simp at hu)
     ·have hq' : q = off * blk.wd := hq.resolve_right (by omega)
      refine Go.Src.ofSlice E.w hk _ len cap _ hnl (fun j u hj => ?_) one
      rw [Addr.add_lit, hq']
      rw [List.getElem?_take] at hj
      split at hj
      ·rename_i hlt
       have h0 : 0 < blk.wd := Nat.pos_of_ne_zero (fun h => by simp [h] at hlt)
       rw [cell_of_row _ _ _ _ _ _ (r.heap h0)]
       simpa using hj
      ·simp at hj
    ·rw [hf, hnl, List.length_take, List.length_drop]; omega
    ·intro k u b hku hkb
     rw [hf] at hkb
     rw [List.getElem?_take] at hku hkb
     split at hku
     ·rename_i hlt
      simp only [hlt, if_true] at hkb
      rw [List.getElem?_drop] at hku hkb
      exact r.rep _ u b (by simpa using hku) hkb
     ·simp at hku
   ·rw [hs] at h1; cases h1
  ·simp at h
 | mu0 blk id off oc hlive hbn hoc =>
  simp only [a0Q, Option.bind_eq_some_iff] at h
  obtain ⟨blk', hb', h⟩ := h
  split at h
  ·rename_i hs
   cases h
   rcases hk with ⟨_, e', hk⟩ | ⟨h1, _⟩
   ·simp only [List.take_zero]
    exact ⟨[], Go.Src.ofNil E.w hk 0, by simp, rfl, fun k u b hk => by simp at hk⟩
   ·rw [hs.1] at h1; cases h1
  ·simp at h
 | dead v a id hr hd h1 =>
  cases a <;> simp [AV.ref] at hr
  ·subst hr; simp [a0Q, hrow, hd] at h
  ·simp [a0Q] at h
  ·simp [a0Q] at h
 | _ => simp [a0Q] at h
theorem a5F (w : World) (t tx ty e : TypeId) (i : TypeInfo) (ht : P.underlying t = some (.slice e)) (hi : P.info? e = some i) (g sLen sCap : Nat) (cur : Array Value) (et : TypeId)
  (hg : w.heap[g]? = some (.cells cur et (0, 0))) (x : Value) (n : Nat) (news : List Value) (hs : Go.Src P i.size tx x n news w)
  (hroom : sLen + n ≤ sCap) (hfit : sLen * i.size + news.length ≤ cur.size) :
  (Builtin.append_ #[t, tx] ty #[.slice (some ⟨g, 0, none⟩) sLen sCap, x]).run P w =
   .ok (.slice (some ⟨g, 0, none⟩) (sLen + n) sCap) (w.setRow g (cur.toList.take (sLen * i.size) ++ news ++ cur.toList.drop (sLen * i.size + news.length)).toArray) := by
 have hst := run_storeCells_at P g (sLen * i.size) et news 0 cur w hg (by simpa using hfit) hs.one
 simp only [Nat.add_zero] at hst
 rcases hs.kind with ⟨e', hk⟩ | hk <;> simp [Builtin.append_, run_underlying ht, run_underlying hk, sizeOf, typeInfo, hi, hs.len, hroom, hs.cells, Addr.add_lit, hst]
theorem b4R (w : World) (t tx ty e : TypeId) (i : TypeInfo) (ht : P.underlying t = some (.slice e)) (hi : P.info? e = some i)
  (x : Value) (hs : Go.Src P i.size tx x 0 [] w) :
  (Builtin.append_ #[t, tx] ty #[.slice none 0 0, x]).run P w = .ok (.slice none 0 0) w := by
 rcases hs.kind with ⟨e', hk⟩ | hk <;> simp [Builtin.append_, run_underlying ht, run_underlying hk, sizeOf, typeInfo, hi, hs.len, hs.cells]
def Left (P : Program) (n0 : Nat) (E : Emb) (tmps : Array Value) (s : Sem Next) (a : AV) (env' : Env) (H' : Heap) : Prop :=
 ∃ φ' w' nx v, s.run P E.w = .ok nx w' ∧ (nx = .value v ∨ (nx = .skip ∧ v = undef)) ∧ HOk ⟨φ', H', w'⟩ ∧ Rep ⟨φ', H', w'⟩ v a ∧ a0B ⟨φ', H', w'⟩ env' tmps ∧ Ext (· < n0) E ⟨φ', H', w'⟩
theorem a3d {s : Sem Value} {w w' : World} {v : Value} (hs : s.run P w = .ok v w') : (do pure (Next.value (← s)) : Sem Next).run P w = .ok (.value v) w' := by simp [hs]
theorem a2n (w : World) (o : Obj) : ∀ b, b < w.heap.size → (w.alloc o).heap[b]? = w.heap[b]? := fun b hb => by
 show (w.heap.push o)[b]? = _
 rw [Array.getElem?_push, if_neg (by omega)]
theorem c5i {n0 : Nat} (hn : n0 ≤ E.H.length) (hok : HOk E) (he : a0B E env tmps) {w : World} (os : w.os = E.w.os) (tape : w.tape = E.w.tape) (out : w.output = E.w.output) (size : E.w.heap.size ≤ w.heap.size)
  (keep : ∀ b, b < E.w.heap.size → w.heap[b]? = E.w.heap[b]?) (b : Nat) (hb : E.w.heap.size ≤ b) (blk : Blk) (hpos : 0 < blk.wd) (hw : ∀ x ∈ blk.xs, x.cells.length = blk.wd) {c : Array Value} {e : TypeId}
  (hh : w.heap[b]? = some (.cells c e (0, 0))) (hfit : blk.flat.length ≤ c.size)
  (hnew : ∀ (k : Nat) v a, c[k]? = some v → blk.flat[k]? = some a → v.oneCell' = true ∧ Rep E v a) :
  ∃ φ', HOk ⟨φ', E.H ++ [some blk], w⟩ ∧ a0B ⟨φ', E.H ++ [some blk], w⟩ env tmps ∧ Ext (· < n0) E ⟨φ', E.H ++ [some blk], w⟩ ∧ φ' E.H.length = some b ∧ (E.H ++ [some blk])[E.H.length]? = some (some blk) := by
 obtain ⟨h1, h2⟩ := hok.alloc os tape out size (some b) (fun b' hb' => by cases hb'; exact hb) keep blk hpos hw (.inr ⟨b, c, e, rfl, hh, hfit, hnew⟩)
 exact ⟨_, h1, he.mono h2, h2.sub (fun i hi => Nat.lt_of_lt_of_le hi hn), by simp, by simp⟩
theorem d9l {n0 : Nat} (hn : n0 ≤ E.H.length) (hok : HOk E) (he : a0B E env tmps) (t : TypeId) {x : Value} {a : AV} (hr : Rep E x a) (hf : a.fit = true) {n : Nat} (hl : a.cells.length = n) (hpos : 0 < n) :
  Left P n0 E tmps (do pure (Next.value (← Instr.box t x))) (.loc E.H.length 0 0) env (E.H ++ [some ⟨n, [a]⟩]) := by
 obtain ⟨q1, q2, q3⟩ := a7U hr hf
 have hflat : (⟨n, [a]⟩ : Blk).flat = a.cells := by simp [Blk.flat]
 obtain ⟨φ', h1, h2, h3, h4, h5⟩ := c5i (env := env) (tmps := tmps) (n0 := n0) hn hok he (w := E.w.alloc (.cells x.cells t)) rfl rfl rfl (by simp) (a2n _ _) E.w.heap.size (Nat.le_refl _) ⟨n, [a]⟩ hpos
  (by simpa using hl) (c := x.cells) (e := t) (heap_alloc_new _ _) (by rw [hflat, ← q1]; simp)
  (fun k v b hv hb => by
   rw [hflat] at hb
   have hv' : x.cells.toList[k]? = some v := by simpa using hv
   exact ⟨q2 v (List.mem_of_getElem? hv'), q3 k v b hv' hb⟩)
 refine ⟨φ', _, _, .pointer (some ⟨E.w.heap.size, 0, none⟩), a3d ?_, .inl rfl, h1, ?_, h2, h3⟩
 ·simp [Instr.box, newVar, newRow]
 ·have := Rep.loc (E := ⟨φ', E.H ++ [some ⟨n, [a]⟩], E.w.alloc (.cells x.cells t)⟩) ⟨n, [a]⟩ E.H.length 0 0 E.w.heap.size h5 h4
  simpa using this
theorem e1V {x v : AV} {wd off n : Nat} (hx : x.cells.length = wd) (hv : v.cells.length = n) (hle : off + n ≤ wd) : (upd x wd off n v).cells = a2i x.cells off v.cells := by
 unfold upd
 split
 ·rename_i h
  obtain ⟨rfl, rfl⟩ := h
  unfold a2i
  rw [List.take_zero, List.drop_eq_nil_of_le (by omega)]; simp
 ·rfl
theorem e6F {xs : List AV} {wd : Nat} (h : ∀ x ∈ xs, x.cells.length = wd) {i : Nat} (hi : i < xs.length) {y : AV} (hy : y.cells.length = wd) :
  (xs.set i y).flatMap AV.cells = a2i (xs.flatMap AV.cells) (i * wd) y.cells := by
 induction xs generalizing i with
 | nil => simp at hi
 | cons x xs ih =>
  have hx := h x (by simp)
  cases i with
  | zero =>
   simp only [List.set_cons_zero, List.flatMap_cons, a2i, Nat.zero_mul, List.take_zero, List.nil_append, Nat.zero_add]
   rw [hy, ← hx, List.drop_left]
  | succ i =>
   simp only [List.set_cons_succ, List.flatMap_cons]
   rw [ih (fun z hz => h z (by simp [hz])) (by simpa using hi)]
   unfold a2i
   have e : (i + 1) * wd = x.cells.length + i * wd := by rw [hx, Nat.add_mul]; omega
   rw [e, List.take_length_add_append, Nat.add_assoc, List.drop_length_add_append]
   simp [List.append_assoc]
theorem d1e {cs aXs bs : List AV} {p off : Nat} (hp : p + aXs.length ≤ cs.length) (h : (cs.drop p).take aXs.length = aXs) (hoff : off + bs.length ≤ aXs.length) :
  a2i cs p (a2i aXs off bs) = a2i cs (p + off) bs := by
 have e1 : cs = cs.take p ++ (aXs ++ cs.drop (p + aXs.length)) := by
  conv => lhs; rw [← List.take_append_drop p cs, ← List.take_append_drop aXs.length (cs.drop p), h]
  simp [List.append_assoc, List.drop_drop]
 have l1 : (a2i aXs off bs).length = aXs.length := by simp [a2i]; omega
 have lp : (cs.take p).length = p := by simp; omega
 generalize cs.take p = c1 at e1 lp
 generalize cs.drop (p + aXs.length) = c2 at e1
 subst e1
 subst lp
 unfold a2i at l1 ⊢
 rw [l1]
 have a1 : (c1 ++ (aXs ++ c2)).take c1.length = c1 := List.take_left
 have a2 : (c1 ++ (aXs ++ c2)).drop (c1.length + aXs.length) = c2 := by rw [List.drop_length_add_append]; exact List.drop_left
 have a3 : (c1 ++ (aXs ++ c2)).take (c1.length + off) = c1 ++ aXs.take off := by rw [List.take_length_add_append, List.take_append_of_le_length (by omega)]
 have a4 : (c1 ++ (aXs ++ c2)).drop (c1.length + off + bs.length) = aXs.drop (off + bs.length) ++ c2 := by
  rw [Nat.add_assoc, List.drop_length_add_append, List.drop_append_of_le_length (by omega)]
 rw [a1, a2, a3, a4]
 simp [List.append_assoc]
theorem d9R {n0 : Nat} (hn : n0 ≤ E.H.length) (hok : HOk E) (he : a0B E env tmps) {t : TypeId} {p x : Value} {id i off n : Nat} {a : AV} (hp : Rep E p (.loc id i off)) (hr : Rep E x a) (hs : a3y P t = some n) (hn0 : 0 < n)
  {blk : Blk} (hb : hrow E.H id = some blk) (hi : i < blk.xs.length) (hf : a.fit = true) (hl : a.cells.length = n) (hle : off + n ≤ blk.wd) :
  Left P n0 E tmps (do Instr.storeAt t p x; pure .skip) .top env (E.H.set id (some ⟨blk.wd, blk.xs.set i (upd (blk.xs.getD i .top) blk.wd off n a)⟩)) := by
 have hlive := a1h hb
 unfold a3y at hs
 simp only [Option.map_eq_some_iff] at hs
 obtain ⟨inf, hinf, hsz⟩ := hs
 cases hp with
 | loc blk' _ _ _ bn hlive' hbn =>
  rw [hlive] at hlive'; cases hlive'
  obtain ⟨q1, q2, q3⟩ := a7U hr hf
  obtain ⟨c, e, r⟩ := hok.row id blk bn hlive hbn
  have hw := hok.wids id blk hlive
  have hxl : (blk.xs.getD i .top).cells.length = blk.wd := hw _ (c3S hi)
  have huc := e1V hxl hl hle
  have hul : (upd (blk.xs.getD i .top) blk.wd off n a).cells.length = blk.wd := by rw [huc]; simp only [a2i, List.length_append, List.length_take, List.length_drop]; omega
  have hfl : blk.flat.length = blk.xs.length * blk.wd := a1p hw
  have hmul : (i + 1) * blk.wd ≤ blk.xs.length * blk.wd := Nat.mul_le_mul_right _ hi
  have hmul' : (i + 1) * blk.wd = i * blk.wd + blk.wd := by rw [Nat.add_mul]; omega
  have hfits := r.fits
  have hat : (blk.flat.drop (i * blk.wd)).take (blk.xs.getD i .top).cells.length = (blk.xs.getD i .top).cells := by
   apply List.ext_getElem?
   intro k
   rw [List.getElem?_take, List.getElem?_drop, hxl]
   split
   ·rename_i hk; exact c3W hw hi k hk
   ·rename_i hk; rw [List.getElem?_eq_none (by omega)]
  have hflat' : (blk.xs.set i (upd (blk.xs.getD i .top) blk.wd off n a)).flatMap AV.cells = a2i blk.flat (i * blk.wd + off) a.cells := by
   rw [e6F hw hi hul, huc]
   exact d1e (by rw [hxl]; show _ ≤ blk.flat.length; omega) hat (by omega)
  have hst := run_storeCells_at P bn (i * blk.wd + off) e x.cells.toList 0 c E.w (r.heap (by omega)) (by rw [q1]; omega) q2
  simp only [Nat.add_zero] at hst
  have hsp : a2i blk.flat (i * blk.wd + off) a.cells = blk.flat.take (i * blk.wd + off) ++ a.cells ++ blk.flat.drop (i * blk.wd + off + a.cells.length) := rfl
  obtain ⟨h1, h2⟩ := hok.write hlive hbn (by omega) r (c.toList.take (i * blk.wd + off) ++ x.cells.toList ++ c.toList.drop (i * blk.wd + off + x.cells.toList.length)).toArray
   (blk.xs.set i (upd (blk.xs.getD i .top) blk.wd off n a)) (by simp; simp at q1; omega)
   (fun y hy => by
    rcases List.mem_or_eq_of_mem_set hy with hy | rfl
    ·exact hw y hy
    ·exact hul)
   (by rw [hflat', hsp]; simp; simp at q1; omega)
   (fun k v b hv hb => by
    rw [hflat', hsp, List.append_assoc] at hb
    have hv' : (c.toList.take (i * blk.wd + off) ++ (x.cells.toList ++ c.toList.drop (i * blk.wd + off + x.cells.toList.length)))[k]? = some v := by simpa [List.append_assoc] using hv
    have tc : (c.toList.take (i * blk.wd + off)).length = i * blk.wd + off := by simp; omega
    have tf : (blk.flat.take (i * blk.wd + off)).length = i * blk.wd + off := by simp; omega
    rcases Nat.lt_or_ge k (i * blk.wd + off) with hk | hk
    ·rw [List.getElem?_append_left (by omega)] at hv' hb
     rw [List.getElem?_take] at hv' hb
     simp only [hk, if_true] at hv' hb
     have hv'' : c[k]? = some v := by simpa using hv'
     exact ⟨r.one k v (by omega) hv'', r.rep k v b hv'' hb⟩
    ·rw [List.getElem?_append_right (by omega), tc] at hv'
     rw [List.getElem?_append_right (by omega), tf] at hb
     rcases Nat.lt_or_ge (k - (i * blk.wd + off)) x.cells.toList.length with hk' | hk'
     ·rw [List.getElem?_append_left hk'] at hv'
      rw [List.getElem?_append_left (by omega)] at hb
      exact ⟨q2 v (List.mem_of_getElem? hv'), q3 _ v b hv' hb⟩
     ·rw [List.getElem?_append_right hk'] at hv'
      rw [List.getElem?_append_right (by omega)] at hb
      rw [List.getElem?_drop] at hv' hb
      rw [q1] at hv'
      have hv'' : c[i * blk.wd + off + a.cells.length + (k - (i * blk.wd + off) - a.cells.length)]? = some v := by simpa using hv'
      exact ⟨r.one _ v (a0h hb) hv'', r.rep _ v b hv'' hb⟩)
  refine ⟨E.φ, _, .skip, undef, ?_, .inr ⟨rfl, rfl⟩, h1, .top _, he.mono h2, h2.sub (fun j hj => Nat.lt_of_lt_of_le hj hn)⟩
  have hsz' : x.cells.size = inf.size := by rw [← Array.length_toList, q1, hl, hsz]
  simp [Instr.storeAt, Instr.sureAddr, storeVar, sizeOf, typeInfo, hinf, hsz', hst]
 | dead v a id' hr' hd h1 =>
  simp [AV.ref] at hr'; subst hr'
  rw [hlive] at hd; cases hd
end
end Go.Abs
namespace Go.Abs
section
variable {P : Program} {E : Emb} {env : Env} {tmps : Array Value}
theorem c6U (wd : Nat) : ∀ (vals : List Value) (k : Nat) (zs : Array Value), (∀ v ∈ vals, v.cells.size = wd) → k * wd + vals.length * wd ≤ zs.size →
  ∃ us : Array Value, Instr.fill (fun i => some (i * wd, wd)) zs ((vals.zipIdx k).map fun p => (p.2, p.1)) = some us ∧
   us.toList = zs.toList.take (k * wd) ++ vals.flatMap (·.cells.toList) ++ zs.toList.drop (k * wd + vals.length * wd)
 | [], k, zs, hv, hs => ⟨zs, rfl, by simp⟩
 | v :: vals, k, zs, hv, hs => by
  have hv0 := hv v (by simp)
  have e1 : (vals.length + 1) * wd = vals.length * wd + wd := by rw [Nat.add_mul]; omega
  have e2 : (k + 1) * wd = k * wd + wd := by rw [Nat.add_mul]; omega
  simp only [List.length_cons] at hs
  have hf := b1Y (k * wd) v.cells.toList 0 zs (by rw [Array.length_toList, hv0]; omega)
  simp only [Nat.add_zero, Array.length_toList, hv0] at hf
  have hz : (v.cells.zipIdx.foldl (fun cs (p : Value × Nat) => cs.setIfInBounds (k * wd + p.2) p.1) zs) = (v.cells.toList.zipIdx.foldl (fun cs (p : Value × Nat) => cs.setIfInBounds (k * wd + p.2) p.1) zs) := by
   rw [← Array.foldl_toList, Array.toList_zipIdx]
  have hsz : (v.cells.toList.zipIdx.foldl (fun cs (p : Value × Nat) => cs.setIfInBounds (k * wd + p.2) p.1) zs).size = zs.size := by
   rw [← Array.length_toList, hf]
   simp only [List.length_append, List.length_take, List.length_drop, Array.length_toList, hv0]; omega
  obtain ⟨us, g1, g2⟩ := c6U wd vals (k + 1) (v.cells.toList.zipIdx.foldl (fun cs (p : Value × Nat) => cs.setIfInBounds (k * wd + p.2) p.1) zs) (fun u hu => hv u (by simp [hu])) (by rw [hsz]; omega)
  refine ⟨us, ?_, ?_⟩
  ·simp only [List.zipIdx_cons, List.map_cons, Instr.fill]
   rw [if_neg (by simp [hv0]; omega)]
   exact (congrArg (fun z => Instr.fill _ z _) hz).trans g1
  ·rw [g2, hf]
   have t1 : (zs.toList.take (k * wd) ++ v.cells.toList).length = (k + 1) * wd := by
    simp only [List.length_append, List.length_take, Array.length_toList, hv0]; omega
   rw [List.take_append_of_le_length (by omega), List.take_of_length_le (by omega)]
   rw [List.drop_append, t1, List.drop_drop, List.drop_eq_nil_of_le (by rw [t1]; omega)]
   simp only [List.flatMap_cons, List.nil_append, List.append_assoc, List.length_cons]
   congr 4
   omega
theorem d9d : ∀ {vals : List Value} {aXs : List AV}, vals.length = aXs.length → (∀ (k : Nat) v a, vals[k]? = some v → aXs[k]? = some a → Rep E v a) → (∀ a ∈ aXs, a.fit = true) →
  (vals.flatMap (·.cells.toList)).length = (aXs.flatMap AV.cells).length ∧ (∀ u ∈ vals.flatMap (·.cells.toList), u.oneCell' = true) ∧
  ∀ (k : Nat) u b, (vals.flatMap (·.cells.toList))[k]? = some u → (aXs.flatMap AV.cells)[k]? = some b → Rep E u b
 | [], [], _, _, _ => ⟨rfl, by simp, fun k u b h => by simp at h⟩
 | v :: vals, a :: aXs, hl, hr, hf => by
  obtain ⟨q1, q2, q3⟩ := a7U (hr 0 v a rfl rfl) (hf a (by simp))
  obtain ⟨r1, r2, r3⟩ := d9d (vals := vals) (aXs := aXs) (by simpa using hl) (fun k v a h1 h2 => hr (k + 1) v a (by simpa using h1) (by simpa using h2)) (fun b hb => hf b (by simp [hb]))
  simp only [List.flatMap_cons]
  refine ⟨by rw [List.length_append, List.length_append, q1, r1], ?_, ?_⟩
  ·intro u hu
   rcases List.mem_append.1 hu with hu | hu
   ·exact q2 u hu
   ·exact r2 u hu
  ·intro k u b hu hb
   rcases Nat.lt_or_ge k v.cells.toList.length with hk | hk
   ·rw [List.getElem?_append_left hk] at hu
    rw [List.getElem?_append_left (by omega)] at hb
    exact q3 k u b hu hb
   ·rw [List.getElem?_append_right hk] at hu
    rw [List.getElem?_append_right (by omega), ← q1] at hb
    exact r3 _ u b hu hb
theorem c8X : ∀ {a1Q : List (Nat × Operand)} {k : Nat} {ps : List Src}, a7V k a1Q = some ps →
  a1Q = ((a1Q.map (·.2)).zipIdx k).map (fun p => (p.2, p.1)) ∧ srcs (a1Q.map (·.2)) = some ps
 | [], k, ps, h => by simp [a7V] at h; subst h; exact ⟨rfl, rfl⟩
 | (i, x) :: r, k, ps, h => by
  simp only [a7V] at h
  split at h
  ·rename_i hi
   simp only [Option.bind_eq_bind, Option.bind_eq_some_iff] at h
   obtain ⟨s, h1, r', h2, h3⟩ := h
   cases h3
   obtain ⟨g1, g2⟩ := c8X h2
   refine ⟨?_, ?_⟩
   ·simp only [List.map_cons, List.zipIdx_cons]
    rw [← g1, hi]
   ·simp only [List.map_cons, srcs, h1, g2]; rfl
  ·simp at h
theorem c7V (t : TypeId) (e : TypeId) (i : TypeInfo) (z : Value) (ht : P.underlying t = some (.slice e)) (hi : P.info? e = some i) (hz : i.zero = some z) (hzs : z.cells.size = i.size)
  (w : World) (vals : List Value) (hv : ∀ v ∈ vals, v.cells.size = i.size) (hcap : vals.length * i.size ≤ 16777216) :
  (Instr.buildSlice t vals.length ((vals.zipIdx.map fun p => (p.2, p.1)).toArray)).run P w =
   .ok (.slice (some ⟨w.heap.size, 0, none⟩) vals.length vals.length) (w.alloc (.cells (vals.flatMap (·.cells.toList)).toArray e)) := by
 have hn : ¬ (16777216 < vals.length * i.size) := by omega
 by_cases h0 : vals.length * i.size = 0
 ·obtain ⟨us, g1, g2⟩ := c6U i.size vals 0 ((Array.range (vals.length * i.size)).map ((#[] : Array Value)[· % 0]!)) hv (by simp)
  have hus : us = (vals.flatMap (·.cells.toList)).toArray := by
   apply Array.ext'
   rw [g2]
   simp [h0]
  have g1' : Instr.fill (fun i_1 => some (i_1 * i.size, i.size)) #[] (List.map (fun p => (p.snd, p.fst)) vals.zipIdx) = some us := by
   rw [← g1]; congr 1; simp [h0]
  simp only [Instr.buildSlice, Sem.run_bind, run_underlying ht, Result.andThen_ok, sizeOf, typeInfo, run_program, hi, Sem.run_pure, h0]
  simp [g1', newRow, hus, show Array.range 0 = #[] from rfl]
 ·obtain ⟨us, g1, g2⟩ := c6U i.size vals 0 ((Array.range (vals.length * i.size)).map (z.cells[· % z.cells.size]!)) hv (by simp)
  have hus : us = (vals.flatMap (·.cells.toList)).toArray := by
   apply Array.ext'
   rw [g2]
   simp only [Nat.zero_mul, List.take_zero, List.nil_append, Nat.zero_add]
   rw [List.drop_eq_nil_of_le (by simp)]; simp
  simp only [Instr.buildSlice, Sem.run_bind, run_underlying ht, Result.andThen_ok, sizeOf, typeInfo, run_program, hi, Sem.run_pure, h0, zeroValue, hz]
  simp only [hzs] at g1
  simp [hn, h0, hi, hz, hzs, g1, newRow, hus]
theorem c4g (xs : List Operand) (f : Operand → Value) (k : Nat) : (((xs.zipIdx k).map (fun p => (p.2, p.1))).map fun p => (p.1, f p.2)) = ((xs.map f).zipIdx k).map (fun p => (p.2, p.1)) := by
 induction xs generalizing k with
 | nil => rfl
 | cons x xs ih => simp only [List.zipIdx_cons, List.map_cons, ih]
theorem e7a {n0 : Nat} (hn : n0 ≤ E.H.length) (hok : HOk E) (he : a0B E env tmps) {t e : TypeId} {i : TypeInfo} {z : Value} (ht : P.underlying t = some (.slice e)) (hi : P.info? e = some i) (hz : i.zero = some z)
  (hzs : z.cells.size = i.size) {a1Q : Array (Nat × Operand)} {ps : List Src} (hp : a7V 0 a1Q.toList = some ps) (hcap : ps.length * i.size ≤ 16777216) (hpos : 0 < i.size)
  (hfit : ∀ s ∈ ps, (s.ev env).fit = true ∧ (s.ev env).cells.length = i.size) :
  (Left P n0 E tmps (do pure (Next.value (← Instr.buildSlice t ps.length (a1Q.map fun (i, x) => (i, Act.eval ⟨tmps, []⟩ x))))) (.mu E.H.length 0 ps.length (some ps.length)) env (E.H ++ [some ⟨i.size, ps.map (·.ev env)⟩])) ∧
  ((∀ s ∈ ps, ∀ c ∈ (s.ev env).cells, Cl c) → Left P n0 E tmps (do pure (Next.value (← Instr.buildSlice t ps.length (a1Q.map fun (i, x) => (i, Act.eval ⟨tmps, []⟩ x))))) (.sl i.size (ps.map (·.ev env))) env E.H) := by
 obtain ⟨g1, g2⟩ := c8X hp
 obtain ⟨hl, hr⟩ := b2D he g2
 have hl' : (a1Q.toList.map (·.2)).length = ps.length := hl.symm
 obtain ⟨q1, q2, q3⟩ := d9d (vals := (a1Q.toList.map (·.2)).map (Act.eval ⟨tmps, []⟩)) (aXs := ps.map (·.ev env)) (by simp at hl' ⊢; omega) hr (by
  intro a ha
  obtain ⟨s, hs, rfl⟩ := List.mem_map.1 ha
  exact (hfit s hs).1)
 have hv : ∀ v ∈ (a1Q.toList.map (·.2)).map (Act.eval ⟨tmps, []⟩), v.cells.size = i.size := by
  intro v hv
  obtain ⟨k, hk, rfl⟩ := List.getElem_of_mem hv
  have hk' : k < ps.length := by simp at hk hl'; omega
  have := a7U (hr k _ _ (List.getElem?_eq_getElem hk) (by rw [List.getElem?_map, List.getElem?_eq_getElem hk']; rfl)) (hfit _ (List.getElem_mem hk')).1
  rw [← Array.length_toList, this.1, (hfit _ (List.getElem_mem hk')).2]
 have hlen : ((a1Q.toList.map (·.2)).map (Act.eval ⟨tmps, []⟩)).length = ps.length := by simp at hl' ⊢; omega
 have hrun := c7V (P := P) t e i z ht hi hz hzs E.w _ hv (by rw [hlen]; exact hcap)
 rw [hlen] at hrun
 have harr : (a1Q.map fun (i, x) => (i, Act.eval ⟨tmps, []⟩ x)) = (((((a1Q.toList.map (·.2)).map (Act.eval ⟨tmps, []⟩)).zipIdx).map fun p => (p.2, p.1)).toArray) := by
  rw [← c4g, ← g1]
  apply Array.ext'
  simp
 rw [harr]
 have hw : ∀ x ∈ ps.map (·.ev env), x.cells.length = i.size := by
  intro x hx
  obtain ⟨s, hs, rfl⟩ := List.mem_map.1 hx
  exact (hfit s hs).2
 constructor
 ·obtain ⟨φ', h1, h2, h3, h4, h5⟩ := c5i (env := env) (tmps := tmps) (n0 := n0) hn hok he (w := E.w.alloc (.cells (((a1Q.toList.map (·.2)).map (Act.eval ⟨tmps, []⟩)).flatMap (·.cells.toList)).toArray e)) rfl rfl rfl (by simp) (a2n _ _) E.w.heap.size (Nat.le_refl _)
   ⟨i.size, ps.map (·.ev env)⟩ hpos hw (heap_alloc_new _ _) (by rw [Blk.flat, ← q1]; simp) (fun k v b hv hb => by
    have hv' := by simpa using hv
    have hv'' : (((a1Q.toList.map (·.2)).map (Act.eval ⟨tmps, []⟩)).flatMap (·.cells.toList))[k]? = some v := by rw [← hv]; simp
    exact ⟨q2 v (List.mem_of_getElem? hv''), q3 k v b hv'' hb⟩)
  refine ⟨φ', _, _, _, a3d hrun, .inl rfl, h1, ?_, h2, h3⟩
  have := Rep.mu (E := ⟨φ', E.H ++ [some ⟨i.size, ps.map (·.ev env)⟩], E.w.alloc (.cells (((a1Q.toList.map (·.2)).map (Act.eval ⟨tmps, []⟩)).flatMap (·.cells.toList)).toArray e)⟩) ⟨i.size, ps.map (·.ev env)⟩ E.H.length 0 ps.length (some ps.length) E.w.heap.size 0 ps.length h5 h4
   (.inl (by simp)) (Nat.le_refl _) (by
    simp only
    rw [a2l (heap_alloc_new _ _)]
    have hf := a1p hw
    rw [← q1] at hf
    simp only [List.size_toArray, hf, List.length_map, Nat.zero_add]
    exact Nat.le_refl _) (fun c hc => by cases hc; rfl)
  exact this
 ·intro hcl
  have hx := Ext.of_heap (S := (· < E.H.length)) (E := E) (w := E.w.alloc (.cells (((a1Q.toList.map (·.2)).map (Act.eval ⟨tmps, []⟩)).flatMap (·.cells.toList)).toArray e)) rfl rfl rfl (by simp) (a2n _ _) hok
  refine ⟨E.φ, _, _, _, a3d hrun, .inl rfl, hok.of_heap rfl rfl rfl (by simp) (a2n _ _), ?_, he.mono hx, hx.sub (fun j hj => Nat.lt_of_lt_of_le hj hn)⟩
  have := Rep.sl (E := ⟨E.φ, E.H, E.w.alloc (.cells (((a1Q.toList.map (·.2)).map (Act.eval ⟨tmps, []⟩)).flatMap (·.cells.toList)).toArray e)⟩) (some ⟨E.w.heap.size, 0, none⟩) ps.length i.size (ps.map (·.ev env))
   (((a1Q.toList.map (·.2)).map (Act.eval ⟨tmps, []⟩)).flatMap (·.cells.toList)) E.w.heap.size 0 (by simp) hpos hw (by
    intro c hc
    obtain ⟨x, hx, hc⟩ := List.mem_flatMap.1 hc
    obtain ⟨s, hs, rfl⟩ := List.mem_map.1 hx
    exact hcl s hs c hc) (.inr ⟨rfl, by
    rintro ⟨id, blk, hl, hp⟩
    have := hok.lt hl hp
    omega⟩) q1 (by
    intro k v hk
    refine ⟨?_, q2 v (List.mem_of_getElem? hk)⟩
    rw [cell_of_row _ _ _ _ _ _ (heap_alloc_new _ _), Nat.zero_add]
    simpa using hk) (fun k v a hk ha => (q3 k v a hk ha).mono' hx)
  simpa using this
theorem e3e {n0 : Nat} (hn : n0 ≤ E.H.length) (hok : HOk E) (he : a0B E env tmps) {t e : TypeId} {i : TypeInfo} {z : Value} (ht : P.underlying t = some (.slice e)) (hi : P.info? e = some i) (hz : i.zero = some z)
  (hzs : z.cells.size = i.size) (hzo : c4w z = true) (hpos : 0 < i.size) {kl kc : IntKind} {l c : Int} (h0 : 0 ≤ l) (hlc : l ≤ c) (hbytes : (i.bytes : Int) * c ≤ 281474976710656) (h63 : c ≤ 9223372036854775807) :
  Left P n0 E tmps (do pure (Next.value (← Instr.makeSlice t (.int kl l) (.int kc c)))) (.mu E.H.length 0 l.toNat (some c.toNat)) env (E.H ++ [some ⟨i.size, List.replicate l.toNat (a3i z)⟩]) := by
 obtain ⟨z1, z2, z3⟩ := d8t E hzo
 obtain ⟨q1, q2, q3⟩ := a7U z1 z2
 have hrun := run_make (P := P) E.w t e i z ht hi hz kl kc l c h0 hlc hbytes h63
 have hw : ∀ x ∈ List.replicate l.toNat (a3i z), x.cells.length = i.size := by
  intro x hx
  rw [List.eq_of_mem_replicate hx, z3, hzs]
 have hfl := a1p hw
 rw [List.length_replicate] at hfl
 have hmul : l.toNat * i.size ≤ c.toNat * i.size := Nat.mul_le_mul_right _ (by omega)
 obtain ⟨φ', h1, h2, h3, h4, h5⟩ := c5i (env := env) (tmps := tmps) (n0 := n0) hn hok he (w := E.w.alloc (.cells (madeCells z.cells (c.toNat * i.size)) e)) rfl rfl rfl (by simp) (a2n _ _) E.w.heap.size (Nat.le_refl _)
  ⟨i.size, List.replicate l.toNat (a3i z)⟩ hpos hw (heap_alloc_new _ _) (by rw [Blk.flat, hfl, size_madeCells]; exact hmul) (fun k v b hv hb => by
   have hk : k < l.toNat * i.size := by have := a0h hb; rw [Blk.flat, hfl] at this; exact this
   have hj : k % i.size < i.size := Nat.mod_lt _ hpos
   have hbi : k / i.size < l.toNat := Nat.div_lt_of_lt_mul (by rw [Nat.mul_comm]; exact hk)
   have hfg := c3W hw (i := k / i.size) (by simpa using hbi) (k % i.size) hj
   rw [show k / i.size * i.size + k % i.size = k from by rw [Nat.mul_comm]; exact Nat.div_add_mod k i.size] at hfg
   have hfg' : (List.replicate l.toNat (a3i z)).getD (k / i.size) .top = a3i z := by simp [List.getElem?_replicate, hbi]
   rw [hfg'] at hfg
   rw [Blk.flat] at hb
   simp only at hb
   rw [hfg] at hb
   have hvz : z.cells.toList[k % i.size]? = some v := by
    rw [madeCells] at hv
    rw [Array.getElem?_map, Array.getElem?_range] at hv
    rw [if_pos (by omega)] at hv
    simp only [Option.map_some, Option.some.injEq] at hv
    rw [← hv, hzs]
    have : k % i.size < z.cells.size := by omega
    simp [this]
   exact ⟨q2 v (List.mem_of_getElem? hvz), q3 _ v b hvz hb⟩)
 refine ⟨φ', _, _, _, a3d hrun, .inl rfl, h1, ?_, h2, h3⟩
 exact Rep.mu (E := ⟨φ', E.H ++ [some ⟨i.size, List.replicate l.toNat (a3i z)⟩], E.w.alloc (.cells (madeCells z.cells (c.toNat * i.size)) e)⟩) ⟨i.size, List.replicate l.toNat (a3i z)⟩ E.H.length 0 l.toNat (some c.toNat) E.w.heap.size 0 c.toNat h5 h4
  (.inl (by simp)) (by omega) (by
   simp only
   rw [a2l (heap_alloc_new _ _), size_madeCells]; simp) (fun d hd => by cases hd; rfl)
end
end Go.Abs
namespace Go.Abs
section
variable {P : Program} {E : Emb} {env : Env} {tmps : Array Value}
theorem a4X (w : World) (t tx ty e : TypeId) (i : TypeInfo) (ht : P.underlying t = some (.slice e)) (hi : P.info? e = some i)
  (x : Value) (hs : Go.Src P i.size tx x 0 [] w) (base : Option Addr) (sLen sCap : Nat) (hle : sLen ≤ sCap) :
  (Builtin.append_ #[t, tx] ty #[.slice base sLen sCap, x]).run P w = .ok (.slice base sLen sCap) w := by
 rcases hs.kind with ⟨e', hk⟩ | hk <;> cases base <;> simp [Builtin.append_, run_underlying ht, run_underlying hk, sizeOf, typeInfo, hi, hs.len, hs.cells, hle, storeCells]
theorem d7V (dst : Option Tmp) (x y : Operand) (t u type : TypeId) (pos : String) (after : Array Edge) (guard : Option (Nat × Bool)) :
  execOp (Act.eval ⟨tmps, []⟩) ⟨dst, .call ⟨.builtin .append, #[x, y], #[t, u]⟩, type, pos, after, guard⟩ =
   (do pure (Next.value (← Builtin.append_ #[t, u] type #[Act.eval ⟨tmps, []⟩ x, Act.eval ⟨tmps, []⟩ y]))) := by
 simp [execOp, resolve, invoke, builtin]
theorem b8E (w : World) (o : Obj) : (w.drew.alloc o).heap[w.heap.size]? = some o := heap_alloc_new w.drew o
theorem a6x {c1 c2 : List Value} {a1 a2 : List AV} {Q : Value → AV → Prop} (hl : c1.length = a1.length) (h1 : ∀ (k : Nat) u b, c1[k]? = some u → a1[k]? = some b → Q u b)
  (h2 : ∀ (k : Nat) u b, c2[k]? = some u → a2[k]? = some b → Q u b) : ∀ (k : Nat) u b, (c1 ++ c2)[k]? = some u → (a1 ++ a2)[k]? = some b → Q u b := by
 intro k u b hu hb
 rcases Nat.lt_or_ge k c1.length with hk | hk
 ·rw [List.getElem?_append_left hk] at hu
  rw [List.getElem?_append_left (by omega)] at hb
  exact h1 k u b hu hb
 ·rw [List.getElem?_append_right hk] at hu
  rw [List.getElem?_append_right (by omega), ← hl] at hb
  exact h2 _ u b hu hb
theorem d5Y {n0 : Nat} (hn : n0 ≤ E.H.length) (hok : HOk E) (he : a0B E env tmps) {t tx ty e : TypeId} {i : TypeInfo} {z : Value} (ht : P.underlying t = some (.slice e)) (hi : P.info? e = some i) (hz : i.zero = some z)
  (hzs : z.cells.size = i.size) (hpos : 0 < i.size) {x : Value} {ys : List AV} {news : List Value} (hs : Go.Src P i.size tx x ys.length news E.w) (hw : ∀ y ∈ ys, y.cells.length = i.size)
  (hnl : news.length = (ys.flatMap AV.cells).length) (hnr : ∀ (k : Nat) u b, news[k]? = some u → (ys.flatMap AV.cells)[k]? = some b → Rep E u b)
  (hb : ys.length * i.bytes ≤ 140737488355328) (h63 : ys.length ≤ 9223372036854775807) :
  Left P n0 E tmps (do pure (Next.value (← Builtin.append_ #[t, tx] ty #[.slice none 0 0, x]))) (.mu E.H.length 0 ys.length none) env (E.H ++ [some ⟨i.size, ys⟩]) := by
 by_cases h0 : ys = []
 ·subst h0
  have : news = [] := by simpa using hnl
  subst this
  obtain ⟨h1, h2⟩ := hok.alloc (w := E.w) rfl rfl rfl (Nat.le_refl _) none (fun b hb => by cases hb) (fun _ _ => rfl) ⟨i.size, []⟩ hpos (by simp) (.inl ⟨rfl, rfl⟩)
  refine ⟨_, E.w, _, _, a3d (b4R E.w t tx ty e i ht hi x hs), .inl rfl, h1, ?_, he.mono h2, h2.sub (fun j hj => Nat.lt_of_lt_of_le hj hn)⟩
  exact Rep.mu0 (E := ⟨fun j => if j = E.H.length then none else E.φ j, E.H ++ [some ⟨i.size, []⟩], E.w⟩) ⟨i.size, []⟩ E.H.length 0 none (by simp) (by simp) (fun c hc => by cases hc)
 ·have hlen : 0 < ys.length := by cases ys with | nil => exact absurd rfl h0 | cons y ys => simp
  have hg := run_append_grow_src (P := P) E.w t tx ty e i z ht hi hz none 0 0 [] (run_firstCells_none E.w.drew i.size 0 0 0) x ys.length news hs (by omega) (by omega)
   (by rw [nextslicecap_zero (by omega)]; simp; omega)
  simp only [Nat.zero_add, List.nil_append] at hg
  have hge := grownCap_ge E.w ys.length 0 e
  have hfl := a1p hw
  have hcs : (news.toArray ++ Builtin.zeroCells z.cells (grownCap E.w ys.length 0 e - ys.length)).size = grownCap E.w ys.length 0 e * i.size := by
   rw [Array.size_append, size_zeroCells, hzs, List.size_toArray, hnl, hfl, ← Nat.add_mul]; congr 1; omega
  obtain ⟨φ', h1, h2, h3, h4, h5⟩ := c5i (env := env) (tmps := tmps) (n0 := n0) hn hok he (w := E.w.drew.alloc (.cells (news.toArray ++ Builtin.zeroCells z.cells (grownCap E.w ys.length 0 e - ys.length)) e)) rfl rfl rfl (by simp) (a2n E.w.drew _) E.w.heap.size (Nat.le_refl _)
   ⟨i.size, ys⟩ hpos hw (b8E E.w _) (by rw [Array.size_append, Blk.flat, ← hnl]; simp) (fun k v b hv hb => by
    have hk := a0h hb
    rw [Blk.flat, ← hnl] at hk
    have hv' : news[k]? = some v := by
     rw [Array.getElem?_append_left (by simpa using hk)] at hv
     simpa using hv
    exact ⟨hs.one v (List.mem_of_getElem? hv'), hnr k v b hv' hb⟩)
  refine ⟨φ', _, _, _, a3d hg, .inl rfl, h1, ?_, h2, h3⟩
  refine Rep.mu (E := ⟨φ', E.H ++ [some ⟨i.size, ys⟩], _⟩) ⟨i.size, ys⟩ E.H.length 0 ys.length none E.w.heap.size 0 _ h5 h4 (.inl (by simp)) hge ?_ (fun c hc => by cases hc)
  simp only
  rw [a2l (b8E E.w _), hcs]; simp
theorem c7M {n0 : Nat} (hok : HOk E) (he : a0B E env tmps) {t tx ty e : TypeId} {i : TypeInfo} {z : Value} (ht : P.underlying t = some (.slice e)) (hi : P.info? e = some i) (hz : i.zero = some z)
  (hzs : z.cells.size = i.size) (hpz : 0 < i.size) {v x : Value} {ys : List AV} {news : List Value} (hs : Go.Src P i.size tx x ys.length news E.w) (hw : ∀ y ∈ ys, y.cells.length = i.size)
  (hnl : news.length = (ys.flatMap AV.cells).length) (hnr : ∀ (k : Nat) u b, news[k]? = some u → (ys.flatMap AV.cells)[k]? = some b → Rep E u b)
  {id len : Nat} {oc : Option Nat} (hr : Rep E v (.mu id 0 len oc)) {r : Blk} (hrow : E.H[id]? = some (some r)) (hwd : r.wd = i.size) (hle : len ≤ r.xs.length) (hn : n0 ≤ id)
  (hfree : Free E.H id) (hys : ∀ a ∈ ys.flatMap AV.cells, Ref (· ≠ id) a) (hxs : ∀ a ∈ r.xs.flatMap AV.cells, Ref (· ≠ id) a)
  (hb : (len + ys.length) * i.bytes ≤ 140737488355328) (h63 : len + ys.length ≤ 9223372036854775807) :
  Left P n0 E tmps (do pure (Next.value (← Builtin.append_ #[t, tx] ty #[v, x]))) (.mu id 0 (len + ys.length) (a1c oc (len + ys.length))) (scrub id env) (E.H.set id (some ⟨i.size, r.xs.take len ++ ys⟩)) := by
 have hid := a0o hrow
 have hpos : 0 < r.wd := by omega
 have hwr := hok.wids id r hrow
 rw [hwd] at hpos hwr
 have hwx : ∀ x ∈ r.xs.take len ++ ys, x.cells.length = r.wd := by
  intro x hx
  rw [hwd]
  rcases List.mem_append.1 hx with hx | hx
  ·exact hwr x (List.mem_of_mem_take hx)
  ·exact hw x hx
 have hft : (r.xs.take len).flatMap AV.cells = r.flat.take (len * i.size) := a4E hwr len
 have hfx : (r.xs.take len ++ ys).flatMap AV.cells = r.flat.take (len * i.size) ++ ys.flatMap AV.cells := by rw [List.flatMap_append, hft]
 have hfl : r.flat.length = r.xs.length * i.size := a1p hwr
 have hfy : (ys.flatMap AV.cells).length = ys.length * i.size := a1p hw
 have hmul : len * i.size ≤ r.xs.length * i.size := Nat.mul_le_mul_right _ hle
 have hadd : (len + ys.length) * i.size = len * i.size + ys.length * i.size := Nat.add_mul ..
 have htl : (r.flat.take (len * i.size)).length = len * i.size := by rw [List.length_take]; omega
 have hrefs : ∀ a ∈ (r.xs.take len ++ ys).flatMap AV.cells, Ref (· ≠ id) a := by
  intro a ha
  rw [hfx] at ha
  rcases List.mem_append.1 ha with ha | ha
  ·exact hxs a (List.mem_of_mem_take ha)
  ·exact hys a ha
 -- the new row's cells
 have fin : ∀ (w : World) (b q cap : Nat) (c : Array Value) (e' : TypeId), w.os = E.w.os → w.tape = E.w.tape → w.output = E.w.output → E.w.heap.size ≤ w.heap.size → (E.φ id = some b ∨ E.w.heap.size ≤ b) →
   (∀ b, b < E.w.heap.size → E.φ id ≠ some b → w.heap[b]? = E.w.heap[b]?) → w.heap[b]? = some (.cells c e' (0, 0)) → (len + ys.length) * i.size ≤ c.size →
   (∀ (k : Nat) u b, c[k]? = some u → (r.flat.take (len * i.size) ++ ys.flatMap AV.cells)[k]? = some b → u.oneCell' = true ∧ Rep E u b) →
   (Builtin.append_ #[t, tx] ty #[v, x]).run P E.w = .ok (.slice (some ⟨b, q, none⟩) (len + ys.length) cap) w → (q = 0 ∨ (len + ys.length = 0 ∧ cap = 0)) → len + ys.length ≤ cap → cap * i.size ≤ c.size → (∀ d, a1c oc (len + ys.length) = some d → cap = d) →
   Left P n0 E tmps (do pure (Next.value (← Builtin.append_ #[t, tx] ty #[v, x]))) (.mu id 0 (len + ys.length) (a1c oc (len + ys.length))) (scrub id env) (E.H.set id (some ⟨i.size, r.xs.take len ++ ys⟩)) := by
  intro w b q cap c e' o1 o2 o3 o4 hb' keep hh hfit hnew hrun hq hlc hcs hcap
  obtain ⟨h1, h2⟩ := hok.rebind o1 o2 o3 o4 hrow (by omega) b hb' keep (r.xs.take len ++ ys) hwx hh (by rw [hfx, List.length_append, htl, hfy, ← hadd]; exact hfit) hfree (fun k u a hu ha => by
   have hm := hrefs a (List.mem_of_getElem? ha)
   rw [hfx] at ha
   exact ⟨(hnew k u a hu ha).1, (hnew k u a hu ha).2, hm⟩)
  rw [hwd] at h1 h2
  refine ⟨_, w, _, _, a3d hrun, .inl rfl, h1, ?_, he.scrub h2, h2.sub (fun j hj => by show j ≠ id; have : j < n0 := hj; omega)⟩
  refine Rep.mu (E := ⟨fun j => if j = id then some b else E.φ j, E.H.set id (some ⟨i.size, r.xs.take len ++ ys⟩), w⟩) ⟨i.size, r.xs.take len ++ ys⟩ id 0 (len + ys.length) _ b q cap ?_ (by simp) ?_ hlc ?_ hcap
  ·simp only [a6S _ _ _ hid, if_true]
  ·rcases hq with hq | hq
   ·exact .inl (by rw [hq]; simp)
   ·exact .inr hq
  ·simp only
   rw [a2l hh]; simpa using hcs
 have grow : ∀ (base : Option Addr) (cap : Nat) (olds : List Value), v = .slice base len cap → (Builtin.firstCells i.size len (.slice base len cap)).run P E.w.drew = .ok olds.toArray E.w.drew → cap < len + ys.length → len ≤ cap →
   olds.length = len * i.size → (∀ (k : Nat) u b, olds[k]? = some u → (r.flat.take (len * i.size))[k]? = some b → u.oneCell' = true ∧ Rep E u b) → (∀ d, oc = some d → cap = d) →
   Left P n0 E tmps (do pure (Next.value (← Builtin.append_ #[t, tx] ty #[v, x]))) (.mu id 0 (len + ys.length) (a1c oc (len + ys.length))) (scrub id env) (E.H.set id (some ⟨i.size, r.xs.take len ++ ys⟩)) := by
  intro base cap olds hv hfo hg hlc holl hor hoc
  subst hv
  have hgr := run_append_grow_src (P := P) E.w t tx ty e i z ht hi hz base len cap olds hfo x ys.length news hs hg (by omega) (growslice_fits hg hb)
  have hge := grownCap_ge E.w (len + ys.length) cap e
  have hcs : ((olds ++ news).toArray ++ Builtin.zeroCells z.cells (grownCap E.w (len + ys.length) cap e - (len + ys.length))).size = grownCap E.w (len + ys.length) cap e * i.size := by
   rw [Array.size_append, size_zeroCells, hzs, List.size_toArray, List.length_append, holl, hnl, hfy, ← hadd, ← Nat.add_mul]; congr 1; omega
  refine fin _ E.w.heap.size 0 _ _ e (by rfl) (by rfl) (by rfl) (by simp) (.inr (Nat.le_refl _)) (fun b hb _ => a2n E.w.drew _ b hb) (b8E E.w _) ?_ ?_ hgr (.inl rfl) hge (by rw [hcs]; exact Nat.le_refl _) ?_
  ·rw [Array.size_append, List.size_toArray, List.length_append, holl, hnl, hfy, ← hadd]; omega
  ·intro k u b hu hb'
   have hk : k < (olds ++ news).length := by
    have := a0h hb'
    rw [List.length_append, htl, hfy] at this
    rw [List.length_append, holl, hnl, hfy]; exact this
   have hu' : (olds ++ news)[k]? = some u := by
    rw [Array.getElem?_append_left (by simpa using hk)] at hu
    simpa using hu
   exact a6x (Q := fun u b => u.oneCell' = true ∧ Rep E u b) (by rw [holl, htl]) hor (fun k u b hu hb => ⟨hs.one u (List.mem_of_getElem? hu), hnr k u b hu hb⟩) k u b hu' hb'
  ·intro d hd
   unfold a1c at hd
   simp only [Option.bind_eq_some_iff] at hd
   obtain ⟨d', h1, h2⟩ := hd
   split at h2
   ·have := hoc d' h1; omega
   ·simp at h2
 cases hr with
 | mu blk _ _ _ _ bn q cap hlive hbn hq hlen hsz hoc =>
  rw [hrow] at hlive; cases hlive
  obtain ⟨c, e0, ro⟩ := hok.row id r bn hrow hbn
  have hfits := ro.fits
  have hsz' : cap * i.size ≤ c.size := by
   rw [a2l (ro.heap (by omega)), hwd] at hsz; simpa using hsz
  have hcapl : (len) * i.size ≤ cap * i.size := Nat.mul_le_mul_right _ hlen
  have hold : ∀ (k : Nat) u b, c[k]? = some u → (r.flat.take (len * i.size))[k]? = some b → u.oneCell' = true ∧ Rep E u b := by
   intro k u b hu hb'
   rw [List.getElem?_take] at hb'
   split at hb'
   ·exact ⟨ro.one k u (a0h hb') hu, ro.rep k u b hu hb'⟩
   ·simp at hb'
  by_cases hy0 : ys = []
  ·subst hy0
   have : news = [] := by simpa using hnl
   subst this
   have hrun := a4X E.w t tx ty e i ht hi x hs (some ⟨bn, q, none⟩) len cap hlen
   refine fin E.w bn q cap c e0 rfl rfl rfl (Nat.le_refl _) (.inl hbn) (fun _ _ _ => rfl) (ro.heap (by omega)) (by simp; omega) ?_ hrun (by simp at hq ⊢; omega) (by simpa using hlen) hsz' ?_
   ·intro k u b hu hb'
    simp only [List.flatMap_nil, List.append_nil] at hb'
    exact hold k u b hu hb'
   ·intro d hd
    unfold a1c at hd
    simp only [Option.bind_eq_some_iff] at hd
    obtain ⟨d', h1, h2⟩ := hd
    split at h2
    ·have := hoc d' h1; simp at h2; omega
    ·simp at h2
  ·have hyl : 0 < ys.length := by cases ys with | nil => exact absurd rfl hy0 | cons y ys => simp
   by_cases hroom : len + ys.length ≤ cap
   ·have hq0 : q = 0 := by
     rcases hq with hq | hq
     ·simpa using hq
     ·omega
    subst hq0
    have hcy : (len + ys.length) * i.size ≤ cap * i.size := Nat.mul_le_mul_right _ hroom
    have hrun := a5F (P := P) E.w t tx ty e i ht hi bn len cap c e0 (ro.heap (by omega)) x ys.length news hs hroom (by rw [hnl, hfy, ← hadd]; omega)
    refine fin (E.w.setRow bn (c.toList.take (len * i.size) ++ news ++ c.toList.drop (len * i.size + news.length)).toArray) bn 0 cap _ e0 rfl rfl rfl (by simp) (.inl hbn) (fun b hb hne => b0J _ _ _ _ (fun he => hne (by rw [he]; exact hbn))) (a8u _ _ _ _ _ _ (ro.heap (by omega))) ?_ ?_ hrun (.inl rfl) hroom ?_ ?_
    ·simp only [List.size_toArray, List.length_append, List.length_take, List.length_drop, Array.length_toList]; rw [hnl, hfy]; omega
    ·intro k u b hu hb'
     have hu' : (c.toList.take (len * i.size) ++ (news ++ c.toList.drop (len * i.size + news.length)))[k]? = some u := by simpa [List.append_assoc] using hu
     refine a6x (Q := fun u b => u.oneCell' = true ∧ Rep E u b) (by rw [htl, List.length_take, Array.length_toList]; omega) ?_ ?_ k u b hu' hb'
     ·intro k u b hu hb'
      refine hold k u b ?_ hb'
      rw [List.getElem?_take] at hu
      split at hu
      ·simpa using hu
      ·simp at hu
     ·intro k u b hu hb'
      rw [List.getElem?_append_left (by rw [hnl]; exact a0h hb')] at hu
      exact ⟨hs.one u (List.mem_of_getElem? hu), hnr k u b hu hb'⟩
    ·simp only [List.size_toArray, List.length_append, List.length_take, List.length_drop, Array.length_toList]; rw [hnl, hfy]; omega
    ·intro d hd
     unfold a1c at hd
     simp only [Option.bind_eq_some_iff] at hd
     obtain ⟨d', h1, h2⟩ := hd
     split at h2
     ·have := hoc d' h1; simp at h2; omega
     ·simp at h2
   ·have hfo : (Builtin.firstCells i.size len (.slice (some ⟨bn, q, none⟩) len cap)).run P E.w.drew = .ok (c.toList.take (len * i.size)).toArray E.w.drew := by
     refine run_firstCells_some E.w.drew i.size len _ len cap _ (by rw [List.length_take, Array.length_toList]; omega) (fun j u hj => ?_)
     have hj' := a0h hj
     rw [List.length_take] at hj'
     have hne : len ≠ 0 := by rintro rfl; simp at hj'
     have hq0 : q = 0 := by
      rcases hq with hq | hq
      ·simpa using hq
      ·omega
     subst hq0
     rw [Addr.add_lit, World.cell?_drew, cell_of_row _ _ _ _ _ _ (ro.heap (by omega))]
     rw [List.getElem?_take] at hj
     split at hj
     ·simpa using hj
     ·simp at hj
    refine grow _ cap _ rfl hfo (by omega) hlen (by rw [List.length_take, Array.length_toList]; omega) (fun k u b hu hb' => ?_) hoc
    refine hold k u b ?_ hb'
    rw [List.getElem?_take] at hu
    split at hu
    ·simpa using hu
    ·simp at hu
 | mu0 blk _ _ _ hlive hbn hoc =>
  rw [hrow] at hlive; cases hlive
  have hx0 := hok.emp id r hrow hbn
  by_cases hy0 : ys = []
  ·subst hy0
   have : news = [] := by simpa using hnl
   subst this
   have hrun := a4X E.w t tx ty e i ht hi x hs none 0 0 (Nat.le_refl _)
   have hsame : E.H.set id (some ⟨i.size, r.xs.take 0 ++ []⟩) = E.H := by
    apply List.ext_getElem?
    intro j
    rw [a6S _ _ _ hid]
    split
    ·rename_i hj; subst hj
     rw [hrow, ← hwd]
     cases r; simp at hx0 ⊢; exact hx0
    ·rfl
   rw [hsame]
   refine ⟨E.φ, E.w, _, _, a3d hrun, .inl rfl, hok, ?_, ?_, Ext.refl _ _⟩
   ·refine Rep.mu0 (E := ⟨E.φ, E.H, E.w⟩) r id 0 _ hrow hbn ?_
    intro d hd
    unfold a1c at hd
    simp only [Option.bind_eq_some_iff] at hd
    obtain ⟨d', h1, h2⟩ := hd
    split at h2
    ·have := hoc d' h1; simp at h2; omega
    ·simp at h2
   ·intro t
    rw [a1E]
    split
    ·exact he t
    ·exact .top _
  ·have hyl : 0 < ys.length := by cases ys with | nil => exact absurd rfl hy0 | cons y ys => simp
   refine grow none 0 [] rfl (run_firstCells_none E.w.drew i.size 0 0 0) (by omega) (by omega) (by simp) (fun k u b hu _ => by simp at hu) (fun d hd => hoc d hd)
 | dead _ _ id' hr' hd h1 =>
  simp [AV.ref] at hr'; subst hr'
  rw [hrow] at hd; cases hd
theorem d2H {n0 : Nat} (hok : HOk E) (he : a0B E env tmps) {t tx ty e : TypeId} {i : TypeInfo} (ht : P.underlying t = some (.slice e)) (hi : P.info? e = some i) (hpz : 0 < i.size)
  {v x : Value} {ys : List AV} {news : List Value} (hs : Go.Src P i.size tx x ys.length news E.w) (hw : ∀ y ∈ ys, y.cells.length = i.size)
  (hnl : news.length = (ys.flatMap AV.cells).length) (hnr : ∀ (k : Nat) u b, news[k]? = some u → (ys.flatMap AV.cells)[k]? = some b → Rep E u b)
  {id len : Nat} {oc : Option Nat} (hr : Rep E v (.mu id 0 len oc)) {r : Blk} (hrow : E.H[id]? = some (some r)) (hwd : r.wd = i.size) (hle : len ≤ r.xs.length) (hn : n0 ≤ id)
  (hyl : 0 < ys.length) (hroom : (oc.any fun c => decide (len + ys.length ≤ c)) = true) :
  Left P n0 E tmps (do pure (Next.value (← Builtin.append_ #[t, tx] ty #[v, x]))) (.mu id 0 (len + ys.length) oc) env (E.H.set id (some ⟨i.size, r.xs.take len ++ ys⟩)) := by
 have hid := a0o hrow
 have hwr := hok.wids id r hrow
 obtain ⟨c0, rfl, hc0⟩ : ∃ c, oc = some c ∧ len + ys.length ≤ c := by
  cases oc with
  | none => simp at hroom
  | some c => exact ⟨c, rfl, by simpa using hroom⟩
 have hft : (r.xs.take len).flatMap AV.cells = r.flat.take (len * i.size) := by rw [hwd] at hwr; exact a4E hwr len
 have hfx : (r.xs.take len ++ ys).flatMap AV.cells = r.flat.take (len * i.size) ++ ys.flatMap AV.cells := by rw [List.flatMap_append, hft]
 have hfl : r.flat.length = r.xs.length * i.size := by rw [hwd] at hwr; exact a1p hwr
 have hfy : (ys.flatMap AV.cells).length = ys.length * i.size := a1p hw
 have hmul : len * i.size ≤ r.xs.length * i.size := Nat.mul_le_mul_right _ hle
 have hadd : (len + ys.length) * i.size = len * i.size + ys.length * i.size := Nat.add_mul ..
 have htl : (r.flat.take (len * i.size)).length = len * i.size := by rw [List.length_take]; omega
 cases hr with
 | mu blk _ _ _ _ bn q cap hlive hbn hq hlen hsz hoc =>
  rw [hrow] at hlive; cases hlive
  have hcc := hoc c0 rfl
  subst hcc
  obtain ⟨c, e0, ro⟩ := hok.row id r bn hrow hbn
  have hsz' : cap * i.size ≤ c.size := by
   rw [a2l (ro.heap (by omega)), hwd] at hsz; simpa using hsz
  have hq0 : q = 0 := by
   rcases hq with hq | hq
   ·simpa using hq
   ·omega
  subst hq0
  have hcy : (len + ys.length) * i.size ≤ cap * i.size := Nat.mul_le_mul_right _ hc0
  have hrun := a5F (P := P) E.w t tx ty e i ht hi bn len cap c e0 (ro.heap (by omega)) x ys.length news hs hc0 (by rw [hnl, hfy, ← hadd]; omega)
  have hold : ∀ (k : Nat) u b, c[k]? = some u → (r.flat.take (len * i.size))[k]? = some b → u.oneCell' = true ∧ Rep E u b := by
   intro k u b hu hb'
   rw [List.getElem?_take] at hb'
   split at hb'
   ·exact ⟨ro.one k u (a0h hb') hu, ro.rep k u b hu hb'⟩
   ·simp at hb'
  have hsize : (c.toList.take (len * i.size) ++ news ++ c.toList.drop (len * i.size + news.length)).toArray.size = c.size := by
   simp only [List.size_toArray, List.length_append, List.length_take, List.length_drop, Array.length_toList]; rw [hnl, hfy]; omega
  obtain ⟨h1, h2⟩ := hok.write hrow hbn (by omega) ro (c.toList.take (len * i.size) ++ news ++ c.toList.drop (len * i.size + news.length)).toArray (r.xs.take len ++ ys) hsize (by
   intro y hy
   rcases List.mem_append.1 hy with hy | hy
   ·exact hwr y (List.mem_of_mem_take hy)
   ·rw [hwd]; exact hw y hy) (by rw [hsize, hfx, List.length_append, htl, hfy, ← hadd]; omega) (by
   intro k u b hu hb'
   rw [hfx] at hb'
   have hu' : (c.toList.take (len * i.size) ++ (news ++ c.toList.drop (len * i.size + news.length)))[k]? = some u := by simpa [List.append_assoc] using hu
   refine a6x (Q := fun u b => u.oneCell' = true ∧ Rep E u b) (by rw [htl, List.length_take, Array.length_toList]; omega) ?_ ?_ k u b hu' hb'
   ·intro k u b hu hb'
    refine hold k u b ?_ hb'
    rw [List.getElem?_take] at hu
    split at hu
    ·simpa using hu
    ·simp at hu
   ·intro k u b hu hb'
    rw [List.getElem?_append_left (by rw [hnl]; exact a0h hb')] at hu
    exact ⟨hs.one u (List.mem_of_getElem? hu), hnr k u b hu hb'⟩)
  rw [hwd] at h1 h2
  refine ⟨_, _, _, _, a3d hrun, .inl rfl, h1, ?_, fun tt => (he tt).mono h2 (he tt).ref, h2.sub (fun j hj => by show j < E.H.length; have : j < n0 := hj; omega)⟩
  refine Rep.mu (E := ⟨E.φ, E.H.set id (some ⟨i.size, r.xs.take len ++ ys⟩), _⟩) ⟨i.size, r.xs.take len ++ ys⟩ id 0 (len + ys.length) _ bn 0 cap ?_ hbn (.inl (by simp)) hc0 ?_ hoc
  ·simp only [a6S _ _ _ hid, if_true]
  ·simp only
   rw [a2l (a8u _ _ _ _ _ _ (ro.heap (by omega))), hsize]; simpa using hsz'
 | mu0 blk _ _ _ hlive hbn hoc => have := hoc c0 rfl; omega
 | dead _ _ id' hr' hd h1 =>
  simp [AV.ref] at hr'; subst hr'
  rw [hrow] at hd; cases hd
theorem e8C (hok : HOk E) {wd : Nat} {v : Value} {a : AV} (hr : Rep E v a) {ys : List AV} (h : a0Q E.H wd false a = some ys) :
  ∃ base cap, v = .slice base ys.length cap ∧ (∀ y ∈ ys, y.cells.length = wd) ∧ ∃ news : List Value, news.length = (ys.flatMap AV.cells).length ∧ (∀ u ∈ news, u.oneCell' = true) ∧
   (∀ (k : Nat) u b, news[k]? = some u → (ys.flatMap AV.cells)[k]? = some b → Rep E u b) ∧ (news = [] ∨ ∃ ad, base = some ad ∧ ∀ (j : Nat) u, news[j]? = some u → E.w.cell? (ad.add j) = some u) := by
 cases hr with
 | nil =>
  simp only [a0Q] at h
  cases h
  exact ⟨none, 0, rfl, by simp, [], rfl, by simp, fun k u b h => by simp at h, .inl rfl⟩
 | sl base cap wd' xs vs b o hcap hpos hw hcl hbase hlen hcell hrep =>
  simp only [a0Q] at h
  split at h
  ·rename_i hs
   cases h
   obtain ⟨_, rfl⟩ := hs
   refine ⟨base, cap, rfl, hw, vs, hlen, ?_, hrep, ?_⟩
   ·intro u hu
    obtain ⟨k, hk, rfl⟩ := List.getElem_of_mem hu
    exact (hcell k _ (List.getElem?_eq_getElem hk)).2
   ·rcases hbase with rfl | ⟨rfl, hm⟩
    ·exact .inl (by simpa using hlen)
    ·exact .inr ⟨_, rfl, fun j u hj => by rw [Addr.add_lit]; exact (hcell j u hj).1⟩
  ·simp at h
 | mu blk id off len oc bn q cap hlive hbn hq hlen hsz hoc =>
  simp only [a0Q, Option.bind_eq_some_iff] at h
  obtain ⟨blk', hb', h⟩ := h
  have hb2 := a1h hb'
  rw [hlive] at hb2; cases hb2
  split at h
  ·rename_i hs
   cases h
   obtain ⟨hs, hwd, hle⟩ := hs
   have hw := hok.wids id blk hlive
   have hfl : blk.flat.length = blk.xs.length * blk.wd := a1p hw
   obtain ⟨c, e, r⟩ := hok.row id blk bn hlive hbn
   subst hwd
   have hl : ((blk.xs.drop off).take len).length = len := by simp; omega
   have hf : ((blk.xs.drop off).take len).flatMap AV.cells = (blk.flat.drop (off * blk.wd)).take (len * blk.wd) := by
    rw [a4E (wd := blk.wd) (fun x hx => hw x (List.mem_of_mem_drop hx)), b1Z hw]; rfl
   have hmul : (off + len) * blk.wd ≤ blk.xs.length * blk.wd := Nat.mul_le_mul_right _ hle
   have hmul' : (off + len) * blk.wd = off * blk.wd + len * blk.wd := Nat.add_mul ..
   have hfit := r.fits
   have hnl : ((c.toList.drop (off * blk.wd)).take (len * blk.wd)).length = len * blk.wd := by
    rw [List.length_take, List.length_drop, Array.length_toList]; omega
   refine ⟨some ⟨bn, q, none⟩, cap, by rw [hl], fun y hy => hw y (List.mem_of_mem_drop (List.mem_of_mem_take hy)), (c.toList.drop (off * blk.wd)).take (len * blk.wd), ?_, ?_, ?_, ?_⟩
   ·rw [hf, hnl, List.length_take, List.length_drop]; omega
   ·intro u hu
    obtain ⟨k, hk, rfl⟩ := List.getElem_of_mem hu
    rw [hnl] at hk
    refine r.one (off * blk.wd + k) _ (by omega) ?_
    rw [List.getElem_take, List.getElem_drop]
    simp
   ·intro k u b hku hkb
    rw [hf] at hkb
    rw [List.getElem?_take] at hku hkb
    split at hku
    ·rename_i hlt
     simp only [hlt, if_true] at hkb
     rw [List.getElem?_drop] at hku hkb
     exact r.rep _ u b (by simpa using hku) hkb
    ·simp at hku
   ·by_cases hz : len = 0
    ·subst hz; exact .inl (by simp)
    ·refine .inr ⟨_, rfl, fun j u hj => ?_⟩
     have hq' : q = off * blk.wd := hq.resolve_right (by omega)
     rw [List.getElem?_take] at hj
     split at hj
     ·rename_i hlt
      have h0 : 0 < blk.wd := Nat.pos_of_ne_zero (fun h => by simp [h] at hlt)
      rw [Addr.add_lit, hq', cell_of_row _ _ _ _ _ _ (r.heap h0)]
      simpa using hj
     ·simp at hj
  ·simp at h
 | mu0 blk id off oc hlive hbn hoc =>
  simp only [a0Q, Option.bind_eq_some_iff] at h
  obtain ⟨blk', hb', h⟩ := h
  split at h
  ·cases h
   simp only [List.take_zero]
   exact ⟨none, 0, rfl, by simp, [], rfl, by simp, fun k u b h => by simp at h, .inl rfl⟩
  ·simp at h
 | dead v a id hr hd h1 =>
  cases a <;> simp [AV.ref] at hr
  ·subst hr; simp [a0Q, hrow, hd] at h
  ·simp [a0Q] at h
  ·simp [a0Q] at h
 | _ => simp [a0Q] at h
theorem d3n (w : World) (t u ty e : TypeId) (i : TypeInfo) (ht : P.underlying t = some (.slice e)) (hi : P.info? e = some i) (g o dLen dCap : Nat) (base : Option Addr) (sLen sCap : Nat) (cur : Array Value) (et : TypeId)
  (hg : w.heap[g]? = some (.cells cur et (0, 0))) (cs : List Value) (hn : cs.length = Nat.min sLen dLen * i.size) (hsrc : cs = [] ∧ (base = none → Nat.min sLen dLen = 0) ∨ ∃ ad, base = some ad ∧ ∀ (j : Nat) v, cs[j]? = some v → w.cell? (ad.add j) = some v)
  (hfit : o + cs.length ≤ cur.size) (h1 : ∀ v ∈ cs, v.oneCell' = true) :
  (Builtin.copy_ #[t, u] ty #[.slice (some ⟨g, o, none⟩) dLen dCap, .slice base sLen sCap]).run P w =
   .ok (goInt (Nat.min sLen dLen)) (w.setRow g (cur.toList.take o ++ cs ++ cur.toList.drop (o + cs.length)).toArray) := by
 have hst := run_storeCells_at P g o et cs 0 cur w hg (by simpa using hfit) h1
 simp only [Nat.add_zero] at hst
 have hf : (Builtin.firstCells i.size (Nat.min sLen dLen) (.slice base sLen sCap)).run P w = .ok cs.toArray w := by
  rcases hsrc with ⟨rfl, hb⟩ | ⟨ad, rfl, hc⟩
  ·cases base with
   | none => exact run_firstCells_none w i.size _ sLen sCap
   | some ad => exact run_firstCells_some w i.size _ ad sLen sCap [] hn (fun j v hj => by simp at hj)
  ·exact run_firstCells_some w i.size _ ad sLen sCap cs hn hc
 simp only [Builtin.copy_, Array.getElem?_toList]
 simp [run_underlying ht, Builtin.lenOf, sizeOf, typeInfo, hi, hf, hst]
theorem e3U (dst : Option Tmp) (x y : Operand) (t u type : TypeId) (pos : String) (after : Array Edge) (guard : Option (Nat × Bool)) :
  execOp (Act.eval ⟨tmps, []⟩) ⟨dst, .call ⟨.builtin .copy, #[x, y], #[t, u]⟩, type, pos, after, guard⟩ =
   (do pure (Next.value (← Builtin.copy_ #[t, u] type #[Act.eval ⟨tmps, []⟩ x, Act.eval ⟨tmps, []⟩ y]))) := by
 simp [execOp, resolve, invoke, builtin]
theorem e6S {n0 : Nat} (hn0 : n0 ≤ E.H.length) (hok : HOk E) (he : a0B E env tmps) {t u ty e : TypeId} (ht : P.underlying t = some (.slice e)) {i : TypeInfo} (hi : P.info? e = some i) (hpz : 0 < i.size)
  {v x : Value} {b : AV} {ys : List AV} (hx : Rep E x b) (hys : a0Q E.H i.size false b = some ys) {id off len : Nat} {oc : Option Nat} (hr : Rep E v (.mu id off len oc)) {r : Blk} (hrow : E.H[id]? = some (some r)) (hwd : r.wd = i.size)
  (hle : off + len ≤ r.xs.length) :
  Left P n0 E tmps (do pure (Next.value (← Builtin.copy_ #[t, u] ty #[v, x]))) (.int .i64 (min ys.length len : Nat)) env (E.H.set id (some ⟨i.size, r.xs.take off ++ ys.take (min ys.length len) ++ r.xs.drop (off + min ys.length len)⟩)) := by
 obtain ⟨base, scap, rfl, hw, news, hnl, hn1, hnr, hsrc⟩ := e8C hok hx hys
 have hid := a0o hrow
 have hwr := hok.wids id r hrow
 rw [hwd] at hwr
 have hfy : (ys.flatMap AV.cells).length = ys.length * i.size := a1p hw
 have hfl : r.flat.length = r.xs.length * i.size := a1p hwr
 generalize hm : min ys.length len = m
 have hmin : Nat.min ys.length len = m := hm
 have hmy : m ≤ ys.length := by omega
 have hml : m ≤ len := by omega
 have hmul1 : m * i.size ≤ ys.length * i.size := Nat.mul_le_mul_right _ hmy
 have hmul2 : (off + m) * i.size ≤ r.xs.length * i.size := Nat.mul_le_mul_right _ (by omega)
 have hmul3 : (off + m) * i.size = off * i.size + m * i.size := Nat.add_mul ..
 have hcl : (news.take (m * i.size)).length = m * i.size := by rw [List.length_take]; omega
 have hwx : ∀ x ∈ r.xs.take off ++ ys.take m ++ r.xs.drop (off + m), x.cells.length = r.wd := by
  intro x hx
  rw [hwd]
  rcases List.mem_append.1 hx with hx | hx
  ·rcases List.mem_append.1 hx with hx | hx
   ·exact hwr x (List.mem_of_mem_take hx)
   ·exact hw x (List.mem_of_mem_take hx)
  ·exact hwr x (List.mem_of_mem_drop hx)
 have hfx : (r.xs.take off ++ ys.take m ++ r.xs.drop (off + m)).flatMap AV.cells = r.flat.take (off * i.size) ++ ((ys.flatMap AV.cells).take (m * i.size) ++ r.flat.drop (off * i.size + m * i.size)) := by
  rw [List.flatMap_append, List.flatMap_append, a4E hwr, a4E hw, b1Z hwr, hmul3, List.append_assoc]; rfl
 cases hr with
 | mu blk _ _ _ _ bn q cap hlive hbn hq hlen hsz hoc =>
  rw [hrow] at hlive; cases hlive
  obtain ⟨c, e0, ro⟩ := hok.row id r bn hrow hbn
  have hfits := ro.fits
  by_cases hl0 : len = 0
  ·obtain rfl : m = 0 := by omega
   subst hl0
   have hsame : E.H.set id (some ⟨i.size, r.xs.take off ++ ys.take 0 ++ r.xs.drop (off + 0)⟩) = E.H := by
    apply List.ext_getElem?
    intro j
    rw [a6S _ _ _ hid]
    split
    ·rename_i hj; subst hj
     rw [hrow, ← hwd]
     simp
    ·rfl
   rw [hsame]
   have hrun : (Builtin.copy_ #[t, u] ty #[.slice (some ⟨bn, q, none⟩) 0 cap, .slice base ys.length scap]).run P E.w = .ok (goInt 0) E.w := by
    have hf : (Builtin.firstCells i.size 0 (.slice base ys.length scap)).run P E.w = .ok #[] E.w := by
     cases base with
     | none => exact run_firstCells_none E.w i.size _ _ _
     | some ad => exact run_firstCells_some E.w i.size 0 ad _ _ [] (by simp) (fun j v hj => by simp at hj)
    have hz : Nat.min ys.length 0 = 0 := hmin
    simp [Builtin.copy_, run_underlying ht, Builtin.lenOf, sizeOf, typeInfo, hi, hz, hf, storeCells]
   exact ⟨E.φ, E.w, _, _, a3d hrun, .inl rfl, hok, .int _ _, he, Ext.refl _ _⟩
  ·have hq' : q = off * i.size := by
    rcases hq with hq | hq
    ·rw [hq, hwd]
    ·omega
   subst hq'
   have hrun := d3n (P := P) E.w t u ty e i ht hi bn (off * i.size) len cap base ys.length scap c e0 (ro.heap (by omega)) (news.take (m * i.size)) (by rw [hcl, hmin]) (by
    rcases hsrc with rfl | ⟨ad, rfl, hc⟩
    ·left
     refine ⟨by simp, fun _ => ?_⟩
     have : ys.length * i.size = 0 := by rw [← hfy, ← hnl]; rfl
     have : ys.length = 0 := by
      rcases Nat.mul_eq_zero.1 this with h | h
      ·exact h
      ·omega
     rw [hmin]; omega
    ·right
     refine ⟨ad, rfl, fun j v hj => hc j v ?_⟩
     rw [List.getElem?_take] at hj
     split at hj
     ·exact hj
     ·simp at hj) (by rw [hcl]; omega) (fun v hv => hn1 v (List.mem_of_mem_take hv))
   rw [hmin] at hrun
   obtain ⟨h1, h2⟩ := hok.write hrow hbn (by omega) ro (c.toList.take (off * i.size) ++ news.take (m * i.size) ++ c.toList.drop (off * i.size + (news.take (m * i.size)).length)).toArray
    (r.xs.take off ++ ys.take m ++ r.xs.drop (off + m)) (by
     simp only [List.size_toArray, List.length_append, List.length_drop, hcl, Array.length_toList]
     rw [List.length_take, Array.length_toList]; omega) hwx (by
     rw [hfx]
     simp only [List.size_toArray, List.length_append, List.length_drop, List.length_take, Array.length_toList]
     omega) (by
     intro k v b hv hb
     rw [hfx] at hb
     have hv' : (c.toList.take (off * i.size) ++ (news.take (m * i.size) ++ c.toList.drop (off * i.size + m * i.size)))[k]? = some v := by
      rw [hcl] at hv; simpa [List.append_assoc] using hv
     refine a6x (Q := fun u b => u.oneCell' = true ∧ Rep E u b) (by rw [List.length_take, List.length_take, Array.length_toList]; omega) ?_ ?_ k v b hv' hb
     ·intro k u b hu hb
      rw [List.getElem?_take] at hu hb
      split at hu
      ·rename_i hlt
       simp only [hlt, if_true] at hb
       have hu' : c[k]? = some u := by simpa using hu
       exact ⟨ro.one k u (a0h hb) hu', ro.rep k u b hu' hb⟩
      ·simp at hu
     ·refine a6x (Q := fun u b => u.oneCell' = true ∧ Rep E u b) (by rw [hcl, List.length_take]; omega) ?_ ?_
      ·intro k u b hu hb
       rw [List.getElem?_take] at hu hb
       split at hu
       ·rename_i hlt
        simp only [hlt, if_true] at hb
        exact ⟨hn1 u (List.mem_of_getElem? hu), hnr k u b hu hb⟩
       ·simp at hu
      ·intro k u b hu hb
       rw [List.getElem?_drop] at hu hb
       have hu' : c[off * i.size + m * i.size + k]? = some u := by simpa using hu
       exact ⟨ro.one _ u (a0h hb) hu', ro.rep _ u b hu' hb⟩)
   rw [hwd] at h1 h2
   exact ⟨E.φ, _, _, _, a3d hrun, .inl rfl, h1, .int _ _, he.mono h2, h2.sub (fun j hj => Nat.lt_of_lt_of_le hj hn0)⟩
 | mu0 blk _ _ _ hlive hbn hoc =>
  rw [hrow] at hlive; cases hlive
  obtain rfl : m = 0 := by omega
  have hsame : E.H.set id (some ⟨i.size, r.xs.take off ++ ys.take 0 ++ r.xs.drop (off + 0)⟩) = E.H := by
   apply List.ext_getElem?
   intro j
   rw [a6S _ _ _ hid]
   split
   ·rename_i hj; subst hj
    rw [hrow, ← hwd]
    simp
   ·rfl
  rw [hsame]
  have hrun : (Builtin.copy_ #[t, u] ty #[.slice none 0 0, .slice base ys.length scap]).run P E.w = .ok (goInt 0) E.w := by
   have hf : (Builtin.firstCells i.size 0 (.slice base ys.length scap)).run P E.w = .ok #[] E.w := by
    cases base with
    | none => exact run_firstCells_none E.w i.size _ _ _
    | some ad => exact run_firstCells_some E.w i.size 0 ad _ _ [] (by simp) (fun j v hj => by simp at hj)
   have hz : Nat.min ys.length 0 = 0 := hmin
   simp [Builtin.copy_, run_underlying ht, Builtin.lenOf, sizeOf, typeInfo, hi, hz, hf]
  exact ⟨E.φ, E.w, _, _, a3d hrun, .inl rfl, hok, .int _ _, he, Ext.refl _ _⟩
 | dead _ _ id' hr' hd h1 =>
  simp [AV.ref] at hr'; subst hr'
  rw [hrow] at hd; cases hd
end
section
variable {P : Program} {E : Emb} {env : Env} {tmps : Array Value}
theorem d2I {n0 : Nat} (hn : n0 ≤ E.H.length) (hok : HOk E) (he : a0B E env tmps) {t tx ty e : TypeId} {i : TypeInfo} {z : Value} (ht : P.underlying t = some (.slice e)) (hi : P.info? e = some i) (hz : i.zero = some z)
  (hzs : z.cells.size = i.size) (hpz : 0 < i.size) {v x : Value} {ys : List AV} {news : List Value} (hs : Go.Src P i.size tx x ys.length news E.w) (hw : ∀ y ∈ ys, y.cells.length = i.size)
  (hnl : news.length = (ys.flatMap AV.cells).length) (hnr : ∀ (k : Nat) u b, news[k]? = some u → (ys.flatMap AV.cells)[k]? = some b → Rep E u b)
  {id off len d : Nat} (hr : Rep E v (.mu id off len (some d))) {r : Blk} (hrow : E.H[id]? = some (some r)) (hwd : r.wd = i.size) (hle : off + len ≤ r.xs.length) (hyl : 0 < ys.length) (hful : d < len + ys.length)
  (hb : (len + ys.length) * i.bytes ≤ 140737488355328) (h63 : len + ys.length ≤ 9223372036854775807) :
  Left P n0 E tmps (do pure (Next.value (← Builtin.append_ #[t, tx] ty #[v, x]))) (.mu E.H.length 0 (len + ys.length) none) env (E.H ++ [some ⟨i.size, (r.xs.drop off).take len ++ ys⟩]) := by
 have hid := a0o hrow
 have hpos : 0 < r.wd := by omega
 have hwr := hok.wids id r hrow
 rw [hwd] at hpos hwr
 have hwx : ∀ x ∈ (r.xs.drop off).take len ++ ys, x.cells.length = i.size := by
  intro x hx
  rcases List.mem_append.1 hx with hx | hx
  ·exact hwr x (List.mem_of_mem_drop (List.mem_of_mem_take hx))
  ·exact hw x hx
 have hwd' : ∀ x ∈ r.xs.drop off, x.cells.length = i.size := fun x hx => hwr x (List.mem_of_mem_drop hx)
 have hft : ((r.xs.drop off).take len).flatMap AV.cells = (r.flat.drop (off * i.size)).take (len * i.size) := by
  rw [a4E hwd', b1Z hwr]; rfl
 have hfl : r.flat.length = r.xs.length * i.size := a1p hwr
 have hfy : (ys.flatMap AV.cells).length = ys.length * i.size := a1p hw
 have hmul : (off + len) * i.size ≤ r.xs.length * i.size := Nat.mul_le_mul_right _ hle
 have hadd0 : (off + len) * i.size = off * i.size + len * i.size := Nat.add_mul ..
 have hadd : (len + ys.length) * i.size = len * i.size + ys.length * i.size := Nat.add_mul ..
 have htl : ((r.flat.drop (off * i.size)).take (len * i.size)).length = len * i.size := by rw [List.length_take, List.length_drop]; omega
 have grow : ∀ (base : Option Addr) (cap : Nat) (olds : List Value), v = .slice base len cap → (Builtin.firstCells i.size len (.slice base len cap)).run P E.w.drew = .ok olds.toArray E.w.drew → cap < len + ys.length → len ≤ cap →
   olds.length = len * i.size → (∀ (k : Nat) u b, olds[k]? = some u → ((r.flat.drop (off * i.size)).take (len * i.size))[k]? = some b → u.oneCell' = true ∧ Rep E u b) →
   Left P n0 E tmps (do pure (Next.value (← Builtin.append_ #[t, tx] ty #[v, x]))) (.mu E.H.length 0 (len + ys.length) none) env (E.H ++ [some ⟨i.size, (r.xs.drop off).take len ++ ys⟩]) := by
  intro base cap olds hv hfo hg hlc holl hor
  subst hv
  have hgr := run_append_grow_src (P := P) E.w t tx ty e i z ht hi hz base len cap olds hfo x ys.length news hs hg (by omega) (growslice_fits hg hb)
  have hge := grownCap_ge E.w (len + ys.length) cap e
  have hcs : ((olds ++ news).toArray ++ Builtin.zeroCells z.cells (grownCap E.w (len + ys.length) cap e - (len + ys.length))).size = grownCap E.w (len + ys.length) cap e * i.size := by
   rw [Array.size_append, size_zeroCells, hzs, List.size_toArray, List.length_append, holl, hnl, hfy, ← hadd, ← Nat.add_mul]; congr 1; omega
  have hflat : (Blk.mk i.size ((r.xs.drop off).take len ++ ys)).flat = (r.flat.drop (off * i.size)).take (len * i.size) ++ ys.flatMap AV.cells := by
   show ((r.xs.drop off).take len ++ ys).flatMap AV.cells = _
   rw [List.flatMap_append, hft]
  obtain ⟨φ', h1, h2, h3, h4, h5⟩ := c5i (env := env) (tmps := tmps) (n0 := n0) hn hok he (w := E.w.drew.alloc (.cells ((olds ++ news).toArray ++ Builtin.zeroCells z.cells (grownCap E.w (len + ys.length) cap e - (len + ys.length))) e)) rfl rfl rfl (by simp) (a2n E.w.drew _) E.w.heap.size (Nat.le_refl _)
   ⟨i.size, (r.xs.drop off).take len ++ ys⟩ hpos hwx (b8E E.w _) (by rw [hflat, Array.size_append, List.size_toArray, List.length_append, List.length_append, holl, htl, hnl]; omega) (fun k u b hu hb' => by
    rw [hflat] at hb'
    have hk : k < (olds ++ news).length := by
     have := a0h hb'
     rw [List.length_append, htl, hfy] at this
     rw [List.length_append, holl, hnl, hfy]; exact this
    have hu' : (olds ++ news)[k]? = some u := by
     rw [Array.getElem?_append_left (by simpa using hk)] at hu
     simpa using hu
    exact a6x (Q := fun u b => u.oneCell' = true ∧ Rep E u b) (by rw [holl, htl]) hor (fun k u b hu hb => ⟨hs.one u (List.mem_of_getElem? hu), hnr k u b hu hb⟩) k u b hu' hb')
  refine ⟨φ', _, _, _, a3d hgr, .inl rfl, h1, ?_, h2, h3⟩
  refine Rep.mu (E := ⟨φ', E.H ++ [some ⟨i.size, (r.xs.drop off).take len ++ ys⟩], _⟩) ⟨i.size, (r.xs.drop off).take len ++ ys⟩ E.H.length 0 (len + ys.length) none E.w.heap.size 0 _ h5 h4 (.inl (by simp)) hge ?_ (fun c hc => by cases hc)
  simp only
  rw [a2l (b8E E.w _), hcs]; simp
 cases hr with
 | mu blk _ _ _ _ bn q cap hlive hbn hq hlen hsz hoc =>
  rw [hrow] at hlive; cases hlive
  have hcd := hoc d rfl
  obtain ⟨c, e0, ro⟩ := hok.row id r bn hrow hbn
  have hfits := ro.fits
  have hol : ((c.toList.drop (off * i.size)).take (len * i.size)).length = len * i.size := by rw [List.length_take, List.length_drop, Array.length_toList]; omega
  have hfo : (Builtin.firstCells i.size len (.slice (some ⟨bn, q, none⟩) len cap)).run P E.w.drew = .ok ((c.toList.drop (off * i.size)).take (len * i.size)).toArray E.w.drew := by
   refine run_firstCells_some E.w.drew i.size len _ len cap _ hol (fun j u hj => ?_)
   have hj' := a0h hj
   rw [hol] at hj'
   have hne : len ≠ 0 := by rintro rfl; simp at hj'
   have hq0 : q = off * i.size := by
    rcases hq with hq | hq
    ·rw [hq, hwd]
    ·omega
   subst hq0
   rw [List.getElem?_take, if_pos hj', List.getElem?_drop] at hj
   rw [Addr.add_lit, World.cell?_drew, cell_of_row _ _ _ _ _ _ (ro.heap (by omega))]
   simpa using hj
  refine grow _ cap _ rfl hfo (by omega) hlen hol (fun k u b hu hb' => ?_)
  rw [List.getElem?_take] at hu hb'
  split at hu
  ·rename_i hk
   rw [if_pos hk, List.getElem?_drop] at hb'
   rw [List.getElem?_drop] at hu
   exact ⟨ro.one _ u (a0h hb') (by simpa using hu), ro.rep _ u b (by simpa using hu) hb'⟩
  ·simp at hu
 | mu0 blk _ _ _ hlive hbn hoc =>
  refine grow none 0 [] rfl (run_firstCells_none E.w.drew i.size 0 0 0) (by omega) (by omega) (by simp) (fun k u b hu _ => by simp at hu)
 | dead _ _ id' hr' hd h1 =>
  simp [AV.ref] at hr'; subst hr'
  rw [hrow] at hd; cases hd
end
theorem b9p {id : Nat} {x : AV} (h : nref id x = true) : ∀ c ∈ x.cells, nref id c = true := by
 intro c hc
 have hr := a0j.1 h
 cases x with
 | agg cs => cases hr with | agg _ h' => exact a0j.2 (h' c hc)
 | mo l => cases hc
 | io a b l => cases hc
 | _ => simp only [AV.cells, List.mem_cons, List.not_mem_nil, or_false] at hc; subst hc; exact h
theorem e8A {id : Nat} {a : AV} (h : nref id a = true) : topd id a = a := by unfold topd; rw [if_pos h]
theorem e5k {E : Emb} {id : Nat} {v : Value} {a : AV} (h : Rep E v a) : Rep E v (topd id a) := by
 unfold topd; split
 ·exact h
 ·exact .top v
theorem e1Y (id : Nat) (a : AV) : nref id (topd id a) = true := by
 unfold topd; split
 ·assumption
 ·exact a0j.2 .top
theorem c0C (id : Nat) (x : AV) : (a3K id x).cells = x.cells.map (topd id) := by
 unfold a3K
 split
 ·rename_i h
  have := b9p h
  rw [List.map_congr_left (g := fun c => c) fun c hc => e8A (this c hc)]
  simp
 ·rename_i h
  cases x with
  | agg cs => rfl
  | mo l => exact absurd (a0j.2 (.mo l)) h
  | io a b l => exact absurd (a0j.2 (.io a b l)) h
  | _ => simp only [AV.cells, List.map_cons, List.map_nil, topd, if_neg h]
theorem a8v (id : Nat) (b : Blk) : (a9Y id b).flat = b.flat.map (topd id) := by
 unfold a9Y Blk.flat
 simp only [List.flatMap_map, List.map_flatMap]
 congr 1
 funext x
 exact c0C id x
theorem a2k {H : Heap} {id j : Nat} {b' : Blk} (h : (a1C id H)[j]? = some (some b')) : ∃ b, H[j]? = some (some b) ∧ b' = a9Y id b := by
 unfold a1C at h
 rw [List.getElem?_map] at h
 cases hh : H[j]? with
 | none => rw [hh] at h; cases h
 | some o =>
  rw [hh] at h
  cases o with
  | none => cases h
  | some b => exact ⟨b, rfl, (Option.some.inj (Option.some.inj h)).symm⟩
theorem d9X {H : Heap} {id : Nat} {r : Blk} (h : H[id]? = some (some r)) (hr : ∀ a ∈ r.xs, nref id a = true) : (a1C id H)[id]? = some (some r) := by
 unfold a1C
 rw [List.getElem?_map, h]
 simp only [Option.map_some]
 congr 2
 unfold a9Y
 rw [List.map_congr_left (g := fun c => c) fun c hc => by unfold a3K; rw [if_pos (hr c hc)]]
 simp
theorem d9V (H : Heap) (id : Nat) : Free (a1C id H) id := fun j bj hj hb a ha => by
 obtain ⟨b, _, rfl⟩ := a2k hb
 rw [a8v] at ha
 obtain ⟨c, _, rfl⟩ := List.mem_map.1 ha
 exact a0j.1 (e1Y id c)
theorem e3F {E : Emb} (hok : HOk E) (id : Nat) : HOk ⟨E.φ, a1C id E.H, E.w⟩ ∧ Ext All E ⟨E.φ, a1C id E.H, E.w⟩ := by
 have hx : Ext All E ⟨E.φ, a1C id E.H, E.w⟩ := by
  refine ⟨rfl, rfl, rfl, Nat.le_refl _, fun j _ h => by simpa [a1C] using h, fun _ _ _ => rfl, fun j blk' _ _ hb => ?_, fun _ _ _ _ _ _ _ => rfl, ?_, fun _ _ _ => rfl⟩
  ·obtain ⟨b, h1, rfl⟩ := a2k hb
   exact ⟨b, h1, rfl⟩
  ·rintro b _ ⟨j, blk', hb, hp⟩
   obtain ⟨b2, h1, rfl⟩ := a2k hb
   exact ⟨j, b2, h1, hp⟩
 refine ⟨⟨fun j blk b hl h0 hb => ?_, fun j blk hl x hx => ?_, fun j blk b hl hb => ?_, fun j blk hl hb => ?_, fun j1 j2 b1 b2 b h1 h2 p1 p2 => ?_⟩, hx⟩
 ·obtain ⟨b2, h1, rfl⟩ := a2k hl
  rcases hok.obj j b2 b h1 h0 hb with ⟨L, q1, q2⟩ | ⟨mid, n, seen, m, q1, q2, q3, q4⟩
  ·refine .inl ⟨L, ?_, q2⟩
   simp only [a9Y, q1, List.map_cons, List.map_nil, a3K]
   rw [if_pos (a0j.2 (.mo L))]
  ·refine .inr ⟨mid, n, seen, m, ?_, q2, q3, fun blk hm => ?_⟩
   ·simp only [a9Y, q1, List.map_cons, List.map_nil, a3K]
    rw [if_pos (a0j.2 (.io mid n seen))]
   ·obtain ⟨b3, h3, rfl⟩ := a2k hm
    exact q4 b3 h3
 ·obtain ⟨b2, h1, rfl⟩ := a2k hl
  obtain ⟨y, hy, rfl⟩ := List.mem_map.1 hx
  rw [c0C, List.length_map]
  exact hok.wids j b2 h1 y hy
 ·obtain ⟨b2, h1, rfl⟩ := a2k hl
  obtain ⟨c, e, r⟩ := hok.row j b2 b h1 hb
  refine ⟨c, e, r.heap, by rw [a8v, List.length_map]; exact r.fits, fun k v hk hv => r.one k v (by rw [a8v, List.length_map] at hk; exact hk) hv, fun k v a hv ha => ?_⟩
  rw [a8v, List.getElem?_map] at ha
  obtain ⟨a0, h0, rfl⟩ := Option.map_eq_some_iff.1 ha
  exact e5k ((r.rep k v a0 hv h0).mono' (hx.sub fun _ _ => trivial))
 ·obtain ⟨b2, h1, rfl⟩ := a2k hl
  simp [a9Y, hok.emp j b2 h1 hb]
 ·obtain ⟨c1, g1, rfl⟩ := a2k h1
  obtain ⟨c2, g2, rfl⟩ := a2k h2
  exact hok.inj j1 j2 c1 c2 b g1 g2 p1 p2
end Go.Abs

/- Part 1 of the proof of BookBack: A1, A2, A3, A4, A5, A6. -/
import Derived.WalkKit
import Derived.Laws.CopyOwn
import Derived.Orders
import Derived.Laws.BytesArg
import Derived.Deep.AppendSrc
import Derived.Laws.MakeOwn
set_option linter.unusedVariables false
set_option linter.unusedSimpArgs false
namespace Go.Abs
inductive AV where
 | top
 | int (k : IntKind) (n : Int)
 | bool (b : Bool)
 | str (s : ByteArray)
 | nil
 | lit (v : Value)
 | sl (wd : Nat) (xs : List AV)
 | mu (id off len : Nat) (cap : Option Nat)
 | loc (id i off : Nat)
 | ro (x : AV) (off : Nat)
 | agg (cs : List AV)
 | tup (vs : List AV)
 | fn (f : FuncId) (caps : List AV)
 | bfn (f : FuncId) (bs : List AV)
 | mp (k : Bool) (id : Nat)
 | mo (l : List (Int × Int))
 | io (id n : Nat) (seen : List Nat)
 | ms (bs : List Nat) (ks : List ByteArray) (vs : List AV) (n : Nat)
 deriving Inhabited
def AV.cells : AV → List AV
 | .agg cs => cs
 | .mo _ | .io .. | .ms .. => []
 | a => [a]
structure Blk where
 wd : Nat
 xs : List AV
def Blk.flat (b : Blk) : List AV := b.xs.flatMap AV.cells
abbrev Heap := List (Option Blk)
structure Emb where
 φ : Nat → Option Nat
 H : Heap
 w : World
def Emb.Mut (E : Emb) (b : Nat) : Prop := ∃ id blk, E.H[id]? = some (some blk) ∧ E.φ id = some b
def a1M (w : World) (b : Nat) : Nat :=
 match w.heap[b]? with
 | some (.cells c _ _) => c.size
 | _ => 0
def AV.ref : AV → Option Nat
 | .mu id .. => some id
 | .loc id .. => some id
 | .mp _ id => some id
 | _ => none
inductive Cl : AV → Prop where
 | top : Cl .top
 | int (k : IntKind) (n : Int) : Cl (.int k n)
 | bool (b : Bool) : Cl (.bool b)
 | str (s : ByteArray) : Cl (.str s)
 | nil : Cl .nil
 | lit (v : Value) : Cl (.lit v)
 | sl (wd : Nat) (xs : List AV) (h : ∀ c ∈ xs.flatMap AV.cells, Cl c) : Cl (.sl wd xs)
 | ro (x : AV) (off : Nat) (h : ∀ c ∈ x.cells, Cl c) : Cl (.ro x off)
 | agg (cs : List AV) (h : ∀ c ∈ cs, Cl c) : Cl (.agg cs)
 | tup (cs : List AV) (h : ∀ c ∈ cs, Cl c) : Cl (.tup cs)
 | fn (f : FuncId) (cs : List AV) (h : ∀ c ∈ cs, Cl c) : Cl (.fn f cs)
 | bfn (f : FuncId) (cs : List AV) (h : ∀ c ∈ cs, Cl c) : Cl (.bfn f cs)
inductive Ref (S : Nat → Prop) : AV → Prop where
 | top : Ref S .top
 | int (k : IntKind) (n : Int) : Ref S (.int k n)
 | bool (b : Bool) : Ref S (.bool b)
 | str (s : ByteArray) : Ref S (.str s)
 | nil : Ref S .nil
 | lit (v : Value) : Ref S (.lit v)
 | sl (wd : Nat) (xs : List AV) : Ref S (.sl wd xs)
 | ro (x : AV) (off : Nat) : Ref S (.ro x off)
 | mu (id off len : Nat) (oc : Option Nat) (h : S id) : Ref S (.mu id off len oc)
 | loc (id i off : Nat) (h : S id) : Ref S (.loc id i off)
 | mp (k : Bool) (id : Nat) (h : S id) : Ref S (.mp k id)
 | mo (l : List (Int × Int)) : Ref S (.mo l)
 | io (id n : Nat) (seen : List Nat) : Ref S (.io id n seen)
 | ms (bs : List Nat) (ks : List ByteArray) (vs : List AV) (n : Nat) : Ref S (.ms bs ks vs n)
 | agg (cs : List AV) (h : ∀ c ∈ cs, Ref S c) : Ref S (.agg cs)
 | tup (cs : List AV) (h : ∀ c ∈ cs, Ref S c) : Ref S (.tup cs)
 | fn (f : FuncId) (cs : List AV) (h : ∀ c ∈ cs, Ref S c) : Ref S (.fn f cs)
 | bfn (f : FuncId) (cs : List AV) (h : ∀ c ∈ cs, Ref S c) : Ref S (.bfn f cs)
theorem Cl.ref {S : Nat → Prop} {a : AV} (h : Cl a) : Ref S a := by
 induction h with
 | top => exact .top
 | int k n => exact .int k n
 | bool b => exact .bool b
 | str s => exact .str s
 | nil => exact .nil
 | lit v => exact .lit v
 | sl wd xs h ih => exact .sl wd xs
 | ro x off h ih => exact .ro x off
 | agg cs h ih => exact .agg cs ih
 | tup cs h ih => exact .tup cs ih
 | fn f cs h ih => exact .fn f cs ih
 | bfn f cs h ih => exact .bfn f cs ih
theorem Ref.mono {S T : Nat → Prop} (h : ∀ i, S i → T i) {a : AV} (r : Ref S a) : Ref T a := by
 induction r with
 | top => exact .top
 | int k n => exact .int k n
 | bool b => exact .bool b
 | str s => exact .str s
 | nil => exact .nil
 | lit v => exact .lit v
 | sl wd xs => exact .sl wd xs
 | ro x off => exact .ro x off
 | mu id off len oc hs => exact .mu id off len oc (h _ hs)
 | loc id i off hs => exact .loc id i off (h _ hs)
 | mp k id hs => exact .mp k id (h _ hs)
 | mo l => exact .mo l
 | io id n seen => exact .io id n seen
 | ms bs ks vs n => exact .ms bs ks vs n
 | agg cs h ih => exact .agg cs ih
 | tup cs h ih => exact .tup cs ih
 | fn f cs h ih => exact .fn f cs ih
 | bfn f cs h ih => exact .bfn f cs ih
def e7q : Bool → Nat → Value
 | true, b => .map (some b)
 | false, b => .pointer (some ⟨b, 0, none⟩)
inductive Rep (E : Emb) : Value → AV → Prop where
 | top (v : Value) : Rep E v .top
 | int (k : IntKind) (n : Int) : Rep E (.int k n) (.int k n)
 | bool (b : Bool) : Rep E (.bool b) (.bool b)
 | str (s : ByteArray) : Rep E (.string s) (.str s)
 | nil : Rep E (.slice none 0 0) .nil
 | lit (v : Value) : Rep E v (.lit v)
 | sl (base : Option Addr) (cap wd : Nat) (xs : List AV) (vs : List Value) (b o : Nat) (hcap : xs.length ≤ cap) (hpos : 0 < wd) (hw : ∀ x ∈ xs, x.cells.length = wd) (hcl : ∀ c ∈ xs.flatMap AV.cells, Cl c)
   (hbase : xs = [] ∨ (base = some ⟨b, o, none⟩ ∧ ¬ E.Mut b)) (hlen : vs.length = (xs.flatMap AV.cells).length)
   (hcell : ∀ (k : Nat) v, vs[k]? = some v → E.w.cell? ⟨b, o + k, none⟩ = some v ∧ v.oneCell' = true)
   (hrep : ∀ (k : Nat) v a, vs[k]? = some v → (xs.flatMap AV.cells)[k]? = some a → Rep E v a) : Rep E (.slice base xs.length cap) (.sl wd xs)
 | mu (blk : Blk) (id off len : Nat) (oc : Option Nat) (b q cap : Nat) (hlive : E.H[id]? = some (some blk)) (hb : E.φ id = some b) (hq : q = off * blk.wd ∨ (len = 0 ∧ cap = 0))
   (hlen : len ≤ cap) (hsz : (off + cap) * blk.wd ≤ a1M E.w b) (hoc : ∀ c, oc = some c → cap = c) :
   Rep E (.slice (some ⟨b, q, none⟩) len cap) (.mu id off len oc)
 | mu0 (blk : Blk) (id off : Nat) (oc : Option Nat) (hlive : E.H[id]? = some (some blk)) (hb : E.φ id = none) (hoc : ∀ c, oc = some c → 0 = c) :
   Rep E (.slice none 0 0) (.mu id off 0 oc)
 | loc (blk : Blk) (id i off b : Nat) (hlive : E.H[id]? = some (some blk)) (hb : E.φ id = some b) : Rep E (.pointer (some ⟨b, i * blk.wd + off, none⟩)) (.loc id i off)
 | mp (blk : Blk) (k : Bool) (id b : Nat) (hlive : E.H[id]? = some (some blk)) (hb : E.φ id = some b) (hw : blk.wd = 0) : Rep E (e7q k b) (.mp k id)
 | dead (v : Value) (a : AV) (id : Nat) (hr : a.ref = some id) (hd : E.H[id]? = some none) (h1 : v.oneCell' = true) : Rep E v a
 | ro (x : AV) (off b o : Nat) (vs : List Value) (hb : ¬ E.Mut b) (hpos : 0 < x.cells.length) (hcl : ∀ c ∈ x.cells, Cl c) (hlen : vs.length = x.cells.length)
   (hcell : ∀ (k : Nat) v, vs[k]? = some v → E.w.cell? ⟨b, o + k, none⟩ = some v ∧ v.oneCell' = true)
   (hrep : ∀ (k : Nat) v a, vs[k]? = some v → x.cells[k]? = some a → Rep E v a) : Rep E (.pointer (some ⟨b, o + off, none⟩)) (.ro x off)
 | agg (vs : List Value) (cs : List AV) (hlen : vs.length = cs.length) (h1 : ∀ v ∈ vs, v.oneCell' = true)
   (hrep : ∀ (k : Nat) v a, vs[k]? = some v → cs[k]? = some a → Rep E v a) : Rep E (.agg vs.toArray) (.agg cs)
 | tup (vs : List Value) (cs : List AV) (hlen : vs.length = cs.length)
   (hrep : ∀ (k : Nat) v a, vs[k]? = some v → cs[k]? = some a → Rep E v a) : Rep E (.tuple vs.toArray) (.tup cs)
 | fn (f : FuncId) (vs : List Value) (cs : List AV) (hlen : vs.length = cs.length)
   (hrep : ∀ (k : Nat) v a, vs[k]? = some v → cs[k]? = some a → Rep E v a) : Rep E (.func (.func f) #[] vs.toArray) (.fn f cs)
 | bfn (f : FuncId) (vs : List Value) (cs : List AV) (hlen : vs.length = cs.length)
   (hrep : ∀ (k : Nat) v a, vs[k]? = some v → cs[k]? = some a → Rep E v a) : Rep E (.func (.func f) vs.toArray #[]) (.bfn f cs)
def tagW (w : World) (b : Nat) : Option (Nat × TypeId) := match w.heap[b]? with
 | some (.cells c e _) => some (c.size, e)
 | _ => none
structure Ext (S : Nat → Prop) (E E' : Emb) : Prop where
 os : E'.w.os = E.w.os
 tape : E'.w.tape = E.w.tape
 output : E'.w.output = E.w.output
 size : E.w.heap.size ≤ E'.w.heap.size
 len : ∀ id, S id → id < E.H.length → id < E'.H.length
 phi : ∀ id, S id → id < E.H.length → E'.φ id = E.φ id
 live : ∀ id blk', S id → id < E.H.length → E'.H[id]? = some (some blk') → ∃ blk, E.H[id]? = some (some blk) ∧ blk.wd = blk'.wd
 rowsz : ∀ id blk' b, S id → id < E.H.length → E'.H[id]? = some (some blk') → E.φ id = some b → a1M E'.w b = a1M E.w b
 muts : ∀ b, b < E.w.heap.size → E'.Mut b → E.Mut b
 keep : ∀ b, b < E.w.heap.size → ¬ E.Mut b → E'.w.heap[b]? = E.w.heap[b]?
 tags : ∀ b, b < E.w.heap.size → tagW E'.w b = tagW E.w b
theorem b9O {w w' : World} {b : Nat} (h : w'.heap[b]? = w.heap[b]?) : tagW w' b = tagW w b := by simp only [tagW, h]
def All : Nat → Prop := fun _ => True
structure RowOk (E : Emb) (b : Nat) (blk : Blk) (c : Array Value) (e : TypeId) : Prop where
 heap : 0 < blk.wd → E.w.heap[b]? = some (.cells c e (0, 0))
 fits : blk.flat.length ≤ c.size
 one : ∀ (k : Nat) v, k < blk.flat.length → c[k]? = some v → v.oneCell' = true
 rep : ∀ (k : Nat) v a, c[k]? = some v → blk.flat[k]? = some a → Rep E v a
def mapE : Nat → List (Int × Int) → List MapEntry
 | _, [] => []
 | i, p :: L => { key := .int .i64 p.1, val := .int .i64 p.2, born := i } :: mapE (i + 1) L
def a8S (L : List (Int × Int)) : Array MapEntry := (mapE 0 L).toArray
def a5O (bs : List Nat) (ks : List ByteArray) (us : List Value) : Array MapEntry := ((bs.zip (ks.zip us)).map fun p => { key := .string p.2.1, val := p.2.2, born := p.1 }).toArray
def e0n (E : Emb) (b : Nat) (bs : List Nat) (ks : List ByteArray) (vs : List AV) (n : Nat) : Prop :=
 ∃ us : List Value, E.w.heap[b]? = some (.map (a5O bs ks us) n) ∧ ks.length = bs.length ∧ vs.length = bs.length ∧ us.length = bs.length ∧ (∀ v ∈ vs, Cl v) ∧ (∀ u ∈ us, u.oneCell' = true) ∧
  ∀ (k : Nat) u v, us[k]? = some u → vs[k]? = some v → Rep E u v
def e0r (E : Emb) (id b : Nat) (xs : List AV) : Prop :=
 (∃ L, xs = [.mo L] ∧ E.w.heap[b]? = some (.map (a8S L) L.length)) ∨
 (∃ mid n seen m, xs = [.io mid n seen] ∧ E.w.heap[b]? = some (.mapIter (some m) n seen.toArray n) ∧ mid < id ∧ ∀ blk, E.H[mid]? = some (some blk) → blk.wd = 0 ∧ E.φ mid = some m) ∨
 (∃ bs ks vs n, xs = [.ms bs ks vs n] ∧ e0n E b bs ks vs n)
structure HOk (E : Emb) : Prop where
 obj : ∀ (id : Nat) blk b, E.H[id]? = some (some blk) → blk.wd = 0 → E.φ id = some b → e0r E id b blk.xs
 wids : ∀ (id : Nat) blk, E.H[id]? = some (some blk) → ∀ x ∈ blk.xs, x.cells.length = blk.wd
 row : ∀ (id : Nat) blk b, E.H[id]? = some (some blk) → E.φ id = some b → ∃ c e, RowOk E b blk c e
 emp : ∀ (id : Nat) blk, E.H[id]? = some (some blk) → E.φ id = none → blk.xs = []
 inj : ∀ (id1 id2 : Nat) b1 b2 b, E.H[id1]? = some (some b1) → E.H[id2]? = some (some b2) → E.φ id1 = some b → E.φ id2 = some b → id1 = id2
theorem Ext.refl (S : Nat → Prop) (E : Emb) : Ext S E E :=
 ⟨rfl, rfl, rfl, Nat.le_refl _, fun _ _ h => h, fun _ _ _ => rfl, fun id blk' _ _ h => ⟨blk', h, rfl⟩, fun _ _ _ _ _ _ _ => rfl, fun _ _ h => h, fun _ _ _ => rfl, fun _ _ => rfl⟩
theorem Ext.sub {S T : Nat → Prop} {E E' : Emb} (h : Ext S E E') (hs : ∀ i, T i → S i) : Ext T E E' :=
 ⟨h.os, h.tape, h.output, h.size, fun i hi => h.len i (hs i hi), fun i hi => h.phi i (hs i hi), fun i b hi => h.live i b (hs i hi), fun i b b' hi => h.rowsz i b b' (hs i hi), h.muts, h.keep, h.tags⟩
theorem Ext.trans {S : Nat → Prop} {A B C : Emb} (h : Ext S A B) (k : Ext S B C) : Ext S A C := by
 refine ⟨k.os.trans h.os, k.tape.trans h.tape, k.output.trans h.output, Nat.le_trans h.size k.size, fun i si hi => k.len i si (h.len i si hi), ?_, ?_, ?_, ?_, ?_, ?_⟩
 ·intro id si hi; rw [k.phi id si (h.len id si hi), h.phi id si hi]
 ·intro id blk' si hi hb
  obtain ⟨blk1, h1, e1⟩ := k.live id blk' si (h.len id si hi) hb
  obtain ⟨blk0, h0, e0⟩ := h.live id blk1 si hi h1
  exact ⟨blk0, h0, e0.trans e1⟩
 ·intro id blk' b si hi hb hp
  obtain ⟨blk1, h1, e1⟩ := k.live id blk' si (h.len id si hi) hb
  rw [k.rowsz id blk' b si (h.len id si hi) hb (by rw [h.phi id si hi]; exact hp), h.rowsz id blk1 b si hi h1 hp]
 ·intro b hb hm; exact h.muts b hb (k.muts b (Nat.lt_of_lt_of_le hb h.size) hm)
 ·intro b hb hm
  rw [k.keep b (Nat.lt_of_lt_of_le hb h.size) (fun hm' => hm (h.muts b hb hm')), h.keep b hb hm]
 ·intro b hb
  rw [k.tags b (Nat.lt_of_lt_of_le hb h.size), h.tags b hb]
section
variable {S : Nat → Prop} {E E' : Emb}
theorem Ext.cell (h : Ext S E E') {a : Addr} {v : Value} (hc : E.w.cell? a = some v) (hm : ¬ E.Mut a.block) : E'.w.cell? a = some v := by
 have hlt := World.block_lt_of_cell? E.w a hc
 rw [← hc]
 exact World.cell?_of_block (h.keep a.block hlt hm)
theorem Ext.notMut (h : Ext S E E') {a : Addr} {v : Value} (hc : E.w.cell? a = some v) (hm : ¬ E.Mut a.block) : ¬ E'.Mut a.block :=
 fun hm' => hm (h.muts _ (World.block_lt_of_cell? E.w a hc) hm')
theorem a0k {H : Heap} {id : Nat} {x : Option Blk} (h : H[id]? = some x) : id < H.length := by
 rcases Nat.lt_or_ge id H.length with h' | h'
 ·exact h'
 ·simp [List.getElem?_eq_none h'] at h
theorem Ext.dead (h : Ext S E E') {id : Nat} (si : S id) (hd : E.H[id]? = some none) : E'.H[id]? = some none := by
 have hlt := a0k hd
 have hlt' : id < E'.H.length := h.len id si hlt
 cases hx : E'.H[id]? with
 | none => simp at hx; omega
 | some x =>
  cases x with
  | none => rfl
  | some blk' =>
   obtain ⟨blk, hb, _⟩ := h.live id blk' si hlt hx
   rw [hd] at hb; simp at hb
theorem Ext.cases_live (h : Ext S E E') {id : Nat} (si : S id) {blk : Blk} (hl : E.H[id]? = some (some blk)) :
  E'.H[id]? = some none ∨ ∃ blk', E'.H[id]? = some (some blk') ∧ blk'.wd = blk.wd ∧ ∀ b, E.φ id = some b → a1M E'.w b = a1M E.w b := by
 have hlt := a0k hl
 have hlt' : id < E'.H.length := h.len id si hlt
 cases hx : E'.H[id]? with
 | none => simp at hx; omega
 | some x =>
  cases x with
  | none => exact .inl rfl
  | some blk' =>
   obtain ⟨blk0, hb, e⟩ := h.live id blk' si hlt hx
   rw [hl] at hb; simp at hb; subst hb
   exact .inr ⟨blk', rfl, e.symm, fun b => h.rowsz id blk' b si hlt hx⟩
theorem Rep.mono (h : Ext S E E') {v : Value} {a : AV} (hr : Rep E v a) : Ref S a → Rep E' v a := by
 induction hr with
 | top v => exact fun _ => .top v
 | int k n => exact fun _ => .int k n
 | bool b => exact fun _ => .bool b
 | str s => exact fun _ => .str s
 | nil => exact fun _ => .nil
 | lit v => exact fun _ => .lit v
 | sl base cap wd xs vs b o hcap hpos hw hcl hbase hlen hcell hrep ih =>
  intro _
  have ih' : ∀ (k : Nat) v a, vs[k]? = some v → (xs.flatMap AV.cells)[k]? = some a → Rep E' v a := fun k v a hk ha => ih k v a hk ha (hcl a (List.mem_of_getElem? ha)).ref
  rcases hbase with rfl | ⟨hb, hm⟩
  ·exact .sl base cap wd [] [] b o hcap hpos hw hcl (.inl rfl) rfl (fun k v hk => by simp at hk) (fun k v a hk => by simp at hk)
  ·cases xs with
   | nil => exact .sl base cap wd [] [] b o hcap hpos hw hcl (.inl rfl) rfl (fun k v hk => by simp at hk) (fun k v a hk => by simp at hk)
   | cons x xs =>
    have hx : vs ≠ [] := by
     rintro rfl
     have := hw x (by simp)
     simp [List.flatMap_cons] at hlen
     omega
    obtain ⟨v0, vs', rfl⟩ := List.exists_cons_of_ne_nil hx
    have h0 := hcell 0 v0 (by simp)
    have hm' : ¬ E'.Mut b := h.notMut h0.1 hm
    exact .sl base cap wd _ _ b o hcap hpos hw hcl (.inr ⟨hb, hm'⟩) hlen (fun k v hk => ⟨h.cell (hcell k v hk).1 hm, (hcell k v hk).2⟩) ih'
 | mu blk id off len oc b q cap hlive hb hq hlen hsz hoc =>
  intro hs
  cases hs with
  | mu _ _ _ _ si =>
   rcases h.cases_live si hlive with hd | ⟨blk', hl', hwd, hrs⟩
   ·exact .dead _ _ id rfl hd rfl
   ·exact .mu blk' id off len oc b q cap hl' ((h.phi id si (a0k hlive)).trans hb) (by rw [hwd]; exact hq) hlen (by rw [hwd, hrs b hb]; exact hsz) hoc
 | mu0 blk id off oc hlive hb hoc =>
  intro hs
  cases hs with
  | mu _ _ _ _ si =>
   rcases h.cases_live si hlive with hd | ⟨blk', hl', hwd, hrs⟩
   ·exact .dead _ _ id rfl hd rfl
   ·exact .mu0 blk' id off oc hl' ((h.phi id si (a0k hlive)).trans hb) hoc
 | loc blk id i off b hlive hb =>
  intro hs
  cases hs with
  | loc _ _ _ si =>
   rcases h.cases_live si hlive with hd | ⟨blk', hl', hwd, hrs⟩
   ·exact .dead _ _ id rfl hd rfl
   ·rw [← hwd]
    exact .loc blk' id i off b hl' ((h.phi id si (a0k hlive)).trans hb)
 | mp blk k id b hlive hb hw =>
  intro hs
  cases hs with
  | mp _ _ si =>
   rcases h.cases_live si hlive with hd | ⟨blk', hl', hwd, hrs⟩
   ·exact .dead _ _ id rfl hd (by cases k <;> rfl)
   ·exact .mp blk' k id b hl' ((h.phi id si (a0k hlive)).trans hb) (hwd.trans hw)
 | dead v a id hr hd h1 =>
  intro hs
  have si : S id := by
   cases hs <;> simp [AV.ref] at hr
   ·subst hr; assumption
   ·subst hr; assumption
   ·subst hr; assumption
  exact .dead v a id hr (h.dead si hd) h1
 | ro x off b o vs hb hpos hcl hlen hcell hrep ih =>
  intro _
  have hx : vs ≠ [] := by
   rintro rfl
   simp at hlen
   omega
  obtain ⟨v0, vs', rfl⟩ := List.exists_cons_of_ne_nil hx
  have h0 := hcell 0 v0 (by simp)
  exact .ro x off b o _ (h.notMut h0.1 hb) hpos hcl hlen (fun k v hk => ⟨h.cell (hcell k v hk).1 hb, (hcell k v hk).2⟩) (fun k v a hk ha => ih k v a hk ha (hcl a (List.mem_of_getElem? ha)).ref)
 | agg vs cs hlen h1 hrep ih =>
  intro hs
  cases hs with
  | agg _ hc => exact .agg vs cs hlen h1 (fun k v a hk ha => ih k v a hk ha (hc a (List.mem_of_getElem? ha)))
 | tup vs cs hlen hrep ih =>
  intro hs
  cases hs with
  | tup _ hc => exact .tup vs cs hlen (fun k v a hk ha => ih k v a hk ha (hc a (List.mem_of_getElem? ha)))
 | fn f vs cs hlen hrep ih =>
  intro hs
  cases hs with
  | fn _ _ hc => exact .fn f vs cs hlen (fun k v a hk ha => ih k v a hk ha (hc a (List.mem_of_getElem? ha)))
 | bfn f vs cs hlen hrep ih =>
  intro hs
  cases hs with
  | bfn _ _ hc => exact .bfn f vs cs hlen (fun k v a hk ha => ih k v a hk ha (hc a (List.mem_of_getElem? ha)))
theorem Rep.ref {v : Value} {a : AV} (hr : Rep E v a) : Ref (· < E.H.length) a := by
 induction hr with
 | top v => exact .top
 | int k n => exact .int k n
 | bool b => exact .bool b
 | str s => exact .str s
 | nil => exact .nil
 | lit v => exact .lit v
 | sl base cap wd xs vs b o hcap hpos hw hcl hbase hlen hcell hrep ih => exact .sl wd xs
 | mu blk id off len oc b q cap hlive hb hq hlen hsz hoc => exact .mu _ _ _ _ (a0k hlive)
 | mu0 blk id off oc hlive hb hoc => exact .mu _ _ _ _ (a0k hlive)
 | loc blk id i off b hlive hb => exact .loc _ _ _ (a0k hlive)
 | mp blk k id b hlive hb hw => exact .mp _ _ (a0k hlive)
 | dead v a id hr hd h1 =>
  cases a <;> simp [AV.ref] at hr
  ·subst hr; exact .mu _ _ _ _ (a0k hd)
  ·subst hr; exact .loc _ _ _ (a0k hd)
  ·subst hr; exact .mp _ _ (a0k hd)
 | ro x off b o vs hb hpos hcl hlen hcell hrep ih => exact .ro x off
 | agg vs cs hlen h1 hrep ih =>
  refine .agg _ fun c hc => ?_
  obtain ⟨k, hk, rfl⟩ := List.getElem_of_mem hc
  exact ih k vs[k] _ (List.getElem?_eq_getElem (by omega)) (List.getElem?_eq_getElem hk)
 | tup vs cs hlen hrep ih =>
  refine .tup _ fun c hc => ?_
  obtain ⟨k, hk, rfl⟩ := List.getElem_of_mem hc
  exact ih k vs[k] _ (List.getElem?_eq_getElem (by omega)) (List.getElem?_eq_getElem hk)
 | fn f vs cs hlen hrep ih =>
  refine .fn _ _ fun c hc => ?_
  obtain ⟨k, hk, rfl⟩ := List.getElem_of_mem hc
  exact ih k vs[k] _ (List.getElem?_eq_getElem (by omega)) (List.getElem?_eq_getElem hk)
 | bfn f vs cs hlen hrep ih =>
  refine .bfn _ _ fun c hc => ?_
  obtain ⟨k, hk, rfl⟩ := List.getElem_of_mem hc
  exact ih k vs[k] _ (List.getElem?_eq_getElem (by omega)) (List.getElem?_eq_getElem hk)
theorem Rep.mono' (h : Ext (· < E.H.length) E E') {v : Value} {a : AV} (hr : Rep E v a) : Rep E' v a := hr.mono h hr.ref
end
theorem a2A {w : World} {b : Nat} {c : Array Value} {e : TypeId} {f : Nat × Nat} (h : w.heap[b]? = some (.cells c e f)) : a1M w b = c.size := by simp [a1M, h]
theorem a1D (w : World) (g k : Nat) (cs : Array Value) (h : k ≠ g) : (w.setRow g cs).heap[k]? = w.heap[k]? := by
 simp only [World.setRow, Array.getElem?_modify]
 rw [if_neg (by omega)]
theorem a5I (w : World) (g : Nat) (c cs : Array Value) (e : TypeId) (f : Nat × Nat) (h : w.heap[g]? = some (.cells c e f)) : (w.setRow g cs).heap[g]? = some (.cells cs e f) := by
 simp only [World.setRow, Array.getElem?_modify, if_true, h, Option.map_some]
theorem HOk.lt {E : Emb} (h : HOk E) {id : Nat} {blk : Blk} {b : Nat} (hl : E.H[id]? = some (some blk)) (hb : E.φ id = some b) : b < E.w.heap.size := by
 obtain ⟨c, e, r⟩ := h.row id blk b hl hb
 rcases Nat.eq_zero_or_pos blk.wd with hw | hw
 ·rcases h.obj id blk b hl hw hb with ⟨_, _, h1⟩ | ⟨_, _, _, _, _, h1, _⟩ | ⟨_, _, _, _, _, _, h1, _⟩ <;> exact (Array.getElem?_eq_some_iff.1 h1).1
 ·exact (Array.getElem?_eq_some_iff.1 (r.heap hw)).1
theorem HOk.refs {E : Emb} (h : HOk E) {id : Nat} {blk : Blk} (hl : E.H[id]? = some (some blk)) : ∀ a ∈ blk.flat, Ref (· < E.H.length) a := by
 intro a ha
 cases hb : E.φ id with
 | none =>
  have := h.emp id blk hl hb
  simp [Blk.flat, this] at ha
 | some b =>
  obtain ⟨c, e, r⟩ := h.row id blk b hl hb
  obtain ⟨k, hk, rfl⟩ := List.getElem_of_mem ha
  have hkc : k < c.size := Nat.lt_of_lt_of_le hk r.fits
  exact (r.rep k c[k] _ (Array.getElem?_eq_getElem hkc) (List.getElem?_eq_getElem hk)).ref
theorem HOk.build {S : Nat → Prop} {E E' : Emb} (h : HOk E) (hx : Ext S E E')
  (hio : ∀ mid m id, mid < id → id < E'.H.length → (∀ blk, E.H[mid]? = some (some blk) → blk.wd = 0 ∧ E.φ mid = some m) → ∀ blk, E'.H[mid]? = some (some blk) → blk.wd = 0 ∧ E'.φ mid = some m)
  (hrow : ∀ (id : Nat) blk, E'.H[id]? = some (some blk) → (E.H[id]? = some (some blk) ∧ E'.φ id = E.φ id ∧ (∀ b, E.φ id = some b → E'.w.heap[b]? = E.w.heap[b]?) ∧ ∀ a ∈ blk.flat, Ref S a) ∨
   (0 < blk.wd ∧ (∀ x ∈ blk.xs, x.cells.length = blk.wd) ∧ ((E'.φ id = none ∧ blk.xs = []) ∨ ∃ b c e, E'.φ id = some b ∧ E'.w.heap[b]? = some (.cells c e (0, 0)) ∧ blk.flat.length ≤ c.size ∧
    ∀ (k : Nat) v a, c[k]? = some v → blk.flat[k]? = some a → v.oneCell' = true ∧ Rep E v a ∧ Ref S a)) ∨
   (blk.wd = 0 ∧ ∃ b, E'.φ id = some b ∧ e0r E' id b blk.xs))
  (inj : ∀ (id1 id2 : Nat) b1 b2 b, E'.H[id1]? = some (some b1) → E'.H[id2]? = some (some b2) → E'.φ id1 = some b → E'.φ id2 = some b → id1 = id2) : HOk E' := by
 have flat0 : ∀ (id b : Nat) (blk : Blk), e0r E' id b blk.xs → blk.flat = [] := by
  rintro id b blk (⟨L, hx, _⟩ | ⟨_, _, _, _, hx, _⟩ | ⟨_, _, _, _, hx, _⟩) <;> simp [Blk.flat, hx, AV.cells]
 refine ⟨fun id blk b hl h0 hb => ?_, fun id blk hl => ?_, fun id blk b hl hb => ?_, fun id blk hl hb => ?_, inj⟩
 ·rcases hrow id blk hl with ⟨h1, hp, h2, h3⟩ | ⟨h1, _⟩ | ⟨_, b', hb', h1⟩
  ·rw [hp] at hb
   rcases h.obj id blk b h1 h0 hb with ⟨L, q1, q2⟩ | ⟨mid, n, seen, m, q1, q2, q3, q4⟩ | ⟨bs, ks, vs, n, q1, us, q2, q3, q4, q5, q6, q7, q8⟩
   ·exact .inl ⟨L, q1, (h2 b hb).trans q2⟩
   ·exact .inr (.inl ⟨mid, n, seen, m, q1, (h2 b hb).trans q2, q3, hio mid m id q3 (a0k hl) q4⟩)
   ·exact .inr (.inr ⟨bs, ks, vs, n, q1, us, (h2 b hb).trans q2, q3, q4, q5, q6, q7, fun k u v hu hv => (q8 k u v hu hv).mono hx (q6 v (List.mem_of_getElem? hv)).ref⟩)
  ·omega
  ·rw [hb'] at hb; cases hb; exact h1
 ·rcases hrow id blk hl with ⟨h1, _⟩ | ⟨_, h1, _⟩ | ⟨h0, b', hb', h1⟩
  ·exact h.wids id blk h1
  ·exact h1
  ·intro x hx
   rcases h1 with ⟨L, q1, _⟩ | ⟨_, _, _, _, q1, _⟩ | ⟨_, _, _, _, q1, _⟩ <;> (rw [q1] at hx; simp at hx; subst hx; simp [AV.cells, h0])
 ·rcases hrow id blk hl with ⟨h1, hp, h2, h3⟩ | ⟨_, _, ⟨hn, _⟩ | ⟨b', c, e, hb', h1, h2, h3⟩⟩ | ⟨h0, b', hb', h1⟩
  ·rw [hp] at hb
   obtain ⟨c, e, r⟩ := h.row id blk b h1 hb
   exact ⟨c, e, fun hw => (h2 b hb).trans (r.heap hw), r.fits, r.one, fun k v a hk ha => (r.rep k v a hk ha).mono hx (h3 a (List.mem_of_getElem? ha))⟩
  ·rw [hn] at hb; simp at hb
  ·rw [hb'] at hb; cases hb
   exact ⟨c, e, fun _ => h1, h2, fun k v hk hv => (h3 k v _ hv (List.getElem?_eq_getElem hk)).1, fun k v a hv ha => (h3 k v a hv ha).2.1.mono hx (h3 k v a hv ha).2.2⟩
  ·refine ⟨#[], 0, fun hw => by omega, by simp [flat0 id b' blk h1], fun k v hk => by simp [flat0 id b' blk h1] at hk, fun k v a hk => by simp at hk⟩
 ·rcases hrow id blk hl with ⟨h1, hp, h2, h3⟩ | ⟨_, _, ⟨_, hn⟩ | ⟨b', c, e, hb', h1, h2, h3⟩⟩ | ⟨h0, b', hb', h1⟩
  ·rw [hp] at hb
   exact h.emp id blk h1 hb
  ·exact hn
  ·rw [hb'] at hb; cases hb
  ·rw [hb'] at hb; cases hb
theorem Ext.of_heap {S : Nat → Prop} {E : Emb} {w : World} (os : w.os = E.w.os) (tape : w.tape = E.w.tape) (out : w.output = E.w.output) (size : E.w.heap.size ≤ w.heap.size)
  (keep : ∀ b, b < E.w.heap.size → w.heap[b]? = E.w.heap[b]?) (h : HOk E) : Ext S E ⟨E.φ, E.H, w⟩ := by
 refine ⟨os, tape, out, size, fun _ _ h => h, fun _ _ _ => rfl, fun j blk' _ _ hb => ⟨blk', hb, rfl⟩, ?_, fun b _ hm => hm, fun b hb _ => keep b hb, fun b hb => b9O (keep b hb)⟩
 intro id blk' b _ _ hb hp
 simp only [a1M, keep _ (h.lt hb hp)]
theorem HOk.of_heap {E : Emb} {w : World} (os : w.os = E.w.os) (tape : w.tape = E.w.tape) (out : w.output = E.w.output) (size : E.w.heap.size ≤ w.heap.size)
  (keep : ∀ b, b < E.w.heap.size → w.heap[b]? = E.w.heap[b]?) (h : HOk E) : HOk ⟨E.φ, E.H, w⟩ :=
 h.build (Ext.of_heap (S := (· < E.H.length)) os tape out size keep h) (fun _ _ _ _ _ q => q) (fun id blk hl => .inl ⟨hl, rfl, fun b hb => keep _ (h.lt hl hb), h.refs hl⟩) h.inj
theorem a6O (H : Heap) (id : Nat) (x : Option Blk) (hid : id < H.length) (j : Nat) : (H.set id x)[j]? = if id = j then some x else H[j]? := by
 rw [List.getElem?_set]
 by_cases hj : id = j
 ·subst hj; simp [hid]
 ·simp [hj]
theorem a2K (H : Heap) (x : Option Blk) (j : Nat) : (H ++ [x])[j]? = if j = H.length then some x else H[j]? := by
 rw [List.getElem?_append]
 split
 ·rw [if_neg (by omega)]
 ·rcases Nat.lt_or_ge H.length j with hj | hj
  ·rw [if_neg (by omega), List.getElem?_eq_none (by simp; omega), List.getElem?_eq_none (by omega)]
  ·have : j = H.length := by omega
   subst this; simp
theorem b4a {w : World} {b : Nat} {c c' : Array Value} {e : TypeId} (h : w.heap[b]? = some (.cells c e (0, 0))) (hs : c'.size = c.size) (k : Nat) : tagW (w.setRow b c') k = tagW w k := by
 by_cases hk : k = b
 ·subst hk
  simp only [tagW, a5I _ _ _ _ _ _ h, h, hs]
 ·exact b9O (a1D _ _ _ _ hk)
theorem HOk.write {E : Emb} (h : HOk E) {id : Nat} {blk : Blk} {b : Nat} (hl : E.H[id]? = some (some blk)) (hb : E.φ id = some b) (hp0 : 0 < blk.wd) {c : Array Value} {e : TypeId} (r : RowOk E b blk c e)
  (c' : Array Value) (xs' : List AV) (hsz : c'.size = c.size) (hw : ∀ x ∈ xs', x.cells.length = blk.wd) (hfit : (xs'.flatMap AV.cells).length ≤ c'.size)
  (hnew : ∀ (k : Nat) v a, c'[k]? = some v → (xs'.flatMap AV.cells)[k]? = some a → v.oneCell' = true ∧ Rep E v a) :
  HOk ⟨E.φ, E.H.set id (some ⟨blk.wd, xs'⟩), E.w.setRow b c'⟩ ∧ Ext (· < E.H.length) E ⟨E.φ, E.H.set id (some ⟨blk.wd, xs'⟩), E.w.setRow b c'⟩ := by
 have hid := a0k hl
 have hget := a6O E.H id (some ⟨blk.wd, xs'⟩) hid
 have hother : ∀ (j : Nat) bj bn, id ≠ j → E.H[j]? = some (some bj) → E.φ j = some bn → (E.w.setRow b c').heap[bn]? = E.w.heap[bn]? := by
  intro j bj bn hj hlj hbj
  exact a1D _ _ _ _ (fun he => hj (h.inj _ _ _ _ b hl hlj hb (he ▸ hbj)))
 have hx : Ext (· < E.H.length) E ⟨E.φ, E.H.set id (some ⟨blk.wd, xs'⟩), E.w.setRow b c'⟩ := by
  refine ⟨rfl, rfl, rfl, by simp, by simp, fun _ _ _ => rfl, ?_, ?_, ?_, ?_, fun b' _ => b4a (r.heap hp0) hsz b'⟩
  ·intro j blk' _ hj hb'
   simp only [hget] at hb'
   by_cases hji : id = j
   ·subst hji
    simp at hb'; subst hb'
    exact ⟨blk, hl, rfl⟩
   ·simp only [hji, if_false] at hb'; exact ⟨blk', hb', rfl⟩
  ·intro j blk' bj _ hj hb' hp
   simp only [hget] at hb'
   by_cases hji : id = j
   ·subst hji
    rw [hb] at hp; cases hp
    rw [a2A (r.heap hp0), a2A (a5I _ _ _ _ _ _ (r.heap hp0)), hsz]
   ·simp only [hji, if_false] at hb'
    simp only [a1M, hother j blk' bj hji hb' hp]
  ·intro b' hb' hm
   obtain ⟨j, blk', hj, hp⟩ := hm
   simp only [hget] at hj
   by_cases hji : id = j
   ·subst hji; exact ⟨id, blk, hl, hp⟩
   ·simp only [hji, if_false] at hj; exact ⟨j, blk', hj, hp⟩
  ·intro b' hb' hm
   exact a1D _ _ _ _ (fun he => hm ⟨id, blk, hl, he ▸ hb⟩)
 refine ⟨h.build hx ?_ ?_ ?_, hx⟩
 ·intro mid m _ _ _ q blk' hj
  simp only [hget] at hj
  by_cases hji : id = mid
  ·subst hji; exact absurd (q blk hl).1 (by omega)
  ·simp only [hji, if_false] at hj; exact q blk' hj
 ·intro j blk' hj
  simp only [hget] at hj
  by_cases hji : id = j
  ·subst hji; simp at hj; subst hj
   exact .inr <| .inl ⟨hp0, hw, .inr ⟨b, c', e, hb, a5I _ _ _ _ _ _ (r.heap hp0), hfit, fun k v a hk ha => ⟨(hnew k v a hk ha).1, (hnew k v a hk ha).2, (hnew k v a hk ha).2.ref⟩⟩⟩
  ·simp only [hji, if_false] at hj
   exact .inl ⟨hj, rfl, fun bj hbj => hother j blk' bj hji hj hbj, h.refs hj⟩
 ·intro i j b1 b2 bn h1 h2 p1 p2
  simp only [hget] at h1 h2
  have l1 : ∃ b, E.H[i]? = some (some b) := by by_cases q : id = i <;> simp [q] at h1 <;> first | exact ⟨blk, q ▸ hl⟩ | exact ⟨b1, h1⟩
  have l2 : ∃ b, E.H[j]? = some (some b) := by by_cases q : id = j <;> simp [q] at h2 <;> first | exact ⟨blk, q ▸ hl⟩ | exact ⟨b2, h2⟩
  obtain ⟨_, l1⟩ := l1
  obtain ⟨_, l2⟩ := l2
  exact h.inj _ _ _ _ bn l1 l2 p1 p2
theorem HOk.alloc {E : Emb} (h : HOk E) {w : World} (os : w.os = E.w.os) (tape : w.tape = E.w.tape) (out : w.output = E.w.output) (size : E.w.heap.size ≤ w.heap.size) (ob : Option Nat) (hob : ∀ b, ob = some b → E.w.heap.size ≤ b)
  (keep : ∀ b, b < E.w.heap.size → w.heap[b]? = E.w.heap[b]?) (blk : Blk) (hpos : 0 < blk.wd) (hw : ∀ x ∈ blk.xs, x.cells.length = blk.wd)
  (hnew : (ob = none ∧ blk.xs = []) ∨ ∃ b c e, ob = some b ∧ w.heap[b]? = some (.cells c e (0, 0)) ∧ blk.flat.length ≤ c.size ∧
   ∀ (k : Nat) v a, c[k]? = some v → blk.flat[k]? = some a → v.oneCell' = true ∧ Rep E v a) :
  HOk ⟨fun j => if j = E.H.length then ob else E.φ j, E.H ++ [some blk], w⟩ ∧ Ext (· < E.H.length) E ⟨fun j => if j = E.H.length then ob else E.φ j, E.H ++ [some blk], w⟩ := by
 have hx : Ext (· < E.H.length) E ⟨fun j => if j = E.H.length then ob else E.φ j, E.H ++ [some blk], w⟩ := by
  refine ⟨os, tape, out, size, by simp; intros; omega, fun j hj _ => if_neg (by omega), ?_, ?_, ?_, fun b hb _ => keep b hb, fun b hb => b9O (keep b hb)⟩
  ·intro j blk' _ hj hb'
   simp only [a2K] at hb'
   rw [if_neg (by omega)] at hb'
   exact ⟨blk', hb', rfl⟩
  ·intro j blk' b _ hj hb' hp
   simp only [a2K] at hb'
   rw [if_neg (by omega)] at hb'
   simp only [a1M, keep _ (h.lt hb' hp)]
  ·intro b' hb' ⟨j, blk', hj, e'⟩
   simp only [a2K] at hj
   by_cases hjn : j = E.H.length
   ·simp only [hjn, if_true] at e'
    have := hob b' e'; omega
   ·simp only [hjn, if_false] at hj e'; exact ⟨j, blk', hj, e'⟩
 refine ⟨h.build hx ?_ ?_ ?_, hx⟩
 ·intro mid m id hm hi q blk' hj
  simp only [List.length_append, List.length_cons, List.length_nil] at hi
  have hne : mid ≠ E.H.length := by omega
  simp only [a2K, hne, if_false] at hj ⊢
  exact q blk' hj
 ·intro j blk' hj
  simp only [a2K] at hj
  by_cases hjn : j = E.H.length
  ·simp only [hjn, if_true, Option.some.injEq] at hj
   subst hj
   refine .inr <| .inl ⟨hpos, hw, ?_⟩
   simp only [hjn, if_true]
   rcases hnew with hn | ⟨b, c, e, h1, h2, h3, h4⟩
   ·exact .inl hn
   ·exact .inr ⟨b, c, e, h1, h2, h3, fun k v a hk ha => ⟨(h4 k v a hk ha).1, (h4 k v a hk ha).2, (h4 k v a hk ha).2.ref⟩⟩
  ·simp only [hjn, if_false] at hj
   exact .inl ⟨hj, by simp only [hjn, if_false], fun b hb => keep _ (h.lt hj hb), h.refs hj⟩
 ·intro i j b1 b2 bn h1 h2 p1 p2
  simp only [a2K] at h1 h2
  by_cases hi : i = E.H.length <;> by_cases hj : j = E.H.length
  ·omega
  ·simp only [hi, hj, if_true, if_false] at h2 p1 p2
   have := h.lt h2 p2; have := hob _ p1; omega
  ·simp only [hi, hj, if_true, if_false] at h1 p1 p2
   have := h.lt h1 p1; have := hob _ p2; omega
  ·simp only [hi, hj, if_false] at h1 h2 p1 p2
   exact h.inj _ _ _ _ bn h1 h2 p1 p2
theorem HOk.rebind {E : Emb} (h : HOk E) {w : World} (os : w.os = E.w.os) (tape : w.tape = E.w.tape) (out : w.output = E.w.output) (size : E.w.heap.size ≤ w.heap.size)
  {id : Nat} {blk : Blk} (hl : E.H[id]? = some (some blk)) (hp0 : 0 < blk.wd) (b : Nat) (hb : E.φ id = some b ∨ E.w.heap.size ≤ b)
  (keep : ∀ b, b < E.w.heap.size → E.φ id ≠ some b → w.heap[b]? = E.w.heap[b]?) (xs' : List AV) (hw : ∀ x ∈ xs', x.cells.length = blk.wd) {c : Array Value} {e : TypeId}
  (hh : w.heap[b]? = some (.cells c e (0, 0))) (hfit : (xs'.flatMap AV.cells).length ≤ c.size)
  (hfree : ∀ (j : Nat) bj, j ≠ id → E.H[j]? = some (some bj) → ∀ a ∈ bj.flat, Ref (· ≠ id) a)
  (hnew : ∀ (k : Nat) v a, c[k]? = some v → (xs'.flatMap AV.cells)[k]? = some a → v.oneCell' = true ∧ Rep E v a ∧ Ref (· ≠ id) a) (htag : ∀ k, k < E.w.heap.size → tagW w k = tagW E.w k) :
  HOk ⟨fun j => if j = id then some b else E.φ j, E.H.set id (some ⟨blk.wd, xs'⟩), w⟩ ∧ Ext (· ≠ id) E ⟨fun j => if j = id then some b else E.φ j, E.H.set id (some ⟨blk.wd, xs'⟩), w⟩ := by
 have hid := a0k hl
 have hget := a6O E.H id (some ⟨blk.wd, xs'⟩) hid
 have hother : ∀ (j : Nat) bj bn, j ≠ id → E.H[j]? = some (some bj) → E.φ j = some bn → w.heap[bn]? = E.w.heap[bn]? := fun j bj bn hj hlj hp =>
  keep _ (h.lt hlj hp) (fun he => hj (h.inj _ _ _ _ bn hlj hl hp he))
 have hx : Ext (· ≠ id) E ⟨fun j => if j = id then some b else E.φ j, E.H.set id (some ⟨blk.wd, xs'⟩), w⟩ := by
  refine ⟨os, tape, out, size, by simp, fun j hj _ => if_neg hj, ?_, ?_, ?_, ?_, htag⟩
  ·intro j blk' hj _ hb'
   simp only [hget] at hb'
   rw [if_neg (fun he => hj he.symm)] at hb'
   exact ⟨blk', hb', rfl⟩
  ·intro j blk' bn hj _ hb' hp
   simp only [hget] at hb'
   rw [if_neg (fun he => hj he.symm)] at hb'
   simp only [a1M, hother j blk' bn hj hb' hp]
  ·intro b' hb' ⟨j, blk', hj, e'⟩
   by_cases hji : j = id
   ·simp only [hji, if_true, Option.some.injEq] at e'
    rcases hb with hb | hb
    ·exact ⟨id, blk, hl, by rw [← e', hb]⟩
    ·omega
   ·simp only [hget, hji, if_false] at hj e'
    rw [if_neg (fun he => hji he.symm)] at hj
    exact ⟨j, blk', hj, e'⟩
  ·intro b' hb' hm
   exact keep b' hb' (fun he => hm ⟨id, blk, hl, he⟩)
 refine ⟨h.build hx ?_ ?_ ?_, hx⟩
 ·intro mid m _ _ _ q blk' hj
  by_cases hji : mid = id
  ·subst hji; exact absurd (q blk hl).1 (by omega)
  ·simp only [hget, Ne.symm hji, if_false] at hj
   simp only [hji, if_false]; exact q blk' hj
 ·intro j blk' hj
  by_cases hji : j = id
  ·subst hji
   simp only [hget, if_true, Option.some.injEq] at hj
   subst hj
   exact .inr <| .inl ⟨hp0, hw, .inr ⟨b, c, e, by simp, hh, hfit, hnew⟩⟩
  ·simp only [hget] at hj
   rw [if_neg (fun he => hji he.symm)] at hj
   exact .inl ⟨hj, by simp only [hji, if_false], fun bn hp => hother j blk' bn hji hj hp, hfree j blk' hji hj⟩
 ·intro i j b1 b2 bn h1 h2 p1 p2
  simp only [hget] at h1 h2
  by_cases hi : i = id <;> by_cases hj : j = id
  ·omega
  ·rw [if_neg (fun he => hj he.symm)] at h2
   simp only [hi, hj, if_true, if_false, Option.some.injEq] at p1 p2
   rcases hb with hb | hb
   ·exact absurd (h.inj _ _ _ _ bn hl h2 (p1 ▸ hb) p2) (fun he => hj he.symm)
   ·have := h.lt h2 p2; omega
  ·rw [if_neg (fun he => hi he.symm)] at h1
   simp only [hi, hj, if_true, if_false, Option.some.injEq] at p1 p2
   rcases hb with hb | hb
   ·exact absurd (h.inj _ _ _ _ bn h1 hl p1 (p2 ▸ hb)) hi
   ·have := h.lt h1 p1; omega
  ·rw [if_neg (fun he => hi he.symm)] at h1
   rw [if_neg (fun he => hj he.symm)] at h2
   simp only [hi, hj, if_false] at p1 p2
   exact h.inj _ _ _ _ bn h1 h2 p1 p2
theorem HOk.cut {E : Emb} (h : HOk E) (m : Nat) (hfree : ∀ (j : Nat) bj, j < m → E.H[j]? = some (some bj) → ∀ a ∈ bj.flat, Ref (· < m) a) :
  HOk ⟨E.φ, E.H.take m, E.w⟩ ∧ Ext (· < m) E ⟨E.φ, E.H.take m, E.w⟩ := by
 have hget : ∀ (j : Nat) x, (E.H.take m)[j]? = some x → j < m ∧ E.H[j]? = some x := by
  intro j x hj
  rw [List.getElem?_take] at hj
  split at hj
  ·exact ⟨by omega, hj⟩
  ·simp at hj
 have hx : Ext (· < m) E ⟨E.φ, E.H.take m, E.w⟩ :=
  ⟨rfl, rfl, rfl, Nat.le_refl _, fun i hi hl => by simp; omega, fun _ _ _ => rfl, fun j blk' _ _ hb => ⟨blk', (hget j _ hb).2, rfl⟩, fun _ _ _ _ _ _ _ => rfl,
   fun b _ ⟨j, blk', hj, e⟩ => ⟨j, blk', (hget j _ hj).2, e⟩, fun _ _ _ => rfl, fun _ _ => rfl⟩
 exact ⟨h.build hx (fun mid m _ _ _ q blk hj => q blk (hget mid _ hj).2) (fun j b hj => .inl ⟨(hget j _ hj).2, rfl, fun _ _ => rfl, hfree j b (hget j _ hj).1 (hget j _ hj).2⟩) (fun i j b1 b2 b h1 h2 => h.inj i j b1 b2 b (hget _ _ h1).2 (hget _ _ h2).2), hx⟩
theorem HOk.xwrite {E : Emb} (h : HOk E) {w : World} (os : w.os = E.w.os) (tape : w.tape = E.w.tape) (out : w.output = E.w.output) (size : E.w.heap.size ≤ w.heap.size)
  {id : Nat} {blk : Blk} {b : Nat} (hl : E.H[id]? = some (some blk)) (h0 : blk.wd = 0) (hb : E.φ id = some b) (keep : ∀ b', b' < E.w.heap.size → b' ≠ b → w.heap[b']? = E.w.heap[b']?) (xs' : List AV)
  (z2 : a1M w b = 0) (z3 : tagW w b = none) : Ext (· < E.H.length) E ⟨E.φ, E.H.set id (some ⟨0, xs'⟩), w⟩ := by
 have hid := a0k hl
 have hget := a6O E.H id (some ⟨0, xs'⟩) hid
 have hother : ∀ (j : Nat) bj bn, id ≠ j → E.H[j]? = some (some bj) → E.φ j = some bn → w.heap[bn]? = E.w.heap[bn]? := fun j bj bn hj hlj hbj =>
  keep _ (h.lt hlj hbj) (fun he => hj (h.inj _ _ _ _ b hl hlj hb (he ▸ hbj)))
 have z1 : a1M E.w b = 0 := by
  rcases h.obj id blk b hl h0 hb with ⟨_, _, q⟩ | ⟨_, _, _, _, _, q, _⟩ | ⟨_, _, _, _, _, _, q, _⟩ <;> simp [a1M, q]
 have z4 : tagW E.w b = none := by
  rcases h.obj id blk b hl h0 hb with ⟨_, _, q⟩ | ⟨_, _, _, _, _, q, _⟩ | ⟨_, _, _, _, _, _, q, _⟩ <;> simp [tagW, q]
 refine ⟨os, tape, out, size, by simp, fun _ _ _ => rfl, ?_, ?_, ?_, ?_, fun b' hb' => ?_⟩
 rotate_left 4
 ·by_cases hbb : b' = b
  ·rw [hbb, z3, z4]
  ·exact b9O (keep b' hb' hbb)
 ·intro j blk' _ hj hb'
  simp only [hget] at hb'
  by_cases hji : id = j
  ·subst hji
   simp at hb'; subst hb'
   exact ⟨blk, hl, h0⟩
  ·simp only [hji, if_false] at hb'; exact ⟨blk', hb', rfl⟩
 ·intro j blk' bj _ hj hb' hp
  simp only [hget] at hb'
  by_cases hji : id = j
  ·subst hji
   rw [hb] at hp; cases hp
   rw [z1, z2]
  ·simp only [hji, if_false] at hb'
   simp only [a1M, hother j blk' bj hji hb' hp]
 ·intro b' hb' hm
  obtain ⟨j, blk', hj, hp⟩ := hm
  simp only [hget] at hj
  by_cases hji : id = j
  ·subst hji; exact ⟨id, blk, hl, hp⟩
  ·simp only [hji, if_false] at hj; exact ⟨j, blk', hj, hp⟩
 ·intro b' hb' hm
  exact keep b' hb' (fun he => hm ⟨id, blk, hl, he ▸ hb⟩)
theorem HOk.owrite {E : Emb} (h : HOk E) {w : World} (os : w.os = E.w.os) (tape : w.tape = E.w.tape) (out : w.output = E.w.output) (size : E.w.heap.size ≤ w.heap.size)
  {id : Nat} {blk : Blk} {b : Nat} (hl : E.H[id]? = some (some blk)) (h0 : blk.wd = 0) (hb : E.φ id = some b) (keep : ∀ b', b' < E.w.heap.size → b' ≠ b → w.heap[b']? = E.w.heap[b']?) (xs' : List AV)
  (hobj : e0r ⟨E.φ, E.H.set id (some ⟨0, xs'⟩), w⟩ id b xs') :
  HOk ⟨E.φ, E.H.set id (some ⟨0, xs'⟩), w⟩ ∧ Ext (· < E.H.length) E ⟨E.φ, E.H.set id (some ⟨0, xs'⟩), w⟩ := by
 have hid := a0k hl
 have hget := a6O E.H id (some ⟨0, xs'⟩) hid
 have hother : ∀ (j : Nat) bj bn, id ≠ j → E.H[j]? = some (some bj) → E.φ j = some bn → w.heap[bn]? = E.w.heap[bn]? := fun j bj bn hj hlj hbj =>
  keep _ (h.lt hlj hbj) (fun he => hj (h.inj _ _ _ _ b hl hlj hb (he ▸ hbj)))
 have z1 : a1M E.w b = 0 := by
  rcases h.obj id blk b hl h0 hb with ⟨_, _, q⟩ | ⟨_, _, _, _, _, q, _⟩ | ⟨_, _, _, _, _, _, q, _⟩ <;> simp [a1M, q]
 have z2 : a1M w b = 0 := by
  rcases hobj with ⟨_, _, q⟩ | ⟨_, _, _, _, _, q, _⟩ | ⟨_, _, _, _, _, _, q, _⟩ <;> simp only at q <;> simp [a1M, q]
 have z3 : tagW w b = none := by
  rcases hobj with ⟨_, _, q⟩ | ⟨_, _, _, _, _, q, _⟩ | ⟨_, _, _, _, _, _, q, _⟩ <;> simp only at q <;> simp [tagW, q]
 have hx := h.xwrite os tape out size hl h0 hb keep xs' z2 z3
 refine ⟨h.build hx ?_ ?_ ?_, hx⟩
 ·intro mid m _ _ _ q blk' hj
  simp only [hget] at hj
  by_cases hji : id = mid
  ·subst hji; simp at hj; subst hj; exact ⟨rfl, (q blk hl).2⟩
  ·simp only [hji, if_false] at hj; exact q blk' hj
 ·intro j blk' hj
  simp only [hget] at hj
  by_cases hji : id = j
  ·subst hji; simp at hj; subst hj
   exact .inr <| .inr ⟨rfl, b, hb, hobj⟩
  ·simp only [hji, if_false] at hj
   exact .inl ⟨hj, rfl, fun bj hbj => hother j blk' bj hji hj hbj, h.refs hj⟩
 ·intro i j b1 b2 bn h1 h2 p1 p2
  simp only [hget] at h1 h2
  have l1 : ∃ b, E.H[i]? = some (some b) := by by_cases q : id = i <;> simp [q] at h1 <;> first | exact ⟨blk, q ▸ hl⟩ | exact ⟨b1, h1⟩
  have l2 : ∃ b, E.H[j]? = some (some b) := by by_cases q : id = j <;> simp [q] at h2 <;> first | exact ⟨blk, q ▸ hl⟩ | exact ⟨b2, h2⟩
  obtain ⟨_, l1⟩ := l1
  obtain ⟨_, l2⟩ := l2
  exact h.inj _ _ _ _ bn l1 l2 p1 p2
theorem HOk.oalloc {E : Emb} (h : HOk E) {w : World} (os : w.os = E.w.os) (tape : w.tape = E.w.tape) (out : w.output = E.w.output) (size : E.w.heap.size ≤ w.heap.size) (b : Nat) (hob : E.w.heap.size ≤ b)
  (keep : ∀ b, b < E.w.heap.size → w.heap[b]? = E.w.heap[b]?) (xs : List AV)
  (hobj : e0r ⟨fun j => if j = E.H.length then some b else E.φ j, E.H ++ [some ⟨0, xs⟩], w⟩ E.H.length b xs) :
  HOk ⟨fun j => if j = E.H.length then some b else E.φ j, E.H ++ [some ⟨0, xs⟩], w⟩ ∧ Ext (· < E.H.length) E ⟨fun j => if j = E.H.length then some b else E.φ j, E.H ++ [some ⟨0, xs⟩], w⟩ := by
 have hx : Ext (· < E.H.length) E ⟨fun j => if j = E.H.length then some b else E.φ j, E.H ++ [some ⟨0, xs⟩], w⟩ := by
  refine ⟨os, tape, out, size, by simp; intros; omega, fun j hj _ => if_neg (by omega), ?_, ?_, ?_, fun b hb _ => keep b hb, fun b hb => b9O (keep b hb)⟩
  ·intro j blk' _ hj hb'
   simp only [a2K] at hb'
   rw [if_neg (by omega)] at hb'
   exact ⟨blk', hb', rfl⟩
  ·intro j blk' b _ hj hb' hp
   simp only [a2K] at hb'
   rw [if_neg (by omega)] at hb'
   simp only [a1M, keep _ (h.lt hb' hp)]
  ·intro b' hb' ⟨j, blk', hj, e'⟩
   simp only [a2K] at hj
   by_cases hjn : j = E.H.length
   ·simp only [hjn, if_true, Option.some.injEq] at e'; omega
   ·simp only [hjn, if_false] at hj e'; exact ⟨j, blk', hj, e'⟩
 refine ⟨h.build hx ?_ ?_ ?_, hx⟩
 ·intro mid m id hm hi q blk' hj
  simp only [List.length_append, List.length_cons, List.length_nil] at hi
  have hne : mid ≠ E.H.length := by omega
  simp only [a2K, hne, if_false] at hj ⊢
  exact q blk' hj
 ·intro j blk' hj
  simp only [a2K] at hj
  by_cases hjn : j = E.H.length
  ·simp only [hjn, if_true, Option.some.injEq] at hj
   subst hj
   refine .inr <| .inr ⟨rfl, b, by simp only [hjn, if_true], ?_⟩
   rw [hjn]; exact hobj
  ·simp only [hjn, if_false] at hj
   exact .inl ⟨hj, by simp only [hjn, if_false], fun b hb => keep _ (h.lt hj hb), h.refs hj⟩
 ·intro i j b1 b2 bn h1 h2 p1 p2
  simp only [a2K] at h1 h2
  by_cases hi : i = E.H.length <;> by_cases hj : j = E.H.length
  ·omega
  ·simp only [hi, hj, if_true, if_false, Option.some.injEq] at h2 p1 p2
   have := h.lt h2 p2; omega
  ·simp only [hi, hj, if_true, if_false, Option.some.injEq] at h1 p1 p2
   have := h.lt h1 p1; omega
  ·simp only [hi, hj, if_false] at h1 h2 p1 p2
   exact h.inj _ _ _ _ bn h1 h2 p1 p2
end Go.Abs
namespace Go.Abs
abbrev Env := List (Nat × AV)
def look : Env → Nat → AV
 | [], _ => .top
 | (k, v) :: r, t => if k = t then v else look r t
inductive Src where
 | t (n : Nat)
 | c (a : AV)
def Src.ev (env : Env) : Src → AV
 | .t n => look env n
 | .c a => a
inductive POp where
 | mv (a : Src)
 | pick (c a b : Src)
 | lens (a : Src)
 | len (a : Src)
 | bin (op : BinOp) (a b : Src)
 | beq (neg : Bool) (a b : Src)
 | un (op : UnOp) (a : Src)
 | conv (k : IntKind) (a : Src)
 | ext (a : Src) (i : Nat)
 | fldp (a : Src) (off : Nat)
 | idxp (wd : Nat) (a i : Src)
 | idxs (a i : Src)
 | load (n : Option Nat) (a : Src)
 | slc (wd : Nat) (x : Src) (lo hi mx : Option Src)
 | slcs (x : Src) (lo hi : Option Src)
 | bld (zero : List AV) (a2j : List (Nat × Nat × Src))
 | mkfn (f : FuncId) (caps : List Src)
 | mkbf (f : FuncId) (bs : List Src)
 | mnx (mx : Bool) (a b : Src)
 | b2s (a : Src)
 | mlook (m k : Src)
 | ment (a : Src)
 | smap (q : Nat) (m k : Src)
 | isn (ptr neg : Bool) (a : Src)
def AV.solid : AV → Bool
 | .top | .agg _ | .tup _ | .mo _ | .io .. | .ms .. => false
 | .lit v => v.oneCell'
 | _ => true
def a6J (op : BinOp) (k : IntKind) (x y : Int) : Option AV :=
 match op with
 | .add => some (.int k (k.wrap (x + y)))
 | .sub => some (.int k (k.wrap (x - y)))
 | .mul => some (.int k (k.wrap (x * y)))
 | .quo => if y = 0 then none else some (.int k (k.wrap (x.tdiv y)))
 | .rem => if y = 0 then none else some (.int k (x.tmod y))
 | .and => some (.int k (k.wrap (BitVec.ofInt k.bits x &&& BitVec.ofInt k.bits y).toNat))
 | .or => some (.int k (k.wrap (BitVec.ofInt k.bits x ||| BitVec.ofInt k.bits y).toNat))
 | .xor => some (.int k (k.wrap (BitVec.ofInt k.bits x ^^^ BitVec.ofInt k.bits y).toNat))
 | .eql => some (.bool (x == y))
 | .neq => some (.bool (x != y))
 | .lss => some (.bool (x < y))
 | .leq => some (.bool (x ≤ y))
 | .gtr => some (.bool (x > y))
 | .geq => some (.bool (x ≥ y))
 | _ => none
def b2n (op : BinOp) (k : IntKind) (x y : Int) : Option AV :=
 if y < 0 then none else
 match op with
 | .shl => some (.int k (k.wrap (x * 2 ^ (min y.toNat k.bits))))
 | .shr => some (.int k (x.fdiv (2 ^ (min y.toNat k.bits))))
 | _ => none
def binV (op : BinOp) (a b : AV) : Option AV :=
 match a, b with
 | .int k x, .int k' y =>
  match op with
  | .shl => b2n .shl k x y
  | .shr => b2n .shr k x y
  | op => if k = k' then a6J op k x y else none
 | .str x, .str y =>
  match op with
  | .add => if ((x.size + y.size : Nat) : Int) > IntKind.i64.max then none else some (.str (x ++ y))
  | .eql => some (.bool (x.toList == y.toList))
  | .neq => some (.bool !(x.toList == y.toList))
  | _ => none
 | _, _ => none
def hrow (H : Heap) (id : Nat) : Option Blk := (H[id]?).join
def lenV (H : Heap) : AV → Option AV
 | .sl _ xs => some (.int .i64 xs.length)
 | .nil => some (.int .i64 0)
 | .mu id _ len _ => if (hrow H id).isSome then some (.int .i64 len) else none
 | _ => none
def atV (H : Heap) : AV → Option (List AV)
 | .ro x off => some (x.cells.drop off)
 | .loc id i off => (hrow H id).bind fun b => if i < b.xs.length then some ((b.xs.getD i .top).cells.drop off) else none
 | _ => none
def c4s (H : Heap) (n : Option Nat) (p : AV) : Option AV :=
 (atV H p).bind fun cs => match n with
  | none => cs[0]?
  | some n => if n ≤ cs.length then some (.agg (cs.take n)) else none
def idxV (H : Heap) (wd : Nat) (a i : AV) : Option AV :=
 match i with
 | .int _ i =>
  match a with
  | .sl wd' xs => if wd' = wd ∧ 0 ≤ i ∧ i < xs.length then some (.ro (xs.getD i.toNat .top) 0) else none
  | .mu id off len _ => (hrow H id).bind fun b => if b.wd = wd ∧ 0 ≤ i ∧ i < len then some (.loc id (off + i.toNat) 0) else none
  | _ => none
 | _ => none
def a3T (d : Int) : Option AV → Option Int
 | none => some d
 | some (.int _ i) => some i
 | some _ => none
def slcV (H : Heap) (wd : Nat) (x : AV) (lo hi mx : Option AV) : Option AV :=
 match x with
 | .sl wd' xs => (a3T 0 lo).bind fun l => (a3T xs.length hi).bind fun h =>
   match mx with
   | none => if wd' = wd ∧ 0 ≤ l ∧ l ≤ h ∧ h ≤ xs.length then some (.sl wd ((xs.drop l.toNat).take (h.toNat - l.toNat))) else none
   | some (.int _ m) => if wd' = wd ∧ hi.isSome ∧ 0 ≤ l ∧ l ≤ h ∧ h ≤ m ∧ m ≤ xs.length then some (.sl wd ((xs.drop l.toNat).take (h.toNat - l.toNat))) else none
   | some _ => none
 | .mu id off len oc => (hrow H id).bind fun b => (a3T 0 lo).bind fun l => (a3T len hi).bind fun h =>
   match mx with
   | none => if b.wd = wd ∧ 0 ≤ l ∧ l ≤ h ∧ h ≤ len then some (.mu id (off + l.toNat) (h.toNat - l.toNat) (oc.map (· - l.toNat))) else none
   | some (.int _ m) => if b.wd = wd ∧ hi.isSome ∧ 0 ≤ l ∧ l ≤ h ∧ h ≤ m ∧ m ≤ len then some (.mu id (off + l.toNat) (h.toNat - l.toNat) (some (m.toNat - l.toNat))) else none
   | some _ => none
 | _ => none
def slcS (x : AV) (lo hi : Option AV) : Option AV :=
 match x with
 | .str s => (a3T 0 lo).bind fun l => (a3T s.size hi).bind fun h => if 0 ≤ l ∧ l ≤ h ∧ h ≤ s.size then some (.str (s.extract l.toNat h.toNat)) else none
 | _ => none
def a2w (cs : List AV) (off : Nat) (aXs : List AV) : List AV := cs.take off ++ aXs ++ cs.drop (off + aXs.length)
def AV.fit : AV → Bool
 | .agg _ => true
 | a => a.solid
def bldV (env : Env) : List AV → List (Nat × Nat × Src) → Option (List AV)
 | cs, [] => some cs
 | cs, (off, n, s) :: r =>
  let a := s.ev env
  if a.cells.length = n ∧ off + n ≤ cs.length ∧ a.fit = true then bldV env (a2w cs off a.cells) r else none
def b4H : List AV → Option (List Int)
 | [] => some []
 | .int .u8 n :: r => (b4H r).map (n :: ·)
 | _ => none
def strB (xs : List AV) : Option AV := (b4H xs).map fun ns => .str (strOfNums ns)
def b2sV (H : Heap) : AV → Option AV
 | .nil => some (.str ByteArray.empty)
 | .sl wd xs => if wd = 1 then strB xs else none
 | .mu id off len _ => (hrow H id).bind fun b => if b.wd = 1 ∧ off + len ≤ b.xs.length then strB ((b.xs.drop off).take len) else none
 | _ => none
def mnxV (mx : Bool) (a b : AV) : Option AV :=
 match a, b with
 | .int k x, .int _ y => some (.int k (if mx then (if y > x then y else x) else (if y < x then y else x)))
 | _, _ => none
def a9W (H : Heap) : AV → Option (List (Int × Int))
 | .mp true id => match hrow H id with
  | some ⟨0, [.mo L]⟩ => some L
  | _ => none
 | _ => none
def a9x (H : Heap) : AV → Option (Nat × Nat × List Nat)
 | .mp false id => match hrow H id with
  | some ⟨0, [.io m n seen]⟩ => some (m, n, seen)
  | _ => none
 | _ => none
def mget : List (Int × Int) → Int → Option Int
 | [], _ => none
 | p :: L, x => if x = p.1 then some p.2 else mget L x
def a2P (H : Heap) : AV → Option (List Nat × List ByteArray × List AV × Nat)
 | .mp true id => match hrow H id with
  | some ⟨0, [.ms bs ks vs n]⟩ => some (bs, ks, vs, n)
  | _ => none
 | _ => none
def sidx : List ByteArray → ByteArray → Option Nat
 | [], _ => none
 | x :: r, k => if k = x then some 0 else (sidx r k).map (· + 1)
def sget (ks : List ByteArray) (vs : List AV) (k : ByteArray) : AV := match sidx ks k with
 | some i => vs.getD i .nil
 | none => .nil
def c2J (q : Nat) (H : Heap) (m k : AV) : Option AV := match a2P H m with
 | some (_, ks, vs, _) => match q, k with
  | 0, .str k => some (.tup [sget ks vs k, .bool (sidx ks k).isSome])
  | 1, .str k => some (sget ks vs k)
  | 2, _ => some (.int .i64 ks.length)
  | _, _ => none
 | none => none
def sent : List Nat → List ByteArray → List AV → Nat → Option AV
 | b :: bs, k :: ks, v :: vs, c => if b = c then some (.tup [.str k, v]) else sent bs ks vs c
 | _, _, _, _ => none
def isnV (ptr neg : Bool) (H : Heap) (a : AV) : Option AV := match ptr, a with
 | true, .lit (.pointer none) | false, .lit (.map none) => some (.bool !neg)
 | true, .loc id _ _ | false, .mp true id => if (hrow H id).isSome then some (.bool neg) else none
 | true, .ro _ _ => some (.bool neg)
 | _, _ => none
def pv (o : POp) (env : Env) (H : Heap) : Option AV :=
 match o with
 | .mv a => some (a.ev env)
 | .pick c a b => match c.ev env with
  | .bool c => if c then some (a.ev env) else some (b.ev env)
  | _ => none
 | .lens a => match a.ev env with
  | .str s => some (.int .i64 s.size)
  | _ => none
 | .len a => lenV H (a.ev env)
 | .bin op a b => binV op (a.ev env) (b.ev env)
 | .beq neg a b => match a.ev env, b.ev env with
  | .bool x, .bool y => some (.bool (if neg then !(x == y) else (x == y)))
  | _, _ => none
 | .un op a => match op, a.ev env with
  | .neg, .int k n => some (.int k (k.wrap (0 - n)))
  | .not, .bool b => some (.bool !b)
  | _, _ => none
 | .conv k a => match a.ev env with
  | .int _ n => some (.int k (k.wrap n))
  | _ => none
 | .ext a i => match a.ev env with
  | .tup vs => vs[i]?
  | _ => none
 | .fldp a off => match a.ev env with
  | .ro x o => some (.ro x (o + off))
  | .loc id i o => if (hrow H id).isSome then some (.loc id i (o + off)) else none
  | _ => none
 | .idxp wd a i => idxV H wd (a.ev env) (i.ev env)
 | .idxs a i => match a.ev env, i.ev env with
  | .str s, .int _ i => if 0 ≤ i ∧ i < s.size then some (.int .u8 (s.data.toList.getD i.toNat 0).toNat) else none
  | _, _ => none
 | .load n a => c4s H n (a.ev env)
 | .slc wd x lo hi mx => slcV H wd (x.ev env) (lo.map (·.ev env)) (hi.map (·.ev env)) (mx.map (·.ev env))
 | .slcs x lo hi => slcS (x.ev env) (lo.map (·.ev env)) (hi.map (·.ev env))
 | .bld zero a2j => (bldV env zero a2j).map .agg
 | .mkfn f caps => some (.fn f (caps.map (·.ev env)))
 | .mkbf f bs => some (.bfn f (bs.map (·.ev env)))
 | .mnx mx a b => mnxV mx (a.ev env) (b.ev env)
 | .b2s a => b2sV H (a.ev env)
 | .mlook m k => match a9W H (m.ev env), k.ev env with
  | some L, .int .i64 x => some (.tup [.int .i64 ((mget L x).getD 0), .bool (mget L x).isSome])
  | _, _ => none
 | .ment a => match a9x H (a.ev env) with
  | some (mid, n, seen) => match a9W H (.mp true mid), seen.getLast? with
   | some L, some i => if L.length = n then (L[i]?).map fun p => .tup [.int .i64 p.1, .int .i64 p.2] else none
   | none, some c => (a2P H (.mp true mid)).bind fun q => if q.2.2.2 = n then sent q.1 q.2.1 q.2.2.1 c else none
   | _, _ => none
  | none => none
 | .smap q m k => c2J q H (m.ev env) (k.ev env)
 | .isn ptr neg a => isnV ptr neg H (a.ev env)
def a6V : Value → AV
 | .int k n => .int k n
 | .bool b => .bool b
 | .string s => .str s
 | .slice none 0 0 => .nil
 | v => .lit v
def a0B : Operand → Option Src
 | .tmp t => some (.t t)
 | .const v => some (.c (a6V v))
 | .func f => some (.c (.fn f []))
 | .global _ => none
def b9P : Option Operand → Option (Option Src)
 | none => some none
 | some x => (a0B x).map some
def b4N : TypeDesc → Bool
 | .struct _ | .array _ _ => true
 | _ => false
def a3X (P : Program) (t : TypeId) : Option Nat := (P.info? t).map (·.size)
def c2R (P : Program) (fs : Array Field) : List (Nat × Operand) → Option (List (Nat × Nat × Src))
 | [] => some []
 | (i, x) :: r => do
  let f ← fs[i]?
  let n ← a3X P f.type
  let s ← a0B x
  let r ← c2R P fs r
  some ((f.offset, n, s) :: r)
def srcs : List Operand → Option (List Src)
 | [] => some []
 | x :: r => do
  let s ← a0B x
  let r ← srcs r
  some (s :: r)
def mapT (P : Program) (t : TypeId) : Bool := match P.underlying t with
 | some (.map kt vt) => match P.underlying kt, P.underlying vt, (P.info? vt).bind (·.zero) with
  | some (.int .i64), some (.int .i64), some (.int .i64 n) => n == 0
  | _, _, _ => false
 | _ => false
def b8d (P : Program) (t : TypeId) : Bool := match P.underlying t with
 | some (.map kt vt) => match P.underlying kt, (P.info? vt).bind (·.zero) with
  | some .string, some (.slice none 0 0) => true
  | _, _ => false
 | _ => false
def nilC (d : TypeDesc) (y : Operand) : Option Bool := match d, y with
 | .pointer _, .const (.pointer none) => some true
 | .map _ _, .const (.map none) => some false
 | _, _ => none
def a9Y (P : Program) (o : Op) : Option POp :=
 match o with
 | .move x | .assign x => (a0B x).map .mv
 | .pick c a b => do some (.pick (← a0B c) (← a0B a) (← a0B b))
 | .binOp op xt x y _ =>
  match op with
  | .eql | .neq =>
   match P.underlying xt with
   | some .bool => do some (.beq (op == .neq) (← a0B x) (← a0B y))
   | some d => match nilC d y with
    | some q => do some (.isn q (op == .neq) (← a0B x))
    | none => do some (.bin op (← a0B x) (← a0B y))
   | none => do some (.bin op (← a0B x) (← a0B y))
  | _ => do some (.bin op (← a0B x) (← a0B y))
 | .unOp op _ x => do some (.un op (← a0B x))
 | .convert src dst x =>
  match P.underlying src, P.underlying dst with
  | some _, some (.int k) => do some (.conv k (← a0B x))
  | some (.slice e), some .string => match P.underlying e with
   | some (.int .u8) => do some (.b2s (← a0B x))
   | _ => none
  | _, _ => none
 | .extract x i => do some (.ext (← a0B x) i)
 | .fieldAddr s x f =>
  match P.underlying s with
  | some (.struct fs) =>
   match fs[f]? with
   | some fl => match a3X P fl.type with
    | some (n + 1) => do some (.fldp (← a0B x) fl.offset)
    | _ => none
   | none => none
  | _ => none
 | .indexAddr t x ix =>
  match P.underlying t with
  | some (.slice e) => do some (.idxp (← a3X P e) (← a0B x) (← a0B ix))
  | _ => none
 | .index t x ix =>
  match P.underlying t with
  | some .string => do some (.idxs (← a0B x) (← a0B ix))
  | _ => none
 | .load t x =>
  match P.underlying t with
  | some d => if b4N d then do some (.load (some (← a3X P t)) (← a0B x)) else do some (.load none (← a0B x))
  | none => none
 | .slice t x lo hi mx =>
  match P.underlying t with
  | some (.slice e) => do some (.slc (← a3X P e) (← a0B x) (← b9P lo) (← b9P hi) (← b9P mx))
  | some .string => match mx with
   | none => do some (.slcs (← a0B x) (← b9P lo) (← b9P hi))
   | some _ => none
  | _ => none
 | .build t a2j =>
  match P.underlying t, (P.info? t).bind (·.zero) with
  | some (.struct fs), some (.agg zs) => if zs.all (·.oneCell') && fs.toList.all (fun f => (a3X P f.type).isSome) then do some (.bld (zs.toList.map a6V) (← c2R P fs a2j.toList)) else none
  | _, _ => none
 | .makeFunc fn first caps =>
  match fn, first.toList, caps.toList with
  | .func f, [], _ => do some (.mkfn f (← srcs caps.toList))
  | .func f, _, [] => do some (.mkbf f (← srcs first.toList))
  | _, _, _ => none
 | .nilCheck x => do some (.fldp (← a0B x) 0)
 | .call c =>
  match c.callee, c.args.toList, c.argTypes.toList with
  | .builtin .len, [x], t :: _ =>
   match P.underlying t with
   | some .string => do some (.lens (← a0B x))
   | some (.slice _) => do some (.len (← a0B x))
   | some (.map _ _) => do some (.smap 2 (← a0B x) (.c .nil))
   | _ => none
  | .builtin .max, [x, y], _ => do some (.mnx true (← a0B x) (← a0B y))
  | .builtin .min, [x, y], _ => do some (.mnx false (← a0B x) (← a0B y))
  | _, _, _ => none
 | .lookup t m k ok => if mapT P t && ok then do some (.mlook (← a0B m) (← a0B k)) else if b8d P t then do some (.smap (if ok then 0 else 1) (← a0B m) (← a0B k)) else none
 | .entry x => do some (.ment (← a0B x))
 | _ => none
def a0r (E : Emb) (env : Env) (tmps : Array Value) : Prop := ∀ t, Rep E (tmps.getD t undef) (look env t)
theorem b2N (E : Emb) (v : Value) : Rep E v (a6V v) := by
 cases v with
 | int k n => exact .int k n
 | bool b => exact .bool b
 | string s => exact .str s
 | slice a l c =>
  unfold a6V
  split <;> first | (rename_i h; cases h) | skip
  ·exact .nil
  ·exact .lit _
 | _ => exact .lit _
theorem a0n {E : Emb} {env : Env} {tmps : Array Value} (h : a0r E env tmps) {x : Operand} {s : Src} (hs : a0B x = some s) : Rep E (Act.eval ⟨tmps, []⟩ x) (s.ev env) := by
 cases x <;> simp [a0B] at hs <;> subst hs
 ·exact h _
 ·exact b2N E _
 ·exact .fn _ [] [] rfl (fun k v a hk => by simp at hk)
theorem a6a {E : Emb} {env : Env} {tmps : Array Value} (h : a0r E env tmps) : ∀ {xs : List Operand} {ss : List Src}, srcs xs = some ss →
  ss.length = xs.length ∧ ∀ (k : Nat) v a, (xs.map (Act.eval ⟨tmps, []⟩))[k]? = some v → (ss.map (·.ev env))[k]? = some a → Rep E v a
 | [], ss, hs => by simp [srcs] at hs; subst hs; exact ⟨rfl, fun k v a hk => by simp at hk⟩
 | x :: xs, ss, hs => by
  simp only [srcs, Option.bind_eq_bind, Option.bind_eq_some_iff] at hs
  obtain ⟨s, h1, r, h2, h3⟩ := hs
  cases h3
  obtain ⟨hl, hr⟩ := a6a h h2
  refine ⟨by simp [hl], fun k v a hk ha => ?_⟩
  cases k with
  | zero => simp at hk ha; subst hk; subst ha; exact a0n h h1
  | succ k => exact hr k v a (by simpa using hk) (by simpa using ha)
theorem a1s {xs : List AV} {wd : Nat} (h : ∀ x ∈ xs, x.cells.length = wd) : (xs.flatMap AV.cells).length = xs.length * wd := by
 induction xs with
 | nil => simp
 | cons x xs ih =>
  simp only [List.flatMap_cons, List.length_append, List.length_cons]
  rw [ih (fun y hy => h y (by simp [hy])), h x (by simp), Nat.add_mul]; omega
theorem b3J {xs : List AV} {wd : Nat} (h : ∀ x ∈ xs, x.cells.length = wd) (k : Nat) : (xs.drop k).flatMap AV.cells = (xs.flatMap AV.cells).drop (k * wd) := by
 induction xs generalizing k with
 | nil => simp
 | cons x xs ih =>
  cases k with
  | zero => simp
  | succ k =>
   simp only [List.drop_succ_cons, List.flatMap_cons]
   rw [ih (fun y hy => h y (by simp [hy]))]
   have : (k + 1) * wd = x.cells.length + k * wd := by rw [h x (by simp), Nat.add_mul]; omega
   have e1 : List.drop (x.cells.length + k * wd) x.cells = [] := List.drop_eq_nil_of_le (by omega)
   rw [this, List.drop_append, e1, List.nil_append]
   congr 1; omega
theorem a6K {xs : List AV} {wd : Nat} (h : ∀ x ∈ xs, x.cells.length = wd) (k : Nat) : (xs.take k).flatMap AV.cells = (xs.flatMap AV.cells).take (k * wd) := by
 induction xs generalizing k with
 | nil => simp
 | cons x xs ih =>
  cases k with
  | zero => simp
  | succ k =>
   simp only [List.take_succ_cons, List.flatMap_cons]
   rw [ih (fun y hy => h y (by simp [hy]))]
   have : (k + 1) * wd = x.cells.length + k * wd := by rw [h x (by simp), Nat.add_mul]; omega
   have e1 : List.take (x.cells.length + k * wd) x.cells = x.cells := List.take_of_length_le (by omega)
   rw [this, List.take_append, e1]
   congr 2; omega
theorem c1V {xs : List AV} {wd : Nat} (h : ∀ x ∈ xs, x.cells.length = wd) {i : Nat} (hi : i < xs.length) (j : Nat) (hj : j < wd) :
  (xs.flatMap AV.cells)[i * wd + j]? = (xs.getD i .top).cells[j]? := by
 induction xs generalizing i with
 | nil => simp at hi
 | cons x xs ih =>
  have hx := h x (by simp)
  cases i with
  | zero =>
   simp only [List.flatMap_cons, Nat.zero_mul, Nat.zero_add, List.getD_cons_zero]
   rw [List.getElem?_append_left (by omega)]
  | succ i =>
   simp only [List.flatMap_cons, List.getD_cons_succ]
   have : (i + 1) * wd + j = x.cells.length + (i * wd + j) := by rw [hx, Nat.add_mul]; omega
   rw [this, List.getElem?_append_right (by omega)]
   rw [show x.cells.length + (i * wd + j) - x.cells.length = i * wd + j by omega]
   exact ih (fun y hy => h y (by simp [hy])) (by simpa using hi)
theorem c1S {xs : List AV} {i : Nat} (hi : i < xs.length) : xs.getD i .top ∈ xs := by
 rw [List.getD_eq_getElem?_getD, List.getElem?_eq_getElem hi]; exact List.getElem_mem hi
theorem b0h {E : Emb} {v : Value} {a : AV} (h : Rep E v a) (hf : a.fit = true) :
  v.cells.toList.length = a.cells.length ∧ (∀ u ∈ v.cells.toList, u.oneCell' = true) ∧ ∀ (k : Nat) u b, v.cells.toList[k]? = some u → a.cells[k]? = some b → Rep E u b := by
 have one : ∀ {v : Value} {a : AV}, Rep E v a → v.oneCell' = true → a.cells = [a] → v.cells.toList.length = a.cells.length ∧ (∀ u ∈ v.cells.toList, u.oneCell' = true) ∧ ∀ (k : Nat) u b, v.cells.toList[k]? = some u → a.cells[k]? = some b → Rep E u b := by
  intro v a h h1 hc
  have hv : v.cells = #[v] := by cases v <;> first | rfl | simp [Value.oneCell'] at h1
  rw [hv, hc]
  refine ⟨rfl, by simpa using h1, fun k u b hk hb => ?_⟩
  cases k with
  | zero => simp at hk hb; subst hk; subst hb; exact h
  | succ k => simp at hk
 cases h with
 | agg vs cs hlen h1 hrep => exact ⟨by simp [Value.cells, AV.cells, hlen], by simpa [Value.cells] using h1, fun k u b hk hb => hrep k u b (by simpa [Value.cells] using hk) (by simpa [AV.cells] using hb)⟩
 | top v => simp [AV.fit, AV.solid] at hf
 | tup vs cs hlen hrep => simp [AV.fit, AV.solid] at hf
 | lit v => exact one (.lit v) (by simpa [AV.fit, AV.solid] using hf) rfl
 | int k n => exact one (.int k n) rfl rfl
 | bool b => exact one (.bool b) rfl rfl
 | str s => exact one (.str s) rfl rfl
 | nil => exact one .nil rfl rfl
 | sl base cap wd xs vs b o hcap hpos hw hcl hbase hlen hcell hrep => exact one (.sl base cap wd xs vs b o hcap hpos hw hcl hbase hlen hcell hrep) rfl rfl
 | mu blk id off len oc b q cap hlive hb hq hlen hsz hoc => exact one (.mu blk id off len oc b q cap hlive hb hq hlen hsz hoc) rfl rfl
 | mu0 blk id off oc hlive hb hoc => exact one (.mu0 blk id off oc hlive hb hoc) rfl rfl
 | loc blk id i off b hlive hb => exact one (.loc blk id i off b hlive hb) rfl rfl
 | mp blk k id b hlive hb hw => exact one (.mp blk k id b hlive hb hw) (by cases k <;> rfl) rfl
 | dead v a id hr hd h1 => exact one (.dead _ _ id hr hd h1) h1 (by cases a <;> simp [AV.ref] at hr <;> rfl)
 | ro x off b o vs hb hpos hcl hlen hcell hrep => exact one (.ro x off b o vs hb hpos hcl hlen hcell hrep) rfl rfl
 | fn f vs cs hlen hrep => exact one (.fn f vs cs hlen hrep) rfl rfl
 | bfn f vs cs hlen hrep => exact one (.bfn f vs cs hlen hrep) rfl rfl
end Go.Abs
namespace Go.Abs
section
variable {P : Program} {E : Emb} {env : Env} {tmps : Array Value}
theorem a0i {α : Type} {l : List α} {i : Nat} {x : α} (h : l[i]? = some x) : i < l.length := by
 rcases Nat.lt_or_ge i l.length with h' | h'
 ·exact h'
 ·simp [List.getElem?_eq_none h'] at h
theorem a0N {H : Heap} {id : Nat} {b : Blk} (h : hrow H id = some b) : H[id]? = some (some b) := by
 unfold hrow at h
 cases hx : H[id]? with
 | none => simp [hx] at h
 | some x => simp [hx] at h; simp [h]
theorem d4u (hok : HOk E) {v : Value} {p : AV} (hr : Rep E v p) {cs : List AV} (h : atV E.H p = some cs) :
  ∃ (b o : Nat) (vs : List Value), v = .pointer (some ⟨b, o, none⟩) ∧ vs.length = cs.length ∧ (∀ (k : Nat) u, vs[k]? = some u → E.w.cell? ⟨b, o + k, none⟩ = some u ∧ u.oneCell' = true) ∧
   ∀ (k : Nat) u a, vs[k]? = some u → cs[k]? = some a → Rep E u a := by
 cases hr with
 | ro x off b o vs hb hpos hcl hlen hcell hrep =>
  simp [atV] at h; subst h
  refine ⟨b, o + off, vs.drop off, rfl, by simp [hlen], fun k u hk => ?_, fun k u a hk ha => ?_⟩
  ·have := hcell (off + k) u (by simpa using hk)
   rwa [← Nat.add_assoc] at this
  ·exact hrep (off + k) u a (by simpa using hk) (by simpa using ha)
 | loc blk id i off bn hlive hbn =>
  simp only [atV, Option.bind_eq_some_iff] at h
  obtain ⟨blk', hb', h⟩ := h
  have hb2 := a0N hb'
  rw [hlive] at hb2; cases hb2
  split at h
  ·rename_i hi
   cases h
   obtain ⟨c, e, r⟩ := hok.row id blk bn hlive hbn
   have hw := hok.wids id blk hlive
   have hcl : (blk.xs.getD i .top).cells.length = blk.wd := hw _ (c1S hi)
   have hfl : blk.flat.length = blk.xs.length * blk.wd := a1s hw
   have hmul : (i + 1) * blk.wd ≤ blk.xs.length * blk.wd := Nat.mul_le_mul_right _ hi
   have hmul' : (i + 1) * blk.wd = i * blk.wd + blk.wd := by rw [Nat.add_mul]; omega
   refine ⟨bn, i * blk.wd + off, (c.toList.drop (i * blk.wd + off)).take (blk.wd - off), rfl, ?_, ?_, ?_⟩
   ·have := r.fits
    rw [hfl] at this
    rw [List.length_take, List.length_drop, List.length_drop, hcl, Array.length_toList]; omega
   ·intro k u hk
    rw [List.getElem?_take] at hk
    split at hk
    ·rename_i hk'
     simp at hk
     refine ⟨?_, r.one (i * blk.wd + off + k) u (by omega) hk⟩
     rw [cell_of_row _ _ _ _ _ _ (r.heap (by omega))]; exact hk
    ·simp at hk
   ·intro k u a hk ha
    rw [List.getElem?_take] at hk
    split at hk
    ·rename_i hk'
     simp at hk ha
     refine r.rep (i * blk.wd + off + k) u a hk ?_
     have := c1V hw hi (off + k) (by omega)
     rw [← Nat.add_assoc] at this
     exact this.trans ha
    ·simp at hk
  ·simp at h
 | dead v a id hrf hd h1 =>
  cases p <;> simp [AV.ref] at hrf
  ·simp [atV] at h
  ·subst hrf
   simp [atV, hrow, hd] at h
  ·simp [atV] at h
 | _ => simp [atV] at h
theorem d3Q (t : TypeId) (d : TypeDesc) (hd : P.underlying t = some d) (w : World) (b o : Nat) (v : Value) :
  (b4N d = false → w.cell? ⟨b, o, none⟩ = some v → (Instr.loadAt t (.pointer (some ⟨b, o, none⟩))).run P w = .ok v w) ∧
  (b4N d = true → ∀ n (vs : List Value), a3X P t = some n → vs.length = n → (∀ (k : Nat) u, vs[k]? = some u → w.cell? ⟨b, o + k, none⟩ = some u) →
   (Instr.loadAt t (.pointer (some ⟨b, o, none⟩))).run P w = .ok (.agg vs.toArray) w) := by
 constructor
 ·intro ha hc
  have : (isAgg t).run P w = .ok false w := by
   simp only [isAgg, Sem.run_bind, run_underlying hd, Result.andThen_ok]
   cases d <;> simp [b4N] at ha <;> rfl
  simp [Instr.loadAt, Instr.sureAddr, loadVar, this, hc]
 ·intro ha n vs hs hl hc
  have : (isAgg t).run P w = .ok true w := by
   simp only [isAgg, Sem.run_bind, run_underlying hd, Result.andThen_ok]
   cases d <;> simp [b4N] at ha <;> rfl
  unfold a3X at hs
  simp only [Option.map_eq_some_iff] at hs
  obtain ⟨i, hi, rfl⟩ := hs
  have hlc := run_loadCells_list (P := P) w ⟨b, o, none⟩ vs (fun j v hj => by rw [Addr.add_lit]; exact hc j v hj)
  rw [hl] at hlc
  simp [Instr.loadAt, Instr.sureAddr, loadVar, this, sizeOf, typeInfo, hi, hlc]
theorem b8J (hok : HOk E) {t : TypeId} {x : Value} {p a : AV} (hr : Rep E x p) {n : Option Nat} {d : TypeDesc} (hd : P.underlying t = some d)
  (hn : (n = none ∧ b4N d = false) ∨ (∃ m, n = some m ∧ b4N d = true ∧ a3X P t = some m)) (h : c4s E.H n p = some a) :
  ∃ v, (Instr.loadAt t x).run P E.w = .ok v E.w ∧ Rep E v a := by
 simp only [c4s, Option.bind_eq_some_iff] at h
 obtain ⟨cs, hat, h⟩ := h
 obtain ⟨b, o, vs, rfl, hlen, hcell, hrep⟩ := d4u hok hr hat
 rcases hn with ⟨rfl, hag⟩ | ⟨m, rfl, hag, hsz⟩
 ·simp only at h
  have h0 : 0 < cs.length := by
   rcases Nat.lt_or_ge 0 cs.length with h' | h'
   ·exact h'
   ·simp [List.getElem?_eq_none h'] at h
  refine ⟨vs[0]'(by omega), (d3Q t d hd E.w b o _).1 hag (by simpa using (hcell 0 _ (List.getElem?_eq_getElem (by omega))).1), hrep 0 _ _ (List.getElem?_eq_getElem (by omega)) h⟩
 ·simp only at h
  split at h
  ·rename_i hle
   cases h
   refine ⟨.agg (vs.take m).toArray, (d3Q t d hd E.w b o .nilFunc).2 hag m _ hsz (by simp; omega) (fun k u hk => ?_), .agg _ _ (by simp [hlen]) ?_ ?_⟩
   ·rw [List.getElem?_take] at hk
    split at hk
    ·exact (hcell k u hk).1
    ·simp at hk
   ·intro u hu
    obtain ⟨k, hk, rfl⟩ := List.getElem_of_mem (List.mem_of_mem_take hu)
    exact (hcell k _ (List.getElem?_eq_getElem hk)).2
   ·intro k u a hk ha
    rw [List.getElem?_take] at hk ha
    split at hk
    ·rename_i hk'
     simp only [hk', if_true] at ha
     exact hrep k u a hk ha
    ·simp at hk
  ·simp at h
theorem d8P (hok : HOk E) {t e : TypeId} {x i : Value} {a ia r : AV} (hx : Rep E x a) (hi : Rep E i ia) {wd : Nat} (ht : P.underlying t = some (.slice e)) (hwd : a3X P e = some wd)
  (h : idxV E.H wd a ia = some r) : ∃ v, (Instr.indexAt t x i).run P E.w = .ok v E.w ∧ Rep E v r := by
 unfold a3X at hwd
 simp only [Option.map_eq_some_iff] at hwd
 obtain ⟨inf, hinf, rfl⟩ := hwd
 unfold idxV at h
 cases hi with
 | int k n =>
  simp only at h
  cases hx with
  | sl base cap wd xs vs b o hcap hpos hw hcl hbase hlen hcell hrep =>
   simp only at h
   split at h
   ·rename_i hc
    obtain ⟨rfl, h0, h1⟩ := hc
    cases h
    obtain ⟨m, rfl⟩ := Int.eq_ofNat_of_zero_le h0
    have hm : m < xs.length := by omega
    have hne : xs ≠ [] := by rintro rfl; simp at hm
    obtain ⟨rfl, hmut⟩ := hbase.resolve_left hne
    have hcl' := hw _ (c1S hm)
    have hfl : (xs.flatMap AV.cells).length = xs.length * inf.size := a1s hw
    have hmul : (m + 1) * inf.size ≤ xs.length * inf.size := Nat.mul_le_mul_right _ hm
    have hmul' : (m + 1) * inf.size = m * inf.size + inf.size := by rw [Nat.add_mul]; omega
    refine ⟨.pointer (some ⟨b, o + m * inf.size, none⟩), ?_, ?_⟩
    ·simp [Instr.indexAt, asIntOf, run_underlying ht, hm, sizeOf, typeInfo, hinf, Addr.add_lit]
    ·have := Rep.ro (E := E) (xs.getD m .top) 0 b (o + m * inf.size) ((vs.drop (m * inf.size)).take inf.size) hmut (by omega)
      (fun c hc => hcl c (List.mem_flatMap.2 ⟨_, c1S hm, hc⟩)) (by rw [List.length_take, List.length_drop, hlen, hfl, hcl']; omega)
      (fun k u hk => by
       rw [List.getElem?_take] at hk
       split at hk
       ·simp at hk
        have := hcell _ u hk
        rwa [← Nat.add_assoc] at this
       ·simp at hk)
      (fun k u a hk ha => by
       rw [List.getElem?_take] at hk
       split at hk
       ·rename_i hk'
        simp at hk
        exact hrep _ u a hk ((c1V hw hm k hk').trans ha)
       ·simp at hk)
     simpa using this
   ·simp at h
  | mu blk id off len oc bn q cap hlive hbn hq hlen hsz hoc =>
   simp only [Option.bind_eq_some_iff] at h
   obtain ⟨blk', hb', h⟩ := h
   have hb2 := a0N hb'
   rw [hlive] at hb2; cases hb2
   split at h
   ·rename_i hc
    obtain ⟨hwd, h0, h1⟩ := hc
    cases h
    obtain ⟨m, rfl⟩ := Int.eq_ofNat_of_zero_le h0
    have hm : m < len := by omega
    have hq' : q = off * blk.wd := hq.resolve_right (by omega)
    refine ⟨.pointer (some ⟨bn, (off + m) * blk.wd + 0, none⟩), ?_, ?_⟩
    ·have e : off * blk.wd + m * blk.wd = (off + m) * blk.wd := by rw [Nat.add_mul]
     simp [Instr.indexAt, asIntOf, run_underlying ht, hm, sizeOf, typeInfo, hinf, Addr.add_lit, hq', ← hwd, e]
    ·exact .loc blk id (off + m) 0 bn hlive hbn
   ·simp at h
  | mu0 blk id off oc hlive hbn hoc =>
   simp only [Option.bind_eq_some_iff] at h
   obtain ⟨blk', hb', h⟩ := h
   split at h
   ·rename_i hc; omega
   ·simp at h
  | dead v a id hrf hd h1 =>
   cases a <;> simp [AV.ref] at hrf
   ·subst hrf
    simp [hrow, hd] at h
   ·simp at h
   ·simp at h
  | _ => simp at h
 | dead v ia id hrf hd h1 =>
  cases ia <;> simp [AV.ref] at hrf <;> simp at h
 | _ => simp at h
theorem a2Y {xv : Option Value} {xa : Option AV} (hr : (xv = none ∧ xa = none) ∨ ∃ v a, xv = some v ∧ xa = some a ∧ Rep E v a) {d i : Int} (h : a3T d xa = some i) :
  (xv = none ∧ xa = none ∧ i = d) ∨ ∃ k, xv = some (.int k i) ∧ xa = some (.int k i) := by
 rcases hr with ⟨rfl, rfl⟩ | ⟨v, a, rfl, rfl, hr⟩
 ·simp [a3T] at h; exact .inl ⟨rfl, rfl, h.symm⟩
 ·cases hr with
  | int k n => simp [a3T] at h; subst h; exact .inr ⟨k, rfl, rfl⟩
  | dead v a id hrf hd h1 => cases a <;> simp [AV.ref] at hrf <;> simp [a3T] at h
  | _ => simp [a3T] at h
theorem c5N (w : World) (len cap : Nat) (lo hi mx : Option Value) (l h m : Nat)
  (hlo : (lo = none ∧ l = 0) ∨ ∃ k, lo = some (.int k (l : Int))) (hhi : (hi = none ∧ h = len ∧ mx = none) ∨ ∃ k, hi = some (.int k (h : Int)))
  (hmx : (mx = none ∧ m = cap) ∨ ∃ k, mx = some (.int k (m : Int))) (h1 : l ≤ h) (h2 : h ≤ m) (h3 : m ≤ cap) (b : Bool) :
  (Instr.sliceBounds b len cap lo hi mx).run P w = .ok (l, h, m) w := by
 rcases hmx with ⟨rfl, rfl⟩ | ⟨k3, rfl⟩ <;> rcases hhi with ⟨rfl, rfl, hn⟩ | ⟨k2, rfl⟩ <;> rcases hlo with ⟨rfl, rfl⟩ | ⟨k1, rfl⟩ <;>
  first
   | (simp at hn; done)
   | simp [Instr.sliceBounds, Instr.sliceBound, asIntOf, h1, h2, h3]
theorem d7p (hok : HOk E) {t e : TypeId} {x : Value} {a r : AV} (hx : Rep E x a) {wd : Nat} (ht : P.underlying t = some (.slice e)) (hwd : a3X P e = some wd)
  {lo hi mx : Option Value} {la ha ma : Option AV}
  (hlo : (lo = none ∧ la = none) ∨ ∃ v a, lo = some v ∧ la = some a ∧ Rep E v a) (hhi : (hi = none ∧ ha = none) ∨ ∃ v a, hi = some v ∧ ha = some a ∧ Rep E v a)
  (hmx : (mx = none ∧ ma = none) ∨ ∃ v a, mx = some v ∧ ma = some a ∧ Rep E v a)
  (h : slcV E.H wd a la ha ma = some r) : ∃ v, (Instr.sliceAt t x lo hi mx).run P E.w = .ok v E.w ∧ Rep E v r := by
 unfold a3X at hwd
 simp only [Option.map_eq_some_iff] at hwd
 obtain ⟨inf, hinf, rfl⟩ := hwd
 -- the bounds, aXs numbers
 have key : ∀ (len cap l hh m : Nat) (base : Option Addr), x = .slice base len cap → ((lo = none ∧ l = 0) ∨ ∃ k, lo = some (.int k (l : Int))) → ((hi = none ∧ hh = len ∧ mx = none) ∨ ∃ k, hi = some (.int k (hh : Int))) →
   ((mx = none ∧ m = cap) ∨ ∃ k, mx = some (.int k (m : Int))) → l ≤ hh → hh ≤ m → m ≤ cap →
   (Instr.sliceAt t x lo hi mx).run P E.w = .ok (.slice (if m = l then base else base.map (·.add (l * inf.size))) (hh - l) (m - l)) E.w := by
  intro len cap l hh m base hxe h1 h2 h3 h4 h5 h6
  subst hxe
  have hb := c5N (P := P) E.w len cap lo hi mx l hh m h1 h2 h3 h4 h5 h6 true
  simp [Instr.sliceAt, Instr.slice, run_underlying ht, hb, sizeOf, typeInfo, hinf]
 cases hx with
 | sl base cap wd xs vs b o hcap hpos hw hcl hbase hlen hcell hrep =>
  simp only [slcV, Option.bind_eq_some_iff] at h
  obtain ⟨l, hl, hh, hhh, h⟩ := h
  have hl' := a2Y hlo hl
  have hh' := a2Y hhi hhh
  have main : ∀ (m : Int), wd = inf.size → 0 ≤ l → l ≤ hh → hh ≤ m → m ≤ cap → hh ≤ xs.length → ((mx = none ∧ m = cap) ∨ ∃ k, mx = some (.int k m)) → (mx = none ∨ ∃ k, hi = some (.int k hh)) →
    ∃ v, (Instr.sliceAt t (.slice base xs.length cap) lo hi mx).run P E.w = .ok v E.w ∧ Rep E v (.sl inf.size ((xs.drop l.toNat).take (hh.toNat - l.toNat))) := by
   intro m hwd h0 h1 h2 h3 h4 hm1 hm2
   obtain ⟨l, rfl⟩ := Int.eq_ofNat_of_zero_le h0
   obtain ⟨hh, rfl⟩ := Int.eq_ofNat_of_zero_le (show 0 ≤ hh by omega)
   obtain ⟨m, rfl⟩ := Int.eq_ofNat_of_zero_le (show 0 ≤ m by omega)
   subst hwd
   refine ⟨_, key xs.length cap l hh m base rfl ?_ ?_ ?_ (by omega) (by omega) (by omega), ?_⟩
   ·rcases hl' with ⟨h, _, h'⟩ | ⟨k, h, _⟩
    ·exact .inl ⟨h, by omega⟩
    ·exact .inr ⟨k, h⟩
   ·rcases hh' with ⟨h, _, h'⟩ | ⟨k, h, _⟩
    ·rcases hm2 with hm2 | ⟨k, hm2⟩
     ·exact .inl ⟨h, by omega, hm2⟩
     ·rw [h] at hm2; simp at hm2
    ·exact .inr ⟨k, h⟩
   ·rcases hm1 with ⟨h, h'⟩ | ⟨k, h⟩
    ·exact .inl ⟨h, by omega⟩
    ·exact .inr ⟨k, h⟩
   ·simp only [Int.toNat_natCast]
    have hl : ((xs.drop l).take (hh - l)).length = hh - l := by simp; omega
    have hw' : ∀ x ∈ (xs.drop l).take (hh - l), x.cells.length = inf.size := fun x hx => hw x (List.mem_of_mem_drop (List.mem_of_mem_take hx))
    have hfl : ((xs.drop l).take (hh - l)).flatMap AV.cells = ((xs.flatMap AV.cells).drop (l * inf.size)).take ((hh - l) * inf.size) := by
     rw [a6K (wd := inf.size) (fun x hx => hw x (List.mem_of_mem_drop hx)), b3J hw]
    have hR := Rep.sl (E := E) (if m = l then base else base.map (·.add (l * inf.size))) (m - l) inf.size ((xs.drop l).take (hh - l)) ((vs.drop (l * inf.size)).take ((hh - l) * inf.size)) b (o + l * inf.size)
     (by omega) hpos hw' (fun c hc => by rw [hfl] at hc; exact hcl c (List.mem_of_mem_drop (List.mem_of_mem_take hc)))
     (by
      by_cases he : hh = l
      ·left; subst he; simp
      ·right
       have hne : xs ≠ [] := by rintro rfl; simp at h4; omega
       obtain ⟨rfl, hm⟩ := hbase.resolve_left hne
       refine ⟨?_, hm⟩
       rw [if_neg (by omega)]
       simp [Addr.add_lit])
     (by rw [hfl]; simp [hlen])
     (fun k u hk => by
      rw [List.getElem?_take] at hk
      split at hk
      ·simp at hk
       have := hcell _ u hk
       rwa [← Nat.add_assoc] at this
      ·simp at hk)
     (fun k u a hk ha => by
      rw [hfl] at ha
      rw [List.getElem?_take] at hk ha
      split at hk
      ·rename_i hk'
       simp only [hk', if_true] at ha
       simp at hk ha
       exact hrep _ u a hk ha
      ·simp at hk)
    rw [hl] at hR
    exact hR
  cases hma : ma with
  | none =>
   rw [hma] at h
   simp only at h
   split at h
   ·rename_i hc
    cases h
    obtain ⟨h1, h2, h3, h4⟩ := hc
    have hmn : mx = none := by
     rcases hmx with ⟨h, _⟩ | ⟨_, _, _, h, _⟩
     ·exact h
     ·rw [hma] at h; simp at h
    exact main cap h1 h2 h3 (by omega) (by omega) h4 (.inl ⟨hmn, rfl⟩) (.inl hmn)
   ·simp at h
  | some ma' =>
   rw [hma] at h hmx
   rcases hmx with ⟨_, h'⟩ | ⟨mv, mav, hmv, hmav, hmr⟩
   ·simp at h'
   ·cases hmav
    cases hmr with
    | int k m =>
     simp only at h
     split at h
     ·rename_i hc
      cases h
      obtain ⟨h1, h1', h2, h3, h4, h5⟩ := hc
      refine main m h1 h2 h3 h4 (by omega) (by omega) (.inr ⟨k, hmv⟩) ?_
      rcases hh' with ⟨_, h, _⟩ | ⟨k, h, _⟩
      ·rw [h] at h1'; simp at h1'
      ·exact .inr ⟨k, h⟩
     ·simp at h
    | dead v a id hrf hd h1 => cases ma' <;> simp [AV.ref] at hrf <;> simp at h
    | _ => simp at h
 | mu blk id off len oc bn q cap hlive hbn hq hlen hsz hoc =>
  simp only [slcV, Option.bind_eq_some_iff] at h
  obtain ⟨blk', hb', l, hl, hh, hhh, h⟩ := h
  have hb2 := a0N hb'
  rw [hlive] at hb2; cases hb2
  have hl' := a2Y hlo hl
  have hh' := a2Y hhi hhh
  have main : ∀ (m : Int) (oc' : Option Nat), blk.wd = inf.size → 0 ≤ l → l ≤ hh → hh ≤ m → m ≤ cap → hh ≤ len → ((mx = none ∧ m = cap) ∨ ∃ k, mx = some (.int k m)) → (mx = none ∨ ∃ k, hi = some (.int k hh)) →
    (∀ c, oc' = some c → m.toNat - l.toNat = c) →
    ∃ v, (Instr.sliceAt t (.slice (some ⟨bn, q, none⟩) len cap) lo hi mx).run P E.w = .ok v E.w ∧ Rep E v (.mu id (off + l.toNat) (hh.toNat - l.toNat) oc') := by
   intro m oc' hwd h0 h1 h2 h3 h4 hm1 hm2 hoc'
   obtain ⟨l, rfl⟩ := Int.eq_ofNat_of_zero_le h0
   obtain ⟨hh, rfl⟩ := Int.eq_ofNat_of_zero_le (show 0 ≤ hh by omega)
   obtain ⟨m, rfl⟩ := Int.eq_ofNat_of_zero_le (show 0 ≤ m by omega)
   refine ⟨_, key len cap l hh m _ rfl ?_ ?_ ?_ (by omega) (by omega) (by omega), ?_⟩
   ·rcases hl' with ⟨h, _, h'⟩ | ⟨k, h, _⟩
    ·exact .inl ⟨h, by omega⟩
    ·exact .inr ⟨k, h⟩
   ·rcases hh' with ⟨h, _, h'⟩ | ⟨k, h, _⟩
    ·rcases hm2 with hm2 | ⟨k, hm2⟩
     ·exact .inl ⟨h, by omega, hm2⟩
     ·rw [h] at hm2; simp at hm2
    ·exact .inr ⟨k, h⟩
   ·rcases hm1 with ⟨h, h'⟩ | ⟨k, h⟩
    ·exact .inl ⟨h, by omega⟩
    ·exact .inr ⟨k, h⟩
   ·simp only [Int.toNat_natCast] at hoc' ⊢
    have hmul : (off + l + (m - l)) * blk.wd ≤ (off + cap) * blk.wd := Nat.mul_le_mul_right _ (by omega)
    by_cases hml : m = l
    ·rw [if_pos hml]
     exact .mu blk id (off + l) (hh - l) oc' bn q (m - l) hlive hbn (.inr ⟨by omega, by omega⟩) (by omega) (by omega) hoc'
    ·rw [if_neg hml]
     have hq' : q = off * blk.wd := hq.resolve_right (by omega)
     have e : (some (⟨bn, q, none⟩ : Addr)).map (·.add (l * inf.size)) = some ⟨bn, (off + l) * blk.wd, none⟩ := by
      simp [Addr.add_lit, hq', ← hwd, Nat.add_mul]
     rw [e]
     exact .mu blk id (off + l) (hh - l) oc' bn _ (m - l) hlive hbn (.inl rfl) (by omega) (by omega) hoc'
  cases hma : ma with
  | none =>
   rw [hma] at h
   simp only at h
   split at h
   ·rename_i hc
    cases h
    obtain ⟨h1, h2, h3, h4⟩ := hc
    have hmn : mx = none := by
     rcases hmx with ⟨h, _⟩ | ⟨_, _, _, h, _⟩
     ·exact h
     ·rw [hma] at h; simp at h
    refine main cap _ h1 h2 h3 (by omega) (by omega) h4 (.inl ⟨hmn, rfl⟩) (.inl hmn) ?_
    intro c hc
    simp only [Option.map_eq_some_iff] at hc
    obtain ⟨c', hc', rfl⟩ := hc
    have := hoc c' hc'
    omega
   ·simp at h
  | some ma' =>
   rw [hma] at h hmx
   rcases hmx with ⟨_, h'⟩ | ⟨mv, mav, hmv, hmav, hmr⟩
   ·simp at h'
   ·cases hmav
    cases hmr with
    | int k m =>
     simp only at h
     split at h
     ·rename_i hc
      cases h
      obtain ⟨h1, h1', h2, h3, h4, h5⟩ := hc
      refine main m _ h1 h2 h3 h4 (by omega) (by omega) (.inr ⟨k, hmv⟩) ?_ (fun c hc => by cases hc; rfl)
      rcases hh' with ⟨_, h, _⟩ | ⟨k, h, _⟩
      ·rw [h] at h1'; simp at h1'
      ·exact .inr ⟨k, h⟩
     ·simp at h
    | dead v a id hrf hd h1 => cases ma' <;> simp [AV.ref] at hrf <;> simp at h
    | _ => simp at h
 | mu0 blk id off oc hlive hbn hoc =>
  simp only [slcV, Option.bind_eq_some_iff] at h
  obtain ⟨blk', hb', l, hl, hh, hhh, h⟩ := h
  have hb2 := a0N hb'
  rw [hlive] at hb2; cases hb2
  have hl' := a2Y hlo hl
  have hh' := a2Y hhi hhh
  have main : ∀ (m : Int) (oc' : Option Nat), 0 ≤ l → l ≤ hh → hh ≤ m → m ≤ (0 : Nat) → ((mx = none ∧ m = (0 : Nat)) ∨ ∃ k, mx = some (.int k m)) → (mx = none ∨ ∃ k, hi = some (.int k hh)) → (∀ c, oc' = some c → 0 = c) →
    ∃ v, (Instr.sliceAt t (.slice none 0 0) lo hi mx).run P E.w = .ok v E.w ∧ Rep E v (.mu id (off + l.toNat) (hh.toNat - l.toNat) oc') := by
   intro m oc' h0 h1 h2 h3 hm1 hm2 hoc'
   obtain rfl : l = (0 : Nat) := by omega
   obtain rfl : hh = (0 : Nat) := by omega
   obtain rfl : m = (0 : Nat) := by omega
   refine ⟨_, key 0 0 0 0 0 none rfl ?_ ?_ ?_ (by omega) (by omega) (by omega), ?_⟩
   ·rcases hl' with ⟨h, _, h'⟩ | ⟨k, h, _⟩
    ·exact .inl ⟨h, rfl⟩
    ·exact .inr ⟨k, h⟩
   ·rcases hh' with ⟨h, _, h'⟩ | ⟨k, h, _⟩
    ·rcases hm2 with hm2 | ⟨k, hm2⟩
     ·exact .inl ⟨h, rfl, hm2⟩
     ·rw [h] at hm2; simp at hm2
    ·exact .inr ⟨k, h⟩
   ·rcases hm1 with ⟨h, h'⟩ | ⟨k, h⟩
    ·exact .inl ⟨h, rfl⟩
    ·exact .inr ⟨k, h⟩
   ·exact .mu0 blk id _ oc' hlive hbn hoc'
  cases hma : ma with
  | none =>
   rw [hma] at h
   simp only at h
   split at h
   ·rename_i hc
    cases h
    obtain ⟨h1, h2, h3, h4⟩ := hc
    have hmn : mx = none := by
     rcases hmx with ⟨h, _⟩ | ⟨_, _, _, h, _⟩
     ·exact h
     ·rw [hma] at h; simp at h
    refine main (0 : Nat) _ h2 h3 (by omega) (by omega) (.inl ⟨hmn, rfl⟩) (.inl hmn) ?_
    intro c hc
    simp only [Option.map_eq_some_iff] at hc
    obtain ⟨c', hc', rfl⟩ := hc
    have := hoc c' hc'
    omega
   ·simp at h
  | some ma' =>
   rw [hma] at h hmx
   rcases hmx with ⟨_, h'⟩ | ⟨mv, mav, hmv, hmav, hmr⟩
   ·simp at h'
   ·cases hmav
    cases hmr with
    | int k m =>
     simp only at h
     split at h
     ·rename_i hc
      cases h
      obtain ⟨h1, h1', h2, h3, h4, h5⟩ := hc
      refine main m _ h2 h3 h4 (by omega) (.inr ⟨k, hmv⟩) ?_ (fun c hc => by cases hc; omega)
      rcases hh' with ⟨_, h, _⟩ | ⟨k, h, _⟩
      ·rw [h] at h1'; simp at h1'
      ·exact .inr ⟨k, h⟩
     ·simp at h
    | dead v a id hrf hd h1 => cases ma' <;> simp [AV.ref] at hrf <;> simp at h
    | _ => simp at h
 | dead v a id hrf hd h1 =>
  cases a <;> simp [AV.ref] at hrf
  ·subst hrf
   simp [slcV, hrow, hd] at h
  ·simp [slcV] at h
  ·simp [slcV] at h
 | _ => simp [slcV] at h
theorem d5c {t : TypeId} {x : Value} {a r : AV} (hx : Rep E x a) (ht : P.underlying t = some .string)
  {lo hi : Option Value} {la ha : Option AV}
  (hlo : (lo = none ∧ la = none) ∨ ∃ v a, lo = some v ∧ la = some a ∧ Rep E v a) (hhi : (hi = none ∧ ha = none) ∨ ∃ v a, hi = some v ∧ ha = some a ∧ Rep E v a)
  (h : slcS a la ha = some r) : ∃ v, (Instr.sliceAt t x lo hi none).run P E.w = .ok v E.w ∧ Rep E v r := by
 cases hx with
 | str s =>
  simp only [slcS, Option.bind_eq_some_iff] at h
  obtain ⟨l, hl, hh, hhh, h⟩ := h
  have hl' := a2Y hlo hl
  have hh' := a2Y hhi hhh
  split at h
  ·rename_i hc
   cases h
   obtain ⟨h0, h1, h2⟩ := hc
   obtain ⟨l, rfl⟩ := Int.eq_ofNat_of_zero_le h0
   obtain ⟨hh, rfl⟩ := Int.eq_ofNat_of_zero_le (show 0 ≤ hh by omega)
   have hb := c5N (P := P) E.w s.size s.size lo hi none l hh s.size
    (by
     rcases hl' with ⟨h, _, h'⟩ | ⟨k, h, _⟩
     ·exact .inl ⟨h, by omega⟩
     ·exact .inr ⟨k, h⟩)
    (by
     rcases hh' with ⟨h, _, h'⟩ | ⟨k, h, _⟩
     ·exact .inl ⟨h, by omega, rfl⟩
     ·exact .inr ⟨k, h⟩) (.inl ⟨rfl, rfl⟩) (by omega) (by omega) (Nat.le_refl _) false
   refine ⟨.string (s.extract l hh), by simp [Instr.sliceAt, Instr.slice, run_underlying ht, hb], ?_⟩
   simp only [Int.toNat_natCast]
   exact .str _
  ·simp at h
 | dead v a id hrf hd h1 => cases a <;> simp [AV.ref] at hrf <;> simp [slcS] at h
 | _ => simp [slcS] at h
theorem b3I (off : Nat) : ∀ (us : List Value) (j0 : Nat) (cs : Array Value), off + j0 + us.length ≤ cs.size →
  ((us.zipIdx j0).foldl (fun cs (p : Value × Nat) => cs.setIfInBounds (off + p.2) p.1) cs).toList = cs.toList.take (off + j0) ++ us ++ cs.toList.drop (off + j0 + us.length)
 | [], j0, cs, h => by simp
 | u :: us, j0, cs, h => by
  simp only [List.zipIdx_cons, List.foldl_cons, List.length_cons] at h ⊢
  rw [b3I off us (j0 + 1) _ (by simp; omega)]
  simp only [Array.toList_setIfInBounds, List.take_set, List.drop_set]
  rw [if_pos (by omega)]
  have e1 : off + (j0 + 1) = off + j0 + 1 := by omega
  rw [e1, List.take_succ_eq_append_getElem (by simp; omega)]
  rw [List.set_append]
  simp only [List.length_take, Array.length_toList]
  rw [if_neg (by omega)]
  have e2 : off + j0 - min (off + j0) cs.size = 0 := by omega
  rw [e2]
  simp only [List.set_cons_zero, List.append_assoc, List.cons_append, List.nil_append, List.singleton_append]
  rw [show off + j0 + 1 + us.length = off + j0 + (us.length + 1) by omega]
theorem d5a {cs : List AV} {zs : List Value} (hl : zs.length = cs.length) (h1 : ∀ v ∈ zs, v.oneCell' = true)
  (hr : ∀ (k : Nat) u a, zs[k]? = some u → cs[k]? = some a → Rep E u a) {us : List Value} {aXs : List AV} (hul : us.length = aXs.length) (hu1 : ∀ u ∈ us, u.oneCell' = true)
  (hur : ∀ (k : Nat) u a, us[k]? = some u → aXs[k]? = some a → Rep E u a) (off : Nat) (hfit : off + aXs.length ≤ cs.length) :
  (zs.take off ++ us ++ zs.drop (off + us.length)).length = (a2w cs off aXs).length ∧ (∀ v ∈ zs.take off ++ us ++ zs.drop (off + us.length), v.oneCell' = true) ∧
  ∀ (k : Nat) u a, (zs.take off ++ us ++ zs.drop (off + us.length))[k]? = some u → (a2w cs off aXs)[k]? = some a → Rep E u a := by
 refine ⟨by simp [a2w]; omega, ?_, ?_⟩
 ·intro v hv
  simp only [List.mem_append] at hv
  rcases hv with (hv | hv) | hv
  ·exact h1 v (List.mem_of_mem_take hv)
  ·exact hu1 v hv
  ·exact h1 v (List.mem_of_mem_drop hv)
 ·intro k u a hk ha
  unfold a2w at ha
  rw [List.append_assoc] at hk ha
  rcases Nat.lt_or_ge k off with h | h
  ·rw [List.getElem?_append_left (by simp; omega)] at hk ha
   rw [List.getElem?_take] at hk ha
   simp only [h, if_true] at hk ha
   exact hr k u a hk ha
  ·rw [List.getElem?_append_right (by simp; omega)] at hk ha
   have t1 : (zs.take off).length = off := by simp; omega
   have t2 : (cs.take off).length = off := by simp; omega
   rw [t1] at hk
   rw [t2] at ha
   rcases Nat.lt_or_ge (k - off) us.length with h' | h'
   ·rw [List.getElem?_append_left h'] at hk
    rw [List.getElem?_append_left (by omega)] at ha
    exact hur _ u a hk ha
   ·rw [List.getElem?_append_right h'] at hk
    rw [List.getElem?_append_right (by omega)] at ha
    simp at hk ha
    rw [hul] at hk
    exact hr _ u a hk ha
theorem c7l (he : a0r E env tmps) (fs : Array Field) (places : Array (Nat × Nat)) (hpl : ∀ (i : Nat) f, fs[i]? = some f → ∀ n, a3X P f.type = some n → places[i]? = some (f.offset, n)) :
  ∀ (a2j : List (Nat × Operand)) (ps : List (Nat × Nat × Src)) (zs : Array Value) (cs out : List AV), c2R P fs a2j = some ps → bldV env cs ps = some out →
   zs.toList.length = cs.length → (∀ v ∈ zs.toList, v.oneCell' = true) → (∀ (k : Nat) u a, zs.toList[k]? = some u → cs[k]? = some a → Rep E u a) →
   ∃ us : Array Value, Instr.fill (places[·]?) zs (a2j.map fun p => (p.1, Act.eval ⟨tmps, []⟩ p.2)) = some us ∧ us.toList.length = out.length ∧ (∀ v ∈ us.toList, v.oneCell' = true) ∧
    ∀ (k : Nat) u a, us.toList[k]? = some u → out[k]? = some a → Rep E u a
 | [], ps, zs, cs, out, hp, hb, hl, h1, hr => by
  simp [c2R] at hp; subst hp
  simp [bldV] at hb; subst hb
  exact ⟨zs, rfl, hl, h1, hr⟩
 | (i, x) :: a2j, ps, zs, cs, out, hp, hb, hl, h1, hr => by
  simp only [c2R, Option.bind_eq_bind, Option.bind_eq_some_iff] at hp
  obtain ⟨f, hf, n, hn, s, hs, r, hpr, hps⟩ := hp
  cases hps
  simp only [bldV] at hb
  split at hb
  ·rename_i hc
   obtain ⟨c1, c2, c3⟩ := hc
   have hrep := a0n he hs
   obtain ⟨q1, q2, q3⟩ := b0h hrep c3
   have hpi := hpl i f hf n hn
   have S := d5a hl h1 hr q1 q2 q3 f.offset (by omega)
   have hsz : (Act.eval ⟨tmps, []⟩ x).cells.size = n := by rw [← Array.length_toList, q1, c1]
   have hfold := b3I f.offset (Act.eval ⟨tmps, []⟩ x).cells.toList 0 zs (by simp at hl ⊢; omega)
   simp only [Nat.add_zero] at hfold
   have hz : ((Act.eval ⟨tmps, []⟩ x).cells.zipIdx.foldl (fun cs (p : Value × Nat) => cs.setIfInBounds (f.offset + p.2) p.1) zs) =
     ((Act.eval ⟨tmps, []⟩ x).cells.toList.zipIdx.foldl (fun cs (p : Value × Nat) => cs.setIfInBounds (f.offset + p.2) p.1) zs) := by
    rw [← Array.foldl_toList, Array.toList_zipIdx]
   obtain ⟨us, g1, g2, g3, g4⟩ := c7l he fs places hpl a2j r ((Act.eval ⟨tmps, []⟩ x).cells.toList.zipIdx.foldl (fun cs (p : Value × Nat) => cs.setIfInBounds (f.offset + p.2) p.1) zs) (a2w cs f.offset (s.ev env).cells) out hpr hb
    (by rw [hfold]; exact S.1) (by rw [hfold]; exact S.2.1) (by rw [hfold]; exact S.2.2)
   refine ⟨us, ?_, g2, g3, g4⟩
   simp only [List.map_cons, Instr.fill, hpi]
   rw [if_neg (by simp [hsz]; simp at hl; omega)]
   exact (congrArg (fun z => Instr.fill (places[·]?) z _) hz).trans g1
  ·simp at hb
theorem b2Q (he : a0r E env tmps) {x : Option Operand} {s : Option Src} (h : b9P x = some s) :
  (x.map (Act.eval ⟨tmps, []⟩) = none ∧ s.map (·.ev env) = none) ∨ ∃ v a, x.map (Act.eval ⟨tmps, []⟩) = some v ∧ s.map (·.ev env) = some a ∧ Rep E v a := by
 cases x with
 | none => simp [b9P] at h; subst h; exact .inl ⟨rfl, rfl⟩
 | some x =>
  simp only [b9P, Option.map_eq_some_iff] at h
  obtain ⟨s', hs, rfl⟩ := h
  exact .inr ⟨_, _, rfl, rfl, a0n he hs⟩
theorem a0F {v : Value} {k : IntKind} {n : Int} (h : Rep E v (.int k n)) : v = .int k n := by
 cases h with
 | int => rfl
 | dead v a id hr hd h1 => simp [AV.ref] at hr
theorem a1Q {v : Value} {b : Bool} (h : Rep E v (.bool b)) : v = .bool b := by
 cases h with
 | bool => rfl
 | dead v a id hr hd h1 => simp [AV.ref] at hr
theorem a0O {v : Value} {s : ByteArray} (h : Rep E v (.str s)) : v = .string s := by
 cases h with
 | str => rfl
 | dead v a id hr hd h1 => simp [AV.ref] at hr
theorem c2N (op : BinOp) (t : TypeId) (x y : Operand) (k k' : IntKind) (m n : Int) (w : World) : (eqGuard op t x y (.int k m) (.int k' n)).run P w = .ok () w := by
 unfold eqGuard; split <;> rfl
theorem c2M (op : BinOp) (t : TypeId) (x y : Operand) (m n : ByteArray) (w : World) : (eqGuard op t x y (.string m) (.string n)).run P w = .ok () w := by
 unfold eqGuard; split <;> rfl
theorem c1f (op : BinOp) (t : TypeId) (x y : Operand) (m n : Bool) (w : World) : (eqGuard op t x y (.bool m) (.bool n)).run P w = .ok () w := by
 unfold eqGuard; split <;> rfl
theorem d9Z {op : BinOp} {t : TypeId} {x y : Operand} {xv yv : Value} {a b r : AV} (hx : Rep E xv a) (hy : Rep E yv b) (h : binV op a b = some r) :
  ∃ v, (do eqGuard op t x y xv yv; binOp op t xv yv : Sem Value).run P E.w = .ok v E.w ∧ Rep E v r := by
 unfold binV at h
 split at h
 ·rename_i k m k' n
  have := a0F hx; have := a0F hy; subst_vars
  simp only [Sem.run_bind, c2N, Result.andThen_ok]
  have sh : ∀ (op : BinOp), op = .shl ∨ op = .shr → b2n op k m n = some r → ∃ v, (Op.shift op k m k' n).run P E.w = .ok v E.w ∧ Rep E v r := by
   intro op hop h
   unfold b2n at h
   split at h
   ·simp at h
   ·rename_i hn
    rcases hop with rfl | rfl
    ·cases h; exact ⟨_, by simp [Op.shift, hn], .int _ _⟩
    ·cases h; exact ⟨_, by simp [Op.shift, hn], .int _ _⟩
  cases op <;> simp only at h
  case shl => exact sh .shl (.inl rfl) h
  case shr => exact sh .shr (.inr rfl) h
  all_goals
   split at h
   ·rename_i hk; subst hk
    simp only [a6J] at h
    first
     | (cases h; refine ⟨.int _ _, ?_, .int _ _⟩; simp [binOp, Op.intArith, Op.intBits]; done)
     | (cases h; refine ⟨.bool _, ?_, .bool _⟩; simp [binOp, Op.intCmp]; done)
     | (split at h
        ·simp at h
        ·rename_i hn; cases h; refine ⟨.int _ _, ?_, .int _ _⟩; simp [binOp, Op.intDiv, hn])
     | (simp at h)
   ·simp at h
 ·rename_i m n
  have := a0O hx; have := a0O hy; subst_vars
  simp only [Sem.run_bind, c2M, Result.andThen_ok]
  cases op <;> simp only at h
  case add =>
   split at h
   ·simp at h
   ·rename_i hn
    cases h
    exact ⟨.string (m ++ n), by simp only [binOp, Op.stringOp]; rw [if_neg hn]; rfl, .str _⟩
  case eql => cases h; exact ⟨_, rfl, .bool _⟩
  case neq => cases h; exact ⟨_, rfl, .bool _⟩
  all_goals simp at h
 ·simp at h
theorem b8n : ∀ {xs : List AV} {ns : List Int}, b4H xs = some ns → xs = ns.map (AV.int .u8 ·)
 | [], ns, h => by simp [b4H] at h; subst h; rfl
 | x :: xs, ns, h => by
  cases x <;> first | (simp [b4H] at h; done) | skip
  rename_i k n
  cases k <;> first | (simp [b4H] at h; done) | skip
  rw [b4H] at h
  simp only [Option.map_eq_some_iff] at h
  obtain ⟨ms, h1, rfl⟩ := h
  rw [b8n h1]; rfl
theorem d3U (ns : List Int) : ((ns.map (AV.int .u8 ·)).flatMap AV.cells) = ns.map (AV.int .u8 ·) := by
 induction ns with
 | nil => rfl
 | cons n ns ih => simp only [List.map_cons, List.flatMap_cons, ih, AV.cells]; rfl
theorem d0Z {src dst e : TypeId} (hs : P.underlying src = some (.slice e)) (he : P.underlying e = some (.int .u8)) (hd : P.underlying dst = some .string) (b o cap : Nat) (ns : List Int) (vs : List Value) (hl : vs.length = ns.length)
  (hcell : ∀ (k : Nat) v, vs[k]? = some v → E.w.cell? ⟨b, o + k, none⟩ = some v) (hrep : ∀ (k : Nat) v n, vs[k]? = some v → ns[k]? = some n → v = .int .u8 n) :
  (convert src dst (.slice (some ⟨b, o, none⟩) ns.length cap)).run P E.w = .ok (.string (strOfNums ns)) E.w := by
 refine run_convert_bytes_arg E.w src e hs he b o ns.length cap ns rfl (fun i hi => ?_) dst hd
 have h1 : vs[i]? = some vs[i] := List.getElem?_eq_getElem (by omega)
 rw [hcell i _ h1, hrep i _ ns[i] h1 (List.getElem?_eq_getElem hi)]
 simp [List.getD, List.getElem?_eq_getElem hi]
theorem e0e (hok : HOk E) {src dst e : TypeId} (hs : P.underlying src = some (.slice e)) (he : P.underlying e = some (.int .u8)) (hd : P.underlying dst = some .string) {v : Value} {a r : AV} (hr : Rep E v a) (h : b2sV E.H a = some r) :
  ∃ u, (convert src dst v).run P E.w = .ok u E.w ∧ Rep E u r := by
 have emp : ∀ base cap, (convert src dst (.slice base 0 cap)).run P E.w = .ok (.string (strOfNums [])) E.w := by
  intro base cap
  cases base with
  | none => rw [run_convert_bytes_nil E.w src e hs he 0 cap dst hd]; rfl
  | some ad => rw [run_convert_bytes_string E.w src dst e _ 0 cap hs he hd, run_bytesToString E.w ad 0 cap [] (by simp [loadCells, loadCellsFrom])]; rfl
 cases hr with
 | nil => simp only [b2sV] at h; cases h; exact ⟨_, run_convert_bytes_nil E.w src e hs he 0 0 dst hd, .str _⟩
 | sl base cap wd xs vs b o hcap hpos hw hcl hbase hlen hcell hrep =>
  simp only [b2sV] at h
  split at h
  ·simp only [strB, Option.map_eq_some_iff] at h
   obtain ⟨ns, h1, rfl⟩ := h
   have hx := b8n h1
   subst hx
   rcases hbase with hb | ⟨hb, _⟩
   ·have : ns = [] := by simpa using hb
    subst this
    exact ⟨_, emp base cap, .str _⟩
   ·subst hb
    rw [d3U] at hlen hrep
    have := d0Z (P := P) (E := E) hs he hd b o cap ns vs (by simpa using hlen) (fun k v hk => (hcell k v hk).1) (fun k v n hk hn => a0F (hrep k v _ hk (by simp [hn])))
    exact ⟨_, by simpa using this, .str _⟩
  ·simp at h
 | mu blk id off len oc b q cap hlive hb hq hlen hsz hoc =>
  have hrw : hrow E.H id = some blk := by simp [hrow, hlive]
  simp only [b2sV, hrw, Option.bind_some] at h
  split at h
  ·rename_i hc
   obtain ⟨hwd, hle⟩ := hc
   simp only [strB, Option.map_eq_some_iff] at h
   obtain ⟨ns, h1, rfl⟩ := h
   have hx := b8n h1
   have hnl : ns.length = len := by
    have := congrArg List.length hx
    simp at this; omega
   rcases Nat.eq_zero_or_pos len with h0 | h0
   ·subst h0
    have : ns = [] := List.length_eq_zero_iff.1 hnl
    subst this
    exact ⟨_, emp _ cap, .str _⟩
   ·have hq' : q = off := by
     rcases hq with hq | ⟨hq, _⟩
     ·rw [hwd] at hq; omega
     ·omega
    subst hq'
    obtain ⟨c, et, r⟩ := hok.row id blk b hlive hb
    have hwid := hok.wids id blk hlive
    rw [hwd] at hwid
    have hflat : blk.flat.length = blk.xs.length := by rw [Blk.flat, a1s hwid]; omega
    have hget : ∀ k, k < len → blk.flat[q + k]? = (ns[k]?).map (AV.int .u8 ·) := by
     intro k hk
     have h2 : (((blk.xs.drop q).take len).flatMap AV.cells)[k]? = (ns.map (AV.int .u8 ·))[k]? := by rw [hx, d3U]
     have e1 : blk.flat = (blk.xs.take q).flatMap AV.cells ++ (((blk.xs.drop q).take len).flatMap AV.cells ++ ((blk.xs.drop q).drop len).flatMap AV.cells) := by
      rw [← List.flatMap_append, List.take_append_drop, ← List.flatMap_append, List.take_append_drop]; rfl
     have l1 : ((blk.xs.take q).flatMap AV.cells).length = q := by
      rw [a1s (wd := 1) (fun x hx => hwid x (List.mem_of_mem_take hx)), List.length_take]; omega
     have l2 : (((blk.xs.drop q).take len).flatMap AV.cells).length = len := by
      rw [a1s (wd := 1) (fun x hx => hwid x (List.mem_of_mem_drop (List.mem_of_mem_take hx))), List.length_take, List.length_drop]; omega
     rw [e1, List.getElem?_append_right (by omega), l1, Nat.add_sub_cancel_left, List.getElem?_append_left (by omega), h2]
     simp
    have hfit := r.fits
    have hcsz : ∀ k, k < len → q + k < c.size := fun k hk => by omega
    have := d0Z (P := P) (E := E) hs he hd b q cap ns ((c.toList.drop q).take len) (by simp; omega)
     (fun k v hk => by
      have hkl := a0i hk
      simp at hkl
      rw [List.getElem?_take, if_pos (by omega), List.getElem?_drop] at hk
      simp [World.cell?, r.heap (by omega)]
      simpa using hk)
     (fun k v n hk hn => by
      have hkl := a0i hk
      simp at hkl
      rw [List.getElem?_take, if_pos (by omega), List.getElem?_drop] at hk
      refine a0F (r.rep (q + k) v (.int .u8 n) (by simpa using hk) ?_)
      rw [hget k (by omega), hn]; rfl)
    rw [hnl] at this
    exact ⟨_, this, .str _⟩
  ·simp at h
 | mu0 blk id off oc hlive hb hoc =>
  have hrw : hrow E.H id = some blk := by simp [hrow, hlive]
  simp only [b2sV, hrw, Option.bind_some] at h
  split at h
  ·simp only [List.take_zero, strB, b4H, Option.map_some] at h
   cases h
   exact ⟨_, emp none 0, .str _⟩
  ·simp at h
 | dead v a id hrf hd2 h1 =>
  cases a <;> simp [AV.ref] at hrf
  ·subst hrf; simp [b2sV, hrow, hd2] at h
  ·simp [b2sV] at h
  ·simp [b2sV] at h
 | _ => simp [b2sV] at h
theorem d8p (hok : HOk E) {v : Value} {a : AV} (hr : Rep E v a) {L : List (Int × Int)} (h : a9W E.H a = some L) : ∃ b, v = .map (some b) ∧ E.w.heap[b]? = some (.map (a8S L) L.length) := by
 unfold a9W at h
 split at h
 ·rename_i id
  split at h
  ·rename_i L' hrw
   cases h
   have hl := a0N hrw
   cases hr with
   | mp blk _ _ b hlive hb hw =>
    rw [hl] at hlive; cases hlive
    rcases hok.obj id _ b hl rfl hb with ⟨L', q1, q2⟩ | ⟨_, _, _, _, q1, _⟩ | ⟨_, _, _, _, q1, _⟩
    ·simp at q1; subst q1; exact ⟨b, rfl, q2⟩
    ·simp at q1
    ·simp at q1
   | dead v a id' hr hd h1 => simp [AV.ref] at hr; subst hr; rw [hl] at hd; cases hd
  ·cases h
 ·cases h
theorem c7h (hok : HOk E) {v : Value} {a : AV} (hr : Rep E v a) {mid n : Nat} {seen : List Nat} (h : a9x E.H a = some (mid, n, seen)) :
  ∃ b m, v = .pointer (some ⟨b, 0, none⟩) ∧ E.w.heap[b]? = some (.mapIter (some m) n seen.toArray n) ∧ ∀ L, a9W E.H (.mp true mid) = some L → E.w.heap[m]? = some (.map (a8S L) L.length) := by
 unfold a9x at h
 split at h
 ·rename_i id
  split at h
  ·rename_i m0 n0 seen0 hrw
   cases h
   have hl := a0N hrw
   cases hr with
   | mp blk _ _ b hlive hb hw =>
    rw [hl] at hlive; cases hlive
    rcases hok.obj id _ b hl rfl hb with ⟨L', q1, q2⟩ | ⟨_, _, _, m, q1, q2, q3, q4⟩ | ⟨_, _, _, _, q1, _⟩
    ·simp at q1
    ·simp at q1; obtain ⟨rfl, rfl, rfl⟩ := q1
     refine ⟨b, m, rfl, q2, fun L hL => ?_⟩
     unfold a9W at hL
     simp only at hL
     split at hL
     ·rename_i L' hrm
      cases hL
      have hlm := a0N hrm
      obtain ⟨s1, s2⟩ := q4 _ hlm
      rcases hok.obj mid _ m hlm rfl s2 with ⟨L', s3, s4⟩ | ⟨_, _, _, _, s3, _⟩ | ⟨_, _, _, _, s3, _⟩
      ·simp at s3; subst s3; exact s4
      ·simp at s3
      ·simp at s3
     ·cases hL
    ·simp at q1
   | dead v a id' hr hd h1 => simp [AV.ref] at hr; subst hr; rw [hl] at hd; cases hd
  ·cases h
 ·cases h
theorem c8y (q : IntKind) (x : Int) : ∀ (L : List (Int × Int)) (b i : Nat), ∃ r, Instr.findNow (.int q) (.int .i64 x) (mapE b L) i = some r ∧ r.map (·.2) = (mget L x).map (Value.int .i64 ·)
 | [], b, i => ⟨none, rfl, rfl⟩
 | p :: L, b, i => by
  by_cases hx : x = p.1
  ·exact ⟨some (i, .int .i64 p.2), by simp [mapE, Instr.findNow, Instr.sameNow, hx], by simp [mget, hx]⟩
  ·obtain ⟨r, h1, h2⟩ := c8y q x L (b + 1) (i + 1)
   refine ⟨r, ?_, by simp only [mget, if_neg hx]; exact h2⟩
   have : (x == p.1) = false := by simpa using hx
   simp [mapE, Instr.findNow, Instr.sameNow, this, h1]
theorem c8d {t : TypeId} (h : mapT P t = true) : ∃ kt vt i, P.underlying t = some (.map kt vt) ∧ P.underlying kt = some (.int .i64) ∧ P.underlying vt = some (.int .i64) ∧ P.info? vt = some i ∧ i.zero = some (.int .i64 0) := by
 unfold mapT at h
 split at h
 ·rename_i kt vt h1
  split at h
  ·rename_i n h2 h3 h4
   simp only [Option.bind_eq_some_iff] at h4
   obtain ⟨i, h5, h6⟩ := h4
   simp at h; subst h
   exact ⟨kt, vt, i, h1, h2, h3, h5, h6⟩
  ·cases h
 ·cases h
theorem a0P {w : World} {r : Nat} {es : Array MapEntry} {clock : Nat} (hb : w.heap[r]? = some (.map es clock)) : (getObj r).run P w = .ok (.map es clock) w := by simp [getObj, Sem.run, hb]
theorem a3R {w : World} {r : Nat} {m : Option Nat} {s : Nat} {seen : Array Nat} {c : Nat} (hb : w.heap[r]? = some (.mapIter m s seen c)) : (getObj r).run P w = .ok (.mapIter m s seen c) w := by simp [getObj, Sem.run, hb]
theorem a6i {w : World} {r : Nat} {es : Array MapEntry} {clock : Nat} (o : Obj) (hb : w.heap[r]? = some (.map es clock)) : (setObj r o).run P w = .ok () { w with heap := w.heap.setIfInBounds r o } := by simp [setObj, Sem.run, hb]
theorem b9S {w : World} {r : Nat} {m : Option Nat} {s : Nat} {seen : Array Nat} {c : Nat} (o : Obj) (hb : w.heap[r]? = some (.mapIter m s seen c)) : (setObj r o).run P w = .ok () { w with heap := w.heap.setIfInBounds r o } := by simp [setObj, Sem.run, hb]
theorem c0R {kt : TypeId} (hk : P.underlying kt = some (.int .i64)) (e : Bool) (x : Int) (w : World) : (Instr.checkKey e 10000 kt (.int .i64 x)).run P w = .ok () w := by
 show (Instr.checkKey e (9999 + 1) kt (.int .i64 x)).run P w = .ok () w
 unfold Instr.checkKey
 simp [run_underlying hk]
theorem e1S {t : TypeId} (ht : mapT P t = true) {w : World} {b n : Nat} {L : List (Int × Int)} (hb : w.heap[b]? = some (.map (a8S L) n)) (x : Int) :
  (Instr.lookup t (.map (some b)) (.int .i64 x) true).run P w = .ok (.tuple #[.int .i64 ((mget L x).getD 0), .bool (mget L x).isSome]) w := by
 obtain ⟨kt, vt, i, h1, h2, h3, h4, h5⟩ := c8d ht
 obtain ⟨r, q1, q2⟩ := c8y .i64 x L 0 0
 unfold Instr.lookup
 simp only [Sem.run_bind, run_underlying h1, Result.andThen_ok, a0P hb, Sem.run_pure, c0R h2, Instr.findKey, run_underlying h2, a8S]
 rw [show (Instr.findNow (.int .i64) (.int .i64 x) (mapE 0 L).toArray.toList 0) = some r from q1]
 cases hr : r with
 | none =>
  rw [hr] at q2
  have : mget L x = none := by cases hg : mget L x <;> simp [hg] at q2 ⊢
  simp [zeroValue, typeInfo, h4, h5, this]
 | some p =>
  rw [hr] at q2
  have : ∃ y, mget L x = some y ∧ p.2 = .int .i64 y := by
   cases hg : mget L x with
   | none => simp [hg] at q2
   | some y => exact ⟨y, rfl, by simpa [hg] using q2⟩
  obtain ⟨y, hy, hp⟩ := this
  obtain ⟨p1, p2⟩ := p
  simp only at hp; subst hp
  simp [hy]
theorem d0F : ∀ (L : List (Int × Int)) (b i : Nat), (mapE b L).find? (·.born == b + i) = (L[i]?).map fun p => { key := .int .i64 p.1, val := .int .i64 p.2, born := b + i }
 | [], b, i => by simp [mapE]
 | p :: L, b, 0 => by simp [mapE]
 | p :: L, b, i + 1 => by
  have := d0F L (b + 1) i
  rw [show b + 1 + i = b + (i + 1) by omega] at this
  simp [mapE, this]
theorem e5I {w : World} {b m n : Nat} {seen : List Nat} {L : List (Int × Int)} (hi : w.heap[b]? = some (.mapIter (some m) n seen.toArray n)) (hm : w.heap[m]? = some (.map (a8S L) L.length)) (hn : L.length = n) {i : Nat} (hs : seen.getLast? = some i) {p : Int × Int} (hp : L[i]? = some p) :
  (Instr.entry (.pointer (some ⟨b, 0, none⟩))).run P w = .ok (.tuple #[.int .i64 p.1, .int .i64 p.2]) w := by
 have hb : seen.toArray.back? = some i := by rw [← hs]; simp [Array.back?, List.getLast?_eq_getElem?]
 have hf := d0F L 0 i
 simp only [Nat.zero_add, hp, Option.map_some] at hf
 unfold Instr.entry
 simp only [Sem.run_bind, a3R hi, Result.andThen_ok, hb, a0P hm]
 subst hn
 simp [a8S, hf]
theorem b0e (hok : HOk E) {v : Value} {a : AV} (hr : Rep E v a) {bs : List Nat} {ks : List ByteArray} {vs : List AV} {n : Nat} (h : a2P E.H a = some (bs, ks, vs, n)) :
  ∃ id b, a = .mp true id ∧ v = .map (some b) ∧ E.H[id]? = some (some ⟨0, [.ms bs ks vs n]⟩) ∧ E.φ id = some b ∧ e0n E b bs ks vs n := by
 unfold a2P at h
 split at h
 ·rename_i id
  split at h
  ·rename_i hrw
   cases h
   have hl := a0N hrw
   cases hr with
   | mp blk _ _ b hlive hb hw =>
    rw [hl] at hlive; cases hlive
    rcases hok.obj id _ b hl rfl hb with ⟨L', q1, q2⟩ | ⟨_, _, _, _, q1, _⟩ | ⟨_, _, _, _, q1, q2⟩
    ·simp at q1
    ·simp at q1
    ·simp at q1; obtain ⟨rfl, rfl, rfl, rfl⟩ := q1
     exact ⟨id, b, rfl, rfl, hl, hb, q2⟩
   | dead v a id' hr hd h1 => simp [AV.ref] at hr; subst hr; rw [hl] at hd; cases hd
  ·cases h
 ·cases h
theorem b8f : ∀ {ks : List ByteArray} {k : ByteArray} {i : Nat}, sidx ks k = some i → i < ks.length
 | [], _, _, h => by simp [sidx] at h
 | x :: r, k, i, h => by
  simp only [sidx] at h
  split at h
  ·cases h; simp
  ·simp only [Option.map_eq_some_iff] at h
   obtain ⟨j, h1, rfl⟩ := h
   have := b8f h1
   simp; omega
theorem c5d (a b : ByteArray) : (a == b) = decide (a = b) := by
 cases a with | mk a => cases b with | mk b =>
 show (a == b) = _
 by_cases h : a = b <;> simp [h]
theorem d0E (k : ByteArray) : ∀ (bs : List Nat) (ks : List ByteArray) (us : List Value) (i : Nat), ks.length = bs.length → us.length = bs.length →
  Instr.findNow .string (.string k) ((bs.zip (ks.zip us)).map fun p => { key := .string p.2.1, val := p.2.2, born := p.1 }) i = some ((sidx ks k).map fun j => (i + j, us.getD j undef))
 | [], [], [], i, _, _ => rfl
 | b :: bs, x :: ks, u :: us, i, h1, h2 => by
  have ih := d0E k bs ks us (i + 1) (by simpa using h1) (by simpa using h2)
  by_cases h : k = x
  ·subst h
   have hb : (k == k) = true := by rw [c5d]; simp
   simp [Instr.findNow, Instr.sameNow, sidx, hb]
  ·have hb : (k == x) = false := by rw [c5d]; simp [h]
   simp only [List.zip_cons_cons, List.map_cons, Instr.findNow, Instr.sameNow, hb, sidx, if_neg h]
   rw [ih]
   cases sidx ks k <;> simp; omega
 | [], _ :: _, _, _, h, _ => by simp at h
 | [], [], _ :: _, _, _, h => by simp at h
 | _ :: _, [], _, _, h, _ => by simp at h
 | _ :: _, _ :: _, [], _, _, h => by simp at h
theorem b6B {t : TypeId} (h : b8d P t = true) : ∃ kt vt i, P.underlying t = some (.map kt vt) ∧ P.underlying kt = some .string ∧ P.info? vt = some i ∧ i.zero = some (.slice none 0 0) := by
 unfold b8d at h
 split at h
 ·rename_i kt vt h1
  split at h
  ·rename_i h2 h4
   simp only [Option.bind_eq_some_iff] at h4
   obtain ⟨i, h5, h6⟩ := h4
   exact ⟨kt, vt, i, h1, h2, h5, h6⟩
  ·cases h
 ·cases h
theorem b3N {kt : TypeId} (hk : P.underlying kt = some .string) (e : Bool) (x : ByteArray) (w : World) : (Instr.checkKey e 10000 kt (.string x)).run P w = .ok () w := by
 show (Instr.checkKey e (9999 + 1) kt (.string x)).run P w = .ok () w
 unfold Instr.checkKey
 simp [run_underlying hk]
theorem b5N {kt : TypeId} (hk : P.underlying kt = some .string) {bs : List Nat} {ks : List ByteArray} {us : List Value} (l1 : ks.length = bs.length) (l2 : us.length = bs.length) (k : ByteArray) (w : World) :
  (Instr.findKey kt (.string k) (a5O bs ks us).toList).run P w = .ok ((sidx ks k).map fun j => (j, us.getD j undef)) w := by
 have := d0E k bs ks us 0 l1 l2
 simp only [Instr.findKey, Sem.run_bind, run_underlying hk, Result.andThen_ok, a5O]
 rw [show (Instr.findNow .string (.string k) ((bs.zip (ks.zip us)).map fun p => ({ key := .string p.2.1, val := p.2.2, born := p.1 } : MapEntry)).toArray.toList 0) = _ from this]
 simp
theorem c9p {t : TypeId} (ht : b8d P t = true) {w : World} {b n : Nat} {bs : List Nat} {ks : List ByteArray} {us : List Value} (hb : w.heap[b]? = some (.map (a5O bs ks us) n)) (l1 : ks.length = bs.length) (l2 : us.length = bs.length) (k : ByteArray) (ok : Bool) :
  (Instr.lookup t (.map (some b)) (.string k) ok).run P w = .ok (if ok then .tuple #[(match sidx ks k with | some j => us.getD j undef | none => .slice none 0 0), .bool (sidx ks k).isSome] else (match sidx ks k with | some j => us.getD j undef | none => .slice none 0 0)) w := by
 obtain ⟨kt, vt, i, h1, h2, h4, h5⟩ := b6B ht
 unfold Instr.lookup
 simp only [Sem.run_bind, run_underlying h1, Result.andThen_ok, a0P hb, Sem.run_pure, b3N h2, b5N h2 l1 l2]
 cases hr : sidx ks k with
 | none => simp [zeroValue, typeInfo, h4, h5]
 | some p => simp
theorem c9q {bs : List Nat} {ks : List ByteArray} {vs : List AV} {us : List Value} (l1 : ks.length = bs.length) (l2 : us.length = bs.length) (l3 : vs.length = bs.length)
  (hr : ∀ (k : Nat) u v, us[k]? = some u → vs[k]? = some v → Rep E u v) (k : ByteArray) : Rep E (match sidx ks k with | some j => us.getD j undef | none => .slice none 0 0) (sget ks vs k) := by
 unfold sget
 cases hs : sidx ks k with
 | none => exact .nil
 | some j =>
  have hj := b8f hs
  refine hr j (us.getD j undef) (vs.getD j .nil) ?_ ?_
  ·rw [List.getD_eq_getElem?_getD, List.getElem?_eq_getElem (show j < us.length by omega)]; rfl
  ·rw [List.getD_eq_getElem?_getD, List.getElem?_eq_getElem (show j < vs.length by omega)]; rfl
theorem c9u : ∀ {bs : List Nat} {ks : List ByteArray} {vs : List AV} {us : List Value} {c : Nat} {a : AV}, ks.length = bs.length → us.length = bs.length → (∀ (k : Nat) u v, us[k]? = some u → vs[k]? = some v → Rep E u v) → sent bs ks vs c = some a →
  ∃ k u, ((bs.zip (ks.zip us)).map fun p => ({ key := .string p.2.1, val := p.2.2, born := p.1 } : MapEntry)).find? (·.born == c) = some { key := .string k, val := u, born := c } ∧ Rep E (.tuple #[.string k, u]) a
 | b :: bs, x :: ks, v :: vs, u :: us, c, a, h1, h2, h3, h => by
  simp only [sent] at h
  split at h
  ·rename_i hb; subst hb; cases h
   have hr := h3 0 u v rfl rfl
   refine ⟨x, u, by simp, .tup [_, _] [_, _] rfl (fun k u' a hk ha => ?_)⟩
   rcases k with _ | _ | k
   ·simp at hk ha; subst hk; subst ha; exact .str _
   ·simp at hk ha; subst hk; subst ha; exact hr
   ·simp at hk
  ·rename_i hb
   obtain ⟨k', u', q1, q2⟩ := c9u (bs := bs) (ks := ks) (vs := vs) (us := us) (by simpa using h1) (by simpa using h2) (fun k u v hu hv => h3 (k + 1) u v (by simpa using hu) (by simpa using hv)) h
   refine ⟨k', u', ?_, q2⟩
   simp only [List.zip_cons_cons, List.map_cons, List.find?_cons, beq_eq_false_iff_ne.2 hb, q1]
 | [], _, _, _, _, _, _, _, _, h => by simp [sent] at h
 | _ :: _, [], _, _, _, _, _, _, _, h => by simp [sent] at h
 | _ :: _, _ :: _, [], _, _, _, _, _, _, h => by simp [sent] at h
 | _ :: _, _ :: _, _ :: _, [], _, _, _, h2, _, h => by simp at h2
theorem e7w {v : Value} {a : AV} (hok : HOk E) (hr : Rep E v a) {mid n : Nat} {seen : List Nat} (h : a9x E.H a = some (mid, n, seen)) :
  ∃ b m, v = .pointer (some ⟨b, 0, none⟩) ∧ E.w.heap[b]? = some (.mapIter (some m) n seen.toArray n) ∧ ∀ bs ks vs n', a2P E.H (.mp true mid) = some (bs, ks, vs, n') → e0n E m bs ks vs n' := by
 unfold a9x at h
 split at h
 ·rename_i id
  split at h
  ·rename_i m0 n0 seen0 hrw
   cases h
   have hl := a0N hrw
   cases hr with
   | mp blk _ _ b hlive hb hw =>
    rw [hl] at hlive; cases hlive
    rcases hok.obj id _ b hl rfl hb with ⟨L', q1, q2⟩ | ⟨_, _, _, m, q1, q2, q3, q4⟩ | ⟨_, _, _, _, q1, _⟩
    ·simp at q1
    ·simp at q1; obtain ⟨rfl, rfl, rfl⟩ := q1
     refine ⟨b, m, rfl, q2, fun bs ks vs n' hL => ?_⟩
     unfold a2P at hL
     simp only at hL
     split at hL
     ·rename_i hrm
      cases hL
      have hlm := a0N hrm
      obtain ⟨s1, s2⟩ := q4 _ hlm
      rcases hok.obj mid _ m hlm rfl s2 with ⟨L', s3, s4⟩ | ⟨_, _, _, _, s3, _⟩ | ⟨_, _, _, _, s3, s4⟩
      ·simp at s3
      ·simp at s3
      ·simp at s3; obtain ⟨rfl, rfl, rfl, rfl⟩ := s3; exact s4
     ·cases hL
    ·simp at q1
   | dead v a id' hr hd h1 => simp [AV.ref] at hr; subst hr; rw [hl] at hd; cases hd
  ·cases h
 ·cases h
theorem e0V {w : World} {b m n : Nat} {seen : List Nat} {bs : List Nat} {ks : List ByteArray} {us : List Value} (hi : w.heap[b]? = some (.mapIter (some m) n seen.toArray n)) (hm : w.heap[m]? = some (.map (a5O bs ks us) n)) {c : Nat} (hs : seen.getLast? = some c) {k : ByteArray} {u : Value}
  (hf : ((bs.zip (ks.zip us)).map fun p => ({ key := .string p.2.1, val := p.2.2, born := p.1 } : MapEntry)).find? (·.born == c) = some { key := .string k, val := u, born := c }) :
  (Instr.entry (.pointer (some ⟨b, 0, none⟩))).run P w = .ok (.tuple #[.string k, u]) w := by
 have hb : seen.toArray.back? = some c := by rw [← hs]; simp [Array.back?, List.getLast?_eq_getElem?]
 unfold Instr.entry
 simp only [Sem.run_bind, a3R hi, Result.andThen_ok, hb, a0P hm]
 simp only [a5O, List.find?_toArray, hf]
 simp
theorem e5e {v : Value} {a r : AV} (hr : Rep E v a) {ptr neg : Bool} (h : isnV ptr neg E.H a = some r) :
  ∃ c : Bool, r = .bool (if neg then !c else c) ∧ ((ptr = true ∧ ∃ p, v = .pointer p ∧ c = p.isNone) ∨ (ptr = false ∧ ∃ m, v = .map m ∧ c = m.isNone)) := by
 unfold isnV at h
 split at h
 ·cases h
  cases hr with
  | lit => exact ⟨true, by cases neg <;> rfl, .inl ⟨rfl, none, rfl, rfl⟩⟩
  | dead v a id hr hd h1 => simp [AV.ref] at hr
 ·cases h
  cases hr with
  | lit => exact ⟨true, by cases neg <;> rfl, .inr ⟨rfl, none, rfl, rfl⟩⟩
  | dead v a id hr hd h1 => simp [AV.ref] at hr
 ·rename_i id i off
  split at h
  ·rename_i hl
   cases h
   cases hr with
   | loc blk _ _ _ b hlive hb => exact ⟨false, by cases neg <;> rfl, .inl ⟨rfl, _, rfl, rfl⟩⟩
   | dead v a id hr hd h1 => simp [AV.ref] at hr; subst hr; simp [hrow, hd] at hl
  ·cases h
 ·rename_i id
  split at h
  ·rename_i hl
   cases h
   cases hr with
   | mp blk _ _ b hlive hb hw => exact ⟨false, by cases neg <;> rfl, .inr ⟨rfl, some b, rfl, rfl⟩⟩
   | dead v a id hr hd h1 => simp [AV.ref] at hr; subst hr; simp [hrow, hd] at hl
  ·cases h
 ·cases h
  cases hr with
  | ro x off b o vs hb hpos hcl hlen hcell hrep => exact ⟨false, by cases neg <;> rfl, .inl ⟨rfl, _, rfl, rfl⟩⟩
  | dead v a id hr hd h1 => simp [AV.ref] at hr
 ·cases h
theorem d0h {op : BinOp} {x y : Operand} {v : Value} {a r : AV} (hr : Rep E v a) {ptr neg : Bool} (hop : op = if neg then BinOp.neq else BinOp.eql) (h : isnV ptr neg E.H a = some r) {t : TypeId} {d : TypeDesc} (hu : P.underlying t = some d) (hy : nilC d y = some ptr) :
  ∃ u, (do eqGuard op t x y v (Act.eval ⟨tmps, []⟩ y); binOp op t v (Act.eval ⟨tmps, []⟩ y) : Sem Value).run P E.w = .ok u E.w ∧ Rep E u r := by
 obtain ⟨c, rfl, hv⟩ := e5e hr h
 have gen : ∀ u y' (c : Bool), (∀ d, (Op.equalIn (d + 1) t u y').run P E.w = .ok c E.w) → (Op.equal t u y').run P E.w = .ok c E.w := fun u y' c hd => hd 9999
 have key : (eqGuard op t x y v (Act.eval ⟨tmps, []⟩ y)).run P E.w = .ok () E.w ∧ (Op.equal t v (Act.eval ⟨tmps, []⟩ y)).run P E.w = .ok c E.w := by
  rcases hv with ⟨rfl, p, rfl, rfl⟩ | ⟨rfl, p, rfl, rfl⟩
  ·unfold nilC at hy
   split at hy
   ·refine ⟨by unfold eqGuard; split <;> rfl, gen _ _ _ fun d => ?_⟩
    cases p <;> (simp only [Act.eval, Op.equalIn, Sem.run_bind, run_underlying hu, Result.andThen_ok]; rfl)
   ·simp at hy
   ·simp at hy
  ·unfold nilC at hy
   split at hy
   ·simp at hy
   ·refine ⟨by unfold eqGuard; split <;> rfl, gen _ _ _ fun d => ?_⟩
    cases p <;> (simp only [Act.eval, Op.equalIn, Sem.run_bind, run_underlying hu, Result.andThen_ok]; rfl)
   ·simp at hy
 refine ⟨_, ?_, .bool _⟩
 obtain ⟨k1, k2⟩ := key
 simp only [Sem.run_bind, k1, Result.andThen_ok]
 cases neg
 ·simp only [Bool.false_eq_true, if_false] at hop; subst hop
  rcases hv with ⟨_, p, rfl, _⟩ | ⟨_, m, rfl, _⟩ <;> simp [Go.binOp, k2]
 ·simp only [if_true] at hop; subst hop
  rcases hv with ⟨_, p, rfl, _⟩ | ⟨_, m, rfl, _⟩ <;> simp [Go.binOp, k2]
theorem e1j {o : Oper} {po : POp} (hc : a9Y P o.op = some po) (hok : HOk E) (he : a0r E env tmps) {a : AV} (hp : pv po env E.H = some a) :
  ∃ v, (execOp (Act.eval ⟨tmps, []⟩) o).run P E.w = .ok (.value v) E.w ∧ Rep E v a := by
 obtain ⟨dst, op, type, pos, after, guard⟩ := o
 simp only at hc
 have val : ∀ (s : Sem Value) v, s.run P E.w = .ok v E.w → (do pure (Next.value (← s)) : Sem Next).run P E.w = .ok (.value v) E.w := by
  intro s v hs; simp [hs]
 cases op with
 | move x =>
  simp only [a9Y, Option.map_eq_some_iff] at hc
  obtain ⟨s, hs, rfl⟩ := hc
  simp only [pv] at hp; cases hp
  exact ⟨_, rfl, a0n he hs⟩
 | assign x =>
  simp only [a9Y, Option.map_eq_some_iff] at hc
  obtain ⟨s, hs, rfl⟩ := hc
  simp only [pv] at hp; cases hp
  exact ⟨_, rfl, a0n he hs⟩
 | pick c x y =>
  simp only [a9Y, Option.bind_eq_bind, Option.bind_eq_some_iff] at hc
  obtain ⟨sc, h1, sx, h2, sy, h3, h4⟩ := hc
  cases h4
  simp only [pv] at hp
  split at hp
  ·rename_i b hb
   have := a0n he h1
   rw [hb] at this
   have hcv := a1Q this
   cases b
   ·simp at hp; subst hp
    exact ⟨_, by simp [execOp, hcv, asBool], a0n he h3⟩
   ·simp at hp; subst hp
    exact ⟨_, by simp [execOp, hcv, asBool], a0n he h2⟩
  ·simp at hp
 | binOp op xt x y yt =>
  have main : ∀ (sx sy : Src), a0B x = some sx → a0B y = some sy → binV op (sx.ev env) (sy.ev env) = some a →
    ∃ v, (execOp (Act.eval ⟨tmps, []⟩) ⟨dst, .binOp op xt x y yt, type, pos, after, guard⟩).run P E.w = .ok (.value v) E.w ∧ Rep E v a := by
   intro sx sy h1 h2 h
   obtain ⟨v, hv, hr⟩ := d9Z (P := P) (t := xt) (x := x) (y := y) (a0n he h1) (a0n he h2) h
   exact ⟨v, val _ _ hv, hr⟩
  have bools : ∀ (neg : Bool) (sx sy : Src), (op = if neg then BinOp.neq else BinOp.eql) → P.underlying xt = some .bool → a0B x = some sx → a0B y = some sy → pv (.beq neg sx sy) env E.H = some a →
    ∃ v, (execOp (Act.eval ⟨tmps, []⟩) ⟨dst, .binOp op xt x y yt, type, pos, after, guard⟩).run P E.w = .ok (.value v) E.w ∧ Rep E v a := by
   intro neg sx sy hop hu h1 h2 h
   simp only [pv] at h
   split at h
   ·rename_i b1 b2 e1 e2
    have r1 := a0n he h1
    have r2 := a0n he h2
    rw [e1] at r1
    rw [e2] at r2
    have v1 := a1Q r1
    have v2 := a1Q r2
    cases h
    refine ⟨_, val _ _ ?_, .bool _⟩
    rw [v1, v2]
    simp only [Sem.run_bind, c1f, Result.andThen_ok]
    have eqr : (Op.equal xt (.bool b1) (.bool b2)).run P E.w = .ok (b1 == b2) E.w := by
     have gen : ∀ d, (Op.equalIn (d + 1) xt (.bool b1) (.bool b2)).run P E.w = .ok (b1 == b2) E.w := by
      intro d
      simp only [Op.equalIn, Sem.run_bind, run_underlying hu, Result.andThen_ok]
      rfl
     exact gen 9999
    cases neg
    ·simp only [Bool.false_eq_true, if_false] at hop; subst hop
     simp [Go.binOp, eqr]
    ·simp only [if_true] at hop; subst hop
     simp [Go.binOp, eqr]
   ·simp at h
  cases op <;> simp only [a9Y] at hc
  case eql =>
   split at hc
   ·rename_i hu
    simp only [Option.bind_eq_bind, Option.bind_eq_some_iff] at hc
    obtain ⟨sx, h1, sy, h2, h3⟩ := hc
    cases h3
    exact bools false sx sy rfl hu h1 h2 hp
   ·rename_i d hne hu
    split at hc
    ·rename_i q hq
     simp only [Option.bind_eq_bind, Option.bind_eq_some_iff] at hc
     obtain ⟨sx, h1, h3⟩ := hc
     cases h3
     obtain ⟨v, hv, hr⟩ := d0h (P := P) (neg := false) (x := x) (tmps := tmps) (a0n he h1) rfl hp hu hq
     exact ⟨v, val _ _ hv, hr⟩
    ·simp only [Option.bind_eq_bind, Option.bind_eq_some_iff] at hc
     obtain ⟨sx, h1, sy, h2, h3⟩ := hc
     cases h3
     exact main sx sy h1 h2 hp
   ·simp only [Option.bind_eq_bind, Option.bind_eq_some_iff] at hc
    obtain ⟨sx, h1, sy, h2, h3⟩ := hc
    cases h3
    exact main sx sy h1 h2 hp
  case neq =>
   split at hc
   ·rename_i hu
    simp only [Option.bind_eq_bind, Option.bind_eq_some_iff] at hc
    obtain ⟨sx, h1, sy, h2, h3⟩ := hc
    cases h3
    exact bools true sx sy rfl hu h1 h2 hp
   ·rename_i d hne hu
    split at hc
    ·rename_i q hq
     simp only [Option.bind_eq_bind, Option.bind_eq_some_iff] at hc
     obtain ⟨sx, h1, h3⟩ := hc
     cases h3
     obtain ⟨v, hv, hr⟩ := d0h (P := P) (neg := true) (x := x) (tmps := tmps) (a0n he h1) rfl hp hu hq
     exact ⟨v, val _ _ hv, hr⟩
    ·simp only [Option.bind_eq_bind, Option.bind_eq_some_iff] at hc
     obtain ⟨sx, h1, sy, h2, h3⟩ := hc
     cases h3
     exact main sx sy h1 h2 hp
   ·simp only [Option.bind_eq_bind, Option.bind_eq_some_iff] at hc
    obtain ⟨sx, h1, sy, h2, h3⟩ := hc
    cases h3
    exact main sx sy h1 h2 hp
  all_goals
   simp only [Option.bind_eq_bind, Option.bind_eq_some_iff] at hc
   obtain ⟨sx, h1, sy, h2, h3⟩ := hc
   cases h3
   exact main sx sy h1 h2 hp
 | unOp op xt x =>
  simp only [a9Y, Option.bind_eq_bind, Option.bind_eq_some_iff] at hc
  obtain ⟨sx, h1, h2⟩ := hc
  cases h2
  simp only [pv] at hp
  have r1 := a0n he h1
  split at hp
  ·rename_i k n e
   rw [e] at r1
   have := a0F r1
   cases hp
   exact ⟨_, val _ _ (by rw [this]; simp [Op.unary, Op.intArith]), .int _ _⟩
  ·rename_i b e
   rw [e] at r1
   have := a1Q r1
   cases hp
   exact ⟨_, val _ _ (by rw [this]; simp [Op.unary]), .bool _⟩
  ·simp at hp
 | convert src d x =>
  simp only [a9Y] at hc
  split at hc
  ·rename_i d1 k hu1 hu2
   simp only [Option.bind_eq_bind, Option.bind_eq_some_iff] at hc
   obtain ⟨sx, h1, h2⟩ := hc
   cases h2
   simp only [pv] at hp
   have r1 := a0n he h1
   split at hp
   ·rename_i k' n e
    rw [e] at r1
    have := a0F r1
    cases hp
    refine ⟨_, val _ (.int k (k.wrap n)) ?_, .int _ _⟩
    rw [this]
    simp [convert, run_underlying hu1, run_underlying hu2, Conv.intToInt]
   ·simp at hp
  ·rename_i e hu1 hu2
   split at hc
   ·rename_i hue
    simp only [Option.bind_eq_bind, Option.bind_eq_some_iff] at hc
    obtain ⟨sx, h1, h2⟩ := hc
    cases h2
    simp only [pv] at hp
    obtain ⟨u, q1, q2⟩ := e0e hok hu1 hue hu2 (a0n he h1) hp
    exact ⟨u, val _ _ q1, q2⟩
   ·simp at hc
  ·simp at hc
 | extract x i =>
  simp only [a9Y, Option.bind_eq_bind, Option.bind_eq_some_iff] at hc
  obtain ⟨sx, h1, h2⟩ := hc
  cases h2
  simp only [pv] at hp
  have r1 := a0n he h1
  split at hp
  ·rename_i vs e
   rw [e] at r1
   generalize hxv : Act.eval ⟨tmps, []⟩ x = xv at r1
   cases r1 with
   | tup us cs hlen hrep =>
    have hi := a0i hp
    refine ⟨us[i]'(by omega), val _ _ ?_, hrep i _ _ (List.getElem?_eq_getElem (by omega)) hp⟩
    rw [hxv]
    simp [Instr.extract, List.getElem?_eq_getElem (show i < us.length by omega)]
   | dead v a id hr hd h1 => simp [AV.ref] at hr
  ·simp at hp
 | fieldAddr s x f =>
  simp only [a9Y] at hc
  split at hc
  ·rename_i fs hu
   split at hc
   ·rename_i fl hfl
    split at hc
    ·rename_i n hn
     simp only [Option.bind_eq_bind, Option.bind_eq_some_iff] at hc
     obtain ⟨sx, h1, h2⟩ := hc
     cases h2
     simp only [pv] at hp
     have r1 := a0n he h1
     unfold a3X at hn
     simp only [Option.map_eq_some_iff] at hn
     obtain ⟨inf, hinf, hn⟩ := hn
     have fp : ∀ (b o : Nat), (Instr.fieldAt s (.pointer (some ⟨b, o, none⟩)) f).run P E.w = .ok (.pointer (some ⟨b, o + fl.offset, none⟩)) E.w := by
      intro b o
      simp [Instr.fieldAt, run_underlying hu, hfl, Instr.sureAddr, fieldPlace, sizeOf, typeInfo, hinf, hn, Addr.add_lit]
     generalize hxv : Act.eval ⟨tmps, []⟩ x = xv at r1
     split at hp
     ·rename_i x' o e
      rw [e] at r1
      cases hp
      cases r1 with
      | ro _ _ b o' vs hb hpos hcl hlen hcell hrep =>
       refine ⟨_, val _ _ (by rw [hxv]; exact fp b (o' + o)), ?_⟩
       rw [Nat.add_assoc]
       exact .ro x' (o + fl.offset) b o' vs hb hpos hcl hlen hcell hrep
      | dead v a id hr hd h1 => simp [AV.ref] at hr
     ·rename_i id i o e
      rw [e] at r1
      split at hp
      ·rename_i hliv
       cases hp
       cases r1 with
       | loc blk _ _ _ bn hlive hbn =>
        refine ⟨_, val _ _ (by rw [hxv]; exact fp _ _), ?_⟩
        rw [Nat.add_assoc]
        exact .loc blk id i (o + fl.offset) bn hlive hbn
       | dead v a id' hr hd h1 =>
        simp [AV.ref] at hr; subst hr
        simp [hrow, hd] at hliv
      ·simp at hp
     ·simp at hp
    ·simp at hc
   ·simp at hc
  ·simp at hc
 | indexAddr t x ix =>
  simp only [a9Y] at hc
  split at hc
  ·rename_i e hu
   simp only [Option.bind_eq_bind, Option.bind_eq_some_iff] at hc
   obtain ⟨wd, h0, sx, h1, si, h2, h3⟩ := hc
   cases h3
   simp only [pv] at hp
   obtain ⟨v, hv, hr⟩ := d8P hok (a0n he h1) (a0n he h2) hu h0 hp
   exact ⟨v, val _ _ hv, hr⟩
  ·simp at hc
 | index t x ix =>
  simp only [a9Y] at hc
  split at hc
  ·rename_i hu
   simp only [Option.bind_eq_bind, Option.bind_eq_some_iff] at hc
   obtain ⟨sx, h1, si, h2, h3⟩ := hc
   cases h3
   simp only [pv] at hp
   have r1 := a0n he h1
   have r2 := a0n he h2
   split at hp
   ·rename_i s k i e1 e2
    rw [e1] at r1
    rw [e2] at r2
    have v1 := a0O r1
    have v2 := a0F r2
    split at hp
    ·rename_i hlt
     cases hp
     obtain ⟨m, rfl⟩ := Int.eq_ofNat_of_zero_le hlt.1
     have hm : m < s.size := by omega
     refine ⟨_, val _ _ ?_, .int _ _⟩
     rw [v1, v2]
     have hb : s[m]? = some s[m] := by simp [hm]
     have hd : s.data[m]? = some s[m] := by rw [Array.getElem?_eq_getElem (by exact hm)]; rfl
     simp [Instr.index, asIntOf, run_underlying hu, hb, hd]
    ·simp at hp
   ·simp at hp
  ·simp at hc
 | load t x =>
  simp only [a9Y] at hc
  split at hc
  ·rename_i d hu
   split at hc
   ·rename_i hag
    simp only [Option.bind_eq_bind, Option.bind_eq_some_iff] at hc
    obtain ⟨n, h0, sx, h1, h2⟩ := hc
    cases h2
    simp only [pv] at hp
    obtain ⟨v, hv, hr⟩ := b8J hok (a0n he h1) hu (.inr ⟨n, rfl, hag, h0⟩) hp
    exact ⟨v, val _ _ hv, hr⟩
   ·rename_i hag
    simp only [Option.bind_eq_bind, Option.bind_eq_some_iff] at hc
    obtain ⟨sx, h1, h2⟩ := hc
    cases h2
    simp only [pv] at hp
    obtain ⟨v, hv, hr⟩ := b8J hok (a0n he h1) hu (.inl ⟨rfl, by simpa using hag⟩) hp
    exact ⟨v, val _ _ hv, hr⟩
  ·simp at hc
 | slice t x lo hi mx =>
  simp only [a9Y] at hc
  split at hc
  ·rename_i e hu
   simp only [Option.bind_eq_bind, Option.bind_eq_some_iff] at hc
   obtain ⟨wd, h0, sx, h1, sl, h2, sh, h3, sm, h4, h5⟩ := hc
   cases h5
   simp only [pv] at hp
   obtain ⟨v, hv, hr⟩ := d7p hok (a0n he h1) hu h0 (b2Q he h2) (b2Q he h3) (b2Q he h4) hp
   exact ⟨v, val _ _ hv, hr⟩
  ·rename_i hu
   split at hc
   ·simp only [Option.bind_eq_bind, Option.bind_eq_some_iff] at hc
    obtain ⟨sx, h1, sl, h2, sh, h3, h5⟩ := hc
    cases h5
    simp only [pv] at hp
    obtain ⟨v, hv, hr⟩ := d5c (a0n he h1) hu (b2Q he h2) (b2Q he h3) hp
    exact ⟨v, val _ _ hv, hr⟩
   ·simp at hc
  ·simp at hc
 | build t a2j =>
  simp only [a9Y] at hc
  split at hc
  ·rename_i fs zs hu hz
   split at hc
   ·rename_i hone
    rw [Bool.and_eq_true] at hone
    simp only [Option.bind_eq_bind, Option.bind_eq_some_iff] at hc
    obtain ⟨ps, h0, h1⟩ := hc
    cases h1
    simp only [pv, Option.map_eq_some_iff] at hp
    obtain ⟨out, hb, rfl⟩ := hp
    simp only [Option.bind_eq_some_iff] at hz
    obtain ⟨inf, hinf, hzero⟩ := hz
    have hall : ∀ (i : Nat) f, fs[i]? = some f → ∀ n, a3X P f.type = some n → ((fs.map fun f => (f.offset, (a3X P f.type).getD 0)))[i]? = some (f.offset, n) := by
     intro i f hf n hn
     simp [hf, hn]
    obtain ⟨us, g1, g2, g3, g4⟩ := c7l he fs _ hall a2j.toList ps zs (zs.toList.map a6V) out h0 hb (by simp)
     (by
      intro v hv
      have := Array.all_eq_true.1 hone.1
      obtain ⟨k, hk, rfl⟩ := List.getElem_of_mem hv
      simpa using this k (by simpa using hk))
     (by
      intro k u a hk ha
      simp at hk ha
      rw [hk] at ha
      simp at ha
      obtain ⟨_, rfl, rfl⟩ := ha
      exact b2N E _)
    refine ⟨.agg us, val _ _ ?_, ?_⟩
    ·have hmap : ∀ (l : List Field), (∀ f ∈ l, ∃ n, a3X P f.type = some n) → (l.mapM fun f => (do pure (f.offset, ← sizeOf f.type) : Sem (Nat × Nat))).run P E.w = .ok (l.map fun f => (f.offset, (a3X P f.type).getD 0)) E.w := by
      intro l hl
      induction l with
      | nil => rfl
      | cons f l ih =>
       obtain ⟨n, hn⟩ := hl f (by simp)
       have hn' := hn
       unfold a3X at hn
       simp only [Option.map_eq_some_iff] at hn
       obtain ⟨inf, hinf, rfl⟩ := hn
       have hs : (sizeOf f.type).run P E.w = .ok inf.size E.w := by simp [sizeOf, typeInfo, hinf]
       simp only [List.mapM_cons, Sem.run_bind, hs, Result.andThen_ok, Sem.run_pure, ih (fun g hg => hl g (by simp [hg])), List.map_cons, hn', Option.getD_some]
     have hfs : ∀ f ∈ fs.toList, ∃ n, a3X P f.type = some n := by
      intro f hf
      have := List.all_eq_true.1 hone.2 f hf
      exact Option.isSome_iff_exists.1 this
     have hm2 : (fs.mapM fun f => (do pure (f.offset, ← sizeOf f.type) : Sem (Nat × Nat))).run P E.w = .ok (fs.map fun f => (f.offset, (a3X P f.type).getD 0)) E.w := by
      have := hmap fs.toList hfs
      rw [Array.mapM_eq_mapM_toList, Sem.run_map, this]
      simp only [Result.andThen_ok]
      congr 1
      apply Array.ext'
      simp
     have hz0 : (zeroValue t).run P E.w = .ok (.agg zs) E.w := by simp [zeroValue, typeInfo, hinf, hzero]
     have hpl : (a2j.map fun (i, x) => (i, Act.eval ⟨tmps, []⟩ x)).toList = a2j.toList.map fun p => (p.1, Act.eval ⟨tmps, []⟩ p.2) := by simp
     simp only [Instr.build, Sem.run_bind, run_underlying hu, Result.andThen_ok, hz0, hm2, Value.cells, hpl, g1, Sem.run_pure]
    ·have := Rep.agg (E := E) us.toList out g2 g3 g4
     simpa using this
   ·simp at hc
  ·simp at hc
 | makeFunc fn first caps =>
  simp only [a9Y] at hc
  split at hc
  ·rename_i cl f hfirst
   have hf : first = #[] := by rw [← Array.toArray_toList (xs := first), hfirst]
   subst hf
   simp only [Option.bind_eq_bind, Option.bind_eq_some_iff] at hc
   obtain ⟨ss, h1, h2⟩ := hc
   cases h2
   simp only [pv] at hp; cases hp
   obtain ⟨hl, hr⟩ := a6a he h1
   refine ⟨.func (.func f) #[] (caps.toList.map (Act.eval ⟨tmps, []⟩)).toArray, ?_, .fn f _ _ (by simp [hl]) hr⟩
   simp only [execOp, Instr.makeFunc, Sem.run_bind, Sem.run_pure, Result.andThen_ok, Array.map_empty]
   rw [← Array.toList_map, Array.toArray_toList]
  ·rename_i f hcaps hne
   have hf : caps = #[] := by rw [← Array.toArray_toList (xs := caps), hcaps]
   subst hf
   simp only [Option.bind_eq_bind, Option.bind_eq_some_iff] at hc
   obtain ⟨ss, h1, h2⟩ := hc
   cases h2
   simp only [pv] at hp; cases hp
   obtain ⟨hl, hr⟩ := a6a he h1
   refine ⟨.func (.func f) (first.toList.map (Act.eval ⟨tmps, []⟩)).toArray #[], ?_, .bfn f _ _ (by simp [hl]) hr⟩
   simp only [execOp, Instr.makeFunc, Sem.run_bind, Sem.run_pure, Result.andThen_ok, Array.map_empty]
   rw [← Array.toList_map, Array.toArray_toList]
  ·simp at hc
 | nilCheck x =>
  simp only [a9Y, Option.bind_eq_bind, Option.bind_eq_some_iff] at hc
  obtain ⟨sx, h1, h2⟩ := hc
  cases h2
  simp only [pv] at hp
  have r1 := a0n he h1
  generalize hxv : Act.eval ⟨tmps, []⟩ x = xv at r1
  split at hp
  ·rename_i x' o e
   rw [e] at r1
   cases hp
   cases r1 with
   | ro _ _ b o' vs hb hpos hcl hlen hcell hrep => exact ⟨.pointer (some ⟨b, o' + o, none⟩), by simp only [execOp, hxv]; rfl, .ro x' o b o' vs hb hpos hcl hlen hcell hrep⟩
   | dead v a id hr hd h1 => simp [AV.ref] at hr
  ·rename_i id i o e
   rw [e] at r1
   split at hp
   ·rename_i hliv
    cases hp
    cases r1 with
    | loc blk _ _ _ bn hlive hbn => exact ⟨.pointer (some ⟨bn, i * blk.wd + o, none⟩), by simp only [execOp, hxv]; rfl, .loc blk id i o bn hlive hbn⟩
    | dead v a id' hr hd h1 =>
     simp [AV.ref] at hr; subst hr
     simp [hrow, hd] at hliv
   ·simp at hp
  ·simp at hp
 | call c =>
  simp only [a9Y] at hc
  have mnx : ∀ (mx : Bool) (x y : Operand), c.callee = .builtin (if mx then .max else .min) → c.args.toList = [x, y] → ∀ (sx sy : Src), a0B x = some sx → a0B y = some sy → po = .mnx mx sx sy →
    ∃ v, (execOp (Act.eval ⟨tmps, []⟩) ⟨dst, .call c, type, pos, after, guard⟩).run P E.w = .ok (.value v) E.w ∧ Rep E v a := by
   intro mx x y hcal hargs sx sy h1 h2 h3
   subst h3
   obtain ⟨callee, args, argTypes⟩ := c
   simp only at hcal hargs
   have ha : args = #[x, y] := by rw [← Array.toArray_toList (xs := args), hargs]
   subst hcal ha
   simp only [pv, mnxV] at hp
   have r1 := a0n he h1
   have r2 := a0n he h2
   split at hp
   ·rename_i k u k' w e1 e2
    rw [e1] at r1
    rw [e2] at r2
    have v1 := a0F r1
    have v2 := a0F r2
    cases hp
    refine ⟨_, ?_, .int _ _⟩
    cases mx
    ·simp [execOp, resolve, invoke, builtin, v1, v2, Builtin.min_, Builtin.min2]
    ·simp [execOp, resolve, invoke, builtin, v1, v2, Builtin.max_, Builtin.max2]
   ·simp at hp
  split at hc
  ·rename_i x t ts hcal hargs htys
   obtain ⟨callee, args, argTypes⟩ := c
   simp only at hcal hargs htys
   have ha : args = #[x] := by rw [← Array.toArray_toList (xs := args), hargs]
   have ht : argTypes = (t :: ts).toArray := by rw [← Array.toArray_toList (xs := argTypes), htys]
   subst hcal ha ht
   have fin : ∀ (xv : Value) (n : Int), Act.eval ⟨tmps, []⟩ x = xv → a = .int .i64 n → (Builtin.len_ (t :: ts).toArray type #[xv]).run P E.w = .ok (goInt n) E.w →
     ∃ v, (execOp (Act.eval ⟨tmps, []⟩) ⟨dst, .call ⟨.builtin .len, #[x], (t :: ts).toArray⟩, type, pos, after, guard⟩).run P E.w = .ok (.value v) E.w ∧ Rep E v a := by
    intro xv n hx ha hr
    subst ha
    refine ⟨.int .i64 n, ?_, .int _ _⟩
    simp only [goInt] at hr
    simp [execOp, resolve, invoke, builtin, hx, hr]
   split at hc
   ·rename_i hu
    have ru := run_underlying (P := P) hu E.w
    simp only [Option.bind_eq_bind, Option.bind_eq_some_iff] at hc
    obtain ⟨sx, h1, h2⟩ := hc
    cases h2
    simp only [pv] at hp
    have r1 := a0n he h1
    split at hp
    ·rename_i s e
     rw [e] at r1
     cases hp
     exact fin _ _ (a0O r1) rfl (by simp [Builtin.len_, ru])
    ·simp at hp
   ·rename_i e hu
    have ru := run_underlying (P := P) hu E.w
    simp only [Option.bind_eq_bind, Option.bind_eq_some_iff] at hc
    obtain ⟨sx, h1, h2⟩ := hc
    cases h2
    simp only [pv] at hp
    have r1 := a0n he h1
    generalize hxv : Act.eval ⟨tmps, []⟩ x = xv at r1
    generalize Src.ev env sx = sa at r1 hp
    cases r1 with
    | sl base cap wd xs vs b o hcap hpos hw hcl hbase hlen hcell hrep => simp only [lenV] at hp; cases hp; exact fin _ _ hxv rfl (by simp [Builtin.len_, ru])
    | nil => simp only [lenV] at hp; cases hp; exact fin _ _ hxv rfl (by simp [Builtin.len_, ru])
    | mu blk id off len oc bn q cap hlive hbn hq hlen hsz hoc =>
     simp only [lenV, hrow, hlive, Option.join, Option.isSome, if_true] at hp
     cases hp; exact fin _ _ hxv rfl (by simp [Builtin.len_, ru])
    | mu0 blk id off oc hlive hbn hoc =>
     simp only [lenV, hrow, hlive, Option.join, Option.isSome, if_true] at hp
     cases hp; exact fin _ _ hxv rfl (by simp [Builtin.len_, ru])
    | dead v a' id hr hd h1 =>
     cases sa <;> simp [AV.ref] at hr
     ·subst hr; simp [lenV, hrow, hd] at hp
     ·simp [lenV] at hp
     ·simp [lenV] at hp
    | _ => simp [lenV] at hp
   ·rename_i kt vt hu
    have ru := run_underlying (P := P) hu E.w
    simp only [Option.bind_eq_bind, Option.bind_eq_some_iff] at hc
    obtain ⟨sx, h1, h2⟩ := hc
    cases h2
    simp only [pv, c2J] at hp
    have r1 := a0n he h1
    split at hp
    ·rename_i bs ks vs n e1
     cases hp
     obtain ⟨id, b, _, hv, _, _, us, hb, l1, l2, l3, _⟩ := b0e hok r1 e1
     refine fin _ _ hv rfl ?_
     simp only [Builtin.len_, List.getElem?_toArray, List.getElem?_cons_zero, Sem.run_bind, ru, Result.andThen_ok, List.size_toArray, a0P hb, Sem.run_pure]
     simp [a5O, l1, l3]
    ·cases hp
   ·simp at hc
  ·rename_i x y hcal hargs
   simp only [Option.bind_eq_bind, Option.bind_eq_some_iff] at hc
   obtain ⟨sx, h1, sy, h2, h3⟩ := hc
   cases h3
   exact mnx true x y hcal hargs sx sy h1 h2 rfl
  ·rename_i x y hcal hargs
   simp only [Option.bind_eq_bind, Option.bind_eq_some_iff] at hc
   obtain ⟨sx, h1, sy, h2, h3⟩ := hc
   cases h3
   exact mnx false x y hcal hargs sx sy h1 h2 rfl
  ·simp at hc
 | lookup t m k ok =>
  simp only [a9Y] at hc
  split at hc
  ·rename_i hcond
   simp only [Bool.and_eq_true] at hcond
   obtain ⟨ht, rfl⟩ := hcond
   simp only [Option.bind_eq_bind, Option.bind_eq_some_iff] at hc
   obtain ⟨sm, h1, sk, h2, h3⟩ := hc
   cases h3
   simp only [pv] at hp
   have r1 := a0n he h1
   have r2 := a0n he h2
   split at hp
   ·rename_i L x e1 e2
    cases hp
    obtain ⟨b, hv, hb⟩ := d8p hok r1 e1
    rw [e2] at r2
    have hx := a0F r2
    refine ⟨_, val _ _ (by rw [hv, hx]; exact e1S ht hb x), ?_⟩
    exact .tup [_, _] [_, _] rfl (fun k v a hk ha => by
     rcases k with _ | _ | k
     ·simp at hk ha; subst hk; subst ha; exact .int _ _
     ·simp at hk ha; subst hk; subst ha; exact .bool _
     ·simp at hk)
   ·cases hp
  ·split at hc
   ·rename_i ht
    simp only [Option.bind_eq_bind, Option.bind_eq_some_iff] at hc
    obtain ⟨sm, h1, sk, h2, h3⟩ := hc
    cases h3
    have r1 := a0n he h1
    have r2 := a0n he h2
    simp only [pv, c2J] at hp
    split at hp
    ·rename_i bs ks vs n e1
     obtain ⟨id, b, _, hv, _, _, us, hb, l1, l2, l3, _, _, l4⟩ := b0e hok r1 e1
     cases ok
     ·simp only [Bool.false_eq_true, if_false] at hp
      cases e2 : sk.ev env <;> rw [e2] at hp <;> simp only [Option.some.injEq, reduceCtorEq] at hp
      subst hp
      rename_i k2
      rw [e2] at r2
      have hx := a0O r2
      exact ⟨_, val _ _ (by rw [hv, hx]; exact c9p ht hb l1 l3 k2 false), c9q l1 l3 l2 l4 k2⟩
     ·simp only [if_true] at hp
      cases e2 : sk.ev env <;> rw [e2] at hp <;> simp only [Option.some.injEq, reduceCtorEq] at hp
      subst hp
      rename_i k2
      rw [e2] at r2
      have hx := a0O r2
      refine ⟨_, val _ _ (by rw [hv, hx]; exact c9p ht hb l1 l3 k2 true), ?_⟩
      exact .tup [_, _] [_, _] rfl (fun k v a hk ha => by
       rcases k with _ | _ | k
       ·simp at hk ha; subst hk; subst ha; exact c9q l1 l3 l2 l4 k2
       ·simp at hk ha; subst hk; subst ha; exact .bool _
       ·simp at hk)
    ·cases hp
   ·cases hc
 | entry x =>
  simp only [a9Y, Option.bind_eq_bind, Option.bind_eq_some_iff] at hc
  obtain ⟨sx, h1, h2⟩ := hc
  cases h2
  simp only [pv] at hp
  have r1 := a0n he h1
  split at hp
  ·rename_i mid n seen e1
   split at hp
   ·rename_i L i e2 e3
    split at hp
    ·rename_i hn
     simp only [Option.map_eq_some_iff] at hp
     obtain ⟨p, hp, rfl⟩ := hp
     obtain ⟨b, m, hv, hb, hm⟩ := c7h hok r1 e1
     refine ⟨_, val _ _ (by rw [hv]; exact e5I hb (hm L e2) hn e3 hp), ?_⟩
     exact .tup [_, _] [_, _] rfl (fun k v a hk ha => by
      rcases k with _ | _ | k
      ·simp at hk ha; subst hk; subst ha; exact .int _ _
      ·simp at hk ha; subst hk; subst ha; exact .int _ _
      ·simp at hk)
    ·cases hp
   ·rename_i c e2 e3
    simp only [Option.bind_eq_some_iff] at hp
    obtain ⟨⟨bs, ks, vs, n'⟩, hq, hp⟩ := hp
    simp only at hp
    split at hp
    ·rename_i hn
     subst hn
     obtain ⟨b, m, hv, hb, hm⟩ := e7w hok r1 e1
     obtain ⟨us, g1, g2, g3, g4, _, _, g5⟩ := hm _ _ _ _ hq
     obtain ⟨k, u, f1, f2⟩ := c9u g2 g4 g5 hp
     exact ⟨_, val _ _ (by rw [hv]; exact e0V hb g1 e3 f1), f2⟩
    ·cases hp
   ·cases hp
  ·cases hp
 | _ => simp [a9Y] at hc
end
end Go.Abs
namespace Go.Abs
inductive EOp where
 | store (n : Nat) (a v : Src)
 | box (n : Nat) (v : Src)
 | bsl (wd : Nat) (a2j : List Src)
 | bslm (wd : Nat) (a2j : List Src)
 | mksl (wd bytes : Nat) (zero : AV) (l c : Src)
 | app (wd bytes : Nat) (str : Bool) (a b : Src)
 | cpy (wd : Nat) (a b : Src)
 | mkmap
 | mset (m k v : Src)
 | mrng (m : Src)
 | smut (q : Nat) (m k v : Src)
def upd (x : AV) (wd off n : Nat) (v : AV) : AV := if off = 0 ∧ n = wd then v else .agg (a2w x.cells off v.cells)
noncomputable def clb (a : AV) : Bool := @decide (Cl a) (Classical.propDecidable _)
noncomputable def nref (id : Nat) (a : AV) : Bool := @decide (Ref (· ≠ id) a) (Classical.propDecidable _)
theorem c4U {a : AV} : clb a = true ↔ Cl a := by unfold clb; exact @decide_eq_true_iff _ (Classical.propDecidable _)
theorem a0l {id : Nat} {a : AV} : nref id a = true ↔ Ref (· ≠ id) a := by unfold nref; exact @decide_eq_true_iff _ (Classical.propDecidable _)
noncomputable def scrub (id : Nat) (env : Env) : Env := env.map fun p => (p.1, if nref id p.2 then p.2 else .top)
def Free (H : Heap) (id : Nat) : Prop := ∀ (j : Nat) bj, j ≠ id → H[j]? = some (some bj) → ∀ a ∈ bj.flat, Ref (· ≠ id) a
noncomputable def free (H : Heap) (id : Nat) : Bool := @decide (Free H id) (Classical.propDecidable _)
theorem c1U {H : Heap} {id : Nat} : free H id = true ↔ Free H id := by unfold free; exact @decide_eq_true_iff _ (Classical.propDecidable _)
noncomputable def topd (id : Nat) (a : AV) : AV := if nref id a then a else .top
noncomputable def a3B (id : Nat) (x : AV) : AV := if nref id x then x else match x with
 | .agg cs => .agg (cs.map (topd id))
 | _ => .top
noncomputable def b0f (id : Nat) (b : Blk) : Blk := ⟨b.wd, b.xs.map (a3B id)⟩
noncomputable def a2a (id : Nat) (H : Heap) : Heap := H.map (Option.map (b0f id))
def b3O (s : ByteArray) : List AV := s.data.toList.map fun b => .int .u8 b.toNat
def a0Z (H : Heap) (wd : Nat) (str : Bool) : AV → Option (List AV)
 | .str s => if str then some (b3O s) else none
 | .nil => if str then none else some []
 | .sl wd' xs => if str = false ∧ wd' = wd then some xs else none
 | .mu id off len _ => (hrow H id).bind fun b => if str = false ∧ b.wd = wd ∧ off + len ≤ b.xs.length then some ((b.xs.drop off).take len) else none
 | _ => none
def a1f (oc : Option Nat) (n : Nat) : Option Nat := oc.bind fun c => if n ≤ c then some c else none
noncomputable def b6A (q : Nat) (m k v : AV) (env : Env) (H : Heap) : Option (AV × Env × Heap) := match q with
 | 0 => some (.mp true H.length, env, H ++ [some ⟨0, [.ms [] [] [] 0]⟩])
 | 3 => match m, a2P H m with
  | .mp true id, some (_, _, _, n) => some (.mp false H.length, env, H ++ [some ⟨0, [.io id n []]⟩])
  | _, _ => none
 | 1 => match m, a2P H m, k with
  | .mp true id, some (bs, ks, vs, n), .str k => if v.solid = true ∧ clb v = true then some (.top, env, H.set id (some ⟨0, [match sidx ks k with
    | some i => .ms bs ks (vs.set i v) n
    | none => .ms (bs ++ [n]) (ks ++ [k]) (vs ++ [v]) (n + 1)]⟩)) else none
  | _, _, _ => none
 | 2 => match m, a2P H m, k with
  | .mp true id, some (bs, ks, vs, n), .str k => some (.tup [], env, H.set id (some ⟨0, [match sidx ks k with
    | some i => .ms (bs.eraseIdx i) (ks.eraseIdx i) (vs.eraseIdx i) n
    | none => .ms bs ks vs n]⟩))
  | _, _, _ => none
 | _ => none
noncomputable def ev (n0 : Nat) (o : EOp) (env : Env) (H : Heap) : Option (AV × Env × Heap) :=
 match o with
 | .store n a v => match a.ev env with
  | .loc id i off => (hrow H id).bind fun b =>
    if i < b.xs.length ∧ (v.ev env).fit = true ∧ (v.ev env).cells.length = n ∧ off + n ≤ b.wd then
     some (.top, env, H.set id (some ⟨b.wd, b.xs.set i (upd (b.xs.getD i .top) b.wd off n (v.ev env))⟩)) else none
  | _ => none
 | .box n v => if (v.ev env).fit = true ∧ (v.ev env).cells.length = n ∧ 0 < n then some (.loc H.length 0 0, env, H ++ [some ⟨n, [v.ev env]⟩]) else none
 | .bsl wd ps => if 0 < wd ∧ ps.all (fun s => (s.ev env).fit && decide ((s.ev env).cells.length = wd) && (s.ev env).cells.all clb) then some (.sl wd (ps.map (·.ev env)), env, H) else none
 | .bslm wd ps => if 0 < wd ∧ ps.all (fun s => (s.ev env).fit && decide ((s.ev env).cells.length = wd)) then
   some (.mu H.length 0 ps.length (some ps.length), env, H ++ [some ⟨wd, ps.map (·.ev env)⟩]) else none
 | .mksl wd bytes z l c => match l.ev env, c.ev env with
  | .int _ l, .int _ c => if 0 < wd ∧ 0 ≤ l ∧ l ≤ c ∧ (bytes : Int) * c ≤ 281474976710656 ∧ c ≤ 9223372036854775807 then
    some (.mu H.length 0 l.toNat (some c.toNat), env, H ++ [some ⟨wd, List.replicate l.toNat z⟩]) else none
  | _, _ => none
 | .app wd bytes str a b => (a0Z H wd str (b.ev env)).bind fun ys =>
   match a.ev env with
   | .nil => if 0 < wd ∧ ys.length * bytes ≤ 140737488355328 ∧ ys.length ≤ 9223372036854775807 then some (.mu H.length 0 ys.length none, env, H ++ [some ⟨wd, ys⟩]) else none
   | .mu id off len oc => (hrow H id).bind fun r =>
     if r.wd = wd ∧ off = 0 ∧ len ≤ r.xs.length ∧ n0 ≤ id ∧ 0 < ys.length ∧ (oc.any fun c => decide (len + ys.length ≤ c)) = true then
      some (.mu id 0 (len + ys.length) oc, env, H.set id (some ⟨wd, r.xs.take len ++ ys⟩)) else
     if r.wd = wd ∧ off = 0 ∧ len ≤ r.xs.length ∧ n0 ≤ id ∧ free H id = true ∧ (ys.flatMap AV.cells).all (nref id) = true ∧ (r.xs.flatMap AV.cells).all (nref id) = true ∧
       (len + ys.length) * bytes ≤ 140737488355328 ∧ len + ys.length ≤ 9223372036854775807 then
      some (.mu id 0 (len + ys.length) (a1f oc (len + ys.length)), scrub id env, H.set id (some ⟨wd, r.xs.take len ++ ys⟩)) else
     if r.wd = wd ∧ off + len ≤ r.xs.length ∧ 0 < ys.length ∧ (oc.any fun c => decide (c < len + ys.length)) = true ∧ (len + ys.length) * bytes ≤ 140737488355328 ∧ len + ys.length ≤ 9223372036854775807 then
      some (.mu H.length 0 (len + ys.length) none, env, H ++ [some ⟨wd, (r.xs.drop off).take len ++ ys⟩]) else
     if r.wd = wd ∧ off = 0 ∧ len ≤ r.xs.length ∧ n0 ≤ id ∧ (ys.flatMap AV.cells).all (nref id) = true ∧ r.xs.all (nref id) = true ∧ (len + ys.length) * bytes ≤ 140737488355328 ∧ len + ys.length ≤ 9223372036854775807 then
      some (.mu id 0 (len + ys.length) (a1f oc (len + ys.length)), scrub id env, (a2a id H).set id (some ⟨wd, r.xs.take len ++ ys⟩)) else none
   | _ => none
 | .cpy wd a b => (a0Z H wd false (b.ev env)).bind fun ys =>
   match a.ev env with
   | .mu id off len _ => (hrow H id).bind fun r =>
     if r.wd = wd ∧ off + len ≤ r.xs.length then
      some (.int .i64 (min ys.length len : Nat), env, H.set id (some ⟨wd, r.xs.take off ++ ys.take (min ys.length len) ++ r.xs.drop (off + min ys.length len)⟩)) else none
   | _ => none
 | .mkmap => some (.mp true H.length, env, H ++ [some ⟨0, [.mo []]⟩])
 | .mset m k v => match m.ev env, k.ev env, v.ev env with
  | .mp true id, .int .i64 x, .int .i64 y => (a9W H (.mp true id)).bind fun L =>
    if mget L x = none then some (.top, env, H.set id (some ⟨0, [.mo (L ++ [(x, y)])]⟩)) else none
  | _, _, _ => none
 | .mrng m => match m.ev env with
  | .mp true id => (a9W H (.mp true id)).bind fun L => some (.mp false H.length, env, H ++ [some ⟨0, [.io id L.length []]⟩])
  | _ => none
 | .smut q m k v => b6A q (m.ev env) (k.ev env) (v.ev env) env H
def a3O : Value → AV
 | .agg cs => .agg (cs.toList.map a6V)
 | v => a6V v
def c2u : Value → Bool
 | .agg cs => cs.all (·.oneCell')
 | v => v.oneCell'
def b0i (k : Nat) : List (Nat × Operand) → Option (List Src)
 | [] => some []
 | (i, x) :: r => if i = k then do
   let s ← a0B x
   let r ← b0i (k + 1) r
   some (s :: r) else none
def ceff (P : Program) (mutable : Bool) (o : Op) : Option EOp :=
 match o with
 | .store t a v => do
  let n ← a3X P t
  if 0 < n then some (.store n (← a0B a) (← a0B v)) else none
 | .box t v => do some (.box (← a3X P t) (← a0B v))
 | .alloc t => do
   let i ← P.info? t
   let z ← i.zero
   if c2u z && decide (z.cells.size = i.size) then some (.box i.size (.c (a3O z))) else none
 | .buildSlice t len a2j =>
  match P.underlying t with
  | some (.slice e) => do
   let i ← P.info? e
   let z ← i.zero
   let ps ← b0i 0 a2j.toList
   if z.cells.size = i.size ∧ c2u z = true ∧ ps.length = len ∧ len * i.size ≤ 16777216 then some (if mutable then .bslm i.size ps else .bsl i.size ps) else none
  | _ => none
 | .makeSlice t l c =>
  match P.underlying t with
  | some (.slice e) => do
   let i ← P.info? e
   let z ← i.zero
   if z.cells.size = i.size ∧ c2u z = true then some (.mksl i.size i.bytes (a3O z) (← a0B l) (← a0B c)) else none
  | _ => none
 | .call c =>
  match c.callee, c.args.toList, c.argTypes.toList with
  | .builtin .append, [x, y], [t, u] =>
   match P.underlying t with
   | some (.slice e) => do
    let i ← P.info? e
    let z ← i.zero
    if z.cells.size = i.size ∧ 0 < i.size then
     match P.underlying u with
     | some (.slice _) => some (.app i.size i.bytes false (← a0B x) (← a0B y))
     | some .string => if i.size = 1 then some (.app i.size i.bytes true (← a0B x) (← a0B y)) else none
     | _ => none
    else none
   | _ => none
  | .builtin .copy, [x, y], [t, u] =>
   match P.underlying t with
   | some (.slice e) => do
    let n ← a3X P e
    if 0 < n then some (.cpy n (← a0B x) (← a0B y)) else none
   | _ => none
  | .builtin .delete, [x, y], t :: _ => if b8d P t then do some (.smut 2 (← a0B x) (← a0B y) (.c .nil)) else none
  | _, _, _ => none
 | .makeMap t none => if mapT P t then some .mkmap else if b8d P t then some (.smut 0 (.c .nil) (.c .nil) (.c .nil)) else none
 | .mapUpdate t m k v => if mapT P t then do some (.mset (← a0B m) (← a0B k) (← a0B v)) else if b8d P t then do some (.smut 1 (← a0B m) (← a0B k) (← a0B v)) else none
 | .range t x => if mapT P t then do some (.mrng (← a0B x)) else if b8d P t then do some (.smut 3 (← a0B x) (.c .nil) (.c .nil)) else none
 | _ => none
theorem d3n (E : Emb) {z : Value} (h : c2u z = true) : Rep E z (a3O z) ∧ (a3O z).fit = true ∧ (a3O z).cells.length = z.cells.size := by
 cases z with
 | agg cs =>
  simp only [c2u, Array.all_eq_true] at h
  refine ⟨?_, rfl, by simp [a3O, AV.cells, Value.cells]⟩
  have := Rep.agg (E := E) cs.toList (cs.toList.map a6V) (by simp) (by
   intro v hv
   obtain ⟨k, hk, rfl⟩ := List.getElem_of_mem hv
   simpa using h k (by simpa using hk)) (by
   intro k v a hk ha
   simp at hk ha
   rw [hk] at ha
   simp at ha
   obtain ⟨_, rfl, rfl⟩ := ha
   exact b2N E _)
  simpa [a3O] using this
 | slice a l c =>
  refine ⟨b2N E _, ?_, ?_⟩
  ·simp only [a3O, a6V]; split <;> simp_all [AV.fit, AV.solid, Value.oneCell']
  ·simp only [a3O, a6V]; split <;> simp_all [AV.cells, Value.cells]
 | _ => first | (simp [c2u, Value.oneCell'] at h; done) | exact ⟨b2N E _, by simp [a3O, a6V, AV.fit, AV.solid, Value.oneCell'], by simp [a3O, a6V, AV.cells, Value.cells]⟩
end Go.Abs
namespace Go.Abs
section
variable {P : Program} {E : Emb} {env : Env} {tmps : Array Value}
theorem a0r.mono {E' : Emb} (he : a0r E env tmps) (hx : Ext (· < E.H.length) E E') : a0r E' env tmps := fun t => (he t).mono' hx
theorem a3f (id : Nat) (env : Env) (t : Nat) : look (scrub id env) t = if nref id (look env t) then look env t else .top := by
 induction env with
 | nil => cases h : nref id AV.top <;> simp [scrub, look, h]
 | cons p r ih =>
  obtain ⟨k, v⟩ := p
  simp only [scrub, List.map_cons, look]
  split
  ·rfl
  ·exact ih
theorem a0r.scrub {E' : Emb} {id : Nat} (he : a0r E env tmps) (hx : Ext (· ≠ id) E E') : a0r E' (Abs.scrub id env) tmps := by
 intro t
 rw [a3f]
 split
 ·rename_i h; exact (he t).mono hx (a0l.1 h)
 ·exact .top _
theorem d7l (hok : HOk E) {wd : Nat} {tx : TypeId} {str : Bool} (hk : (str = false ∧ ∃ e', P.underlying tx = some (.slice e')) ∨ (str = true ∧ P.underlying tx = some .string ∧ wd = 1))
  {v : Value} {a : AV} (hr : Rep E v a) {ys : List AV} (h : a0Z E.H wd str a = some ys) :
  ∃ news : List Value, Go.Src P wd tx v ys.length news E.w ∧ (∀ y ∈ ys, y.cells.length = wd) ∧ news.length = (ys.flatMap AV.cells).length ∧
   ∀ (k : Nat) u b, news[k]? = some u → (ys.flatMap AV.cells)[k]? = some b → Rep E u b := by
 cases hr with
 | str s =>
  simp only [a0Z] at h
  split at h
  ·rename_i hs
   cases h
   rcases hk with ⟨h1, _⟩ | ⟨_, hk, rfl⟩
   ·rw [hs] at h1; cases h1
   ·have hfl : (b3O s).flatMap AV.cells = b3O s := by
     unfold b3O
     generalize s.data.toList = l
     induction l with
     | nil => rfl
     | cons b l ih => simp only [List.map_cons, List.flatMap_cons, ih]; rfl
    have hln : (b3O s).length = s.size := by unfold b3O; rw [List.length_map, Array.length_toList]; rfl
    refine ⟨byteCells s, by rw [hln]; exact Go.Src.ofString E.w hk s, ?_, ?_, ?_⟩
    ·intro y hy
     unfold b3O at hy
     obtain ⟨b, _, rfl⟩ := List.mem_map.1 hy
     rfl
    ·rw [hfl, hln, byteCells_length]
    ·intro k u b hk hb
     rw [hfl] at hb
     unfold byteCells at hk
     unfold b3O at hb
     rw [List.getElem?_map] at hk hb
     cases hx : s.data.toList[k]? with
     | none => simp [hx] at hk
     | some c => simp [hx] at hk hb; subst hk; subst hb; exact .int _ _
  ·simp at h
 | nil =>
  simp only [a0Z] at h
  split at h
  ·simp at h
  ·rename_i hs
   cases h
   rcases hk with ⟨_, e', hk⟩ | ⟨h1, _⟩
   ·exact ⟨[], Go.Src.ofNil E.w hk 0, by simp, rfl, fun k u b hk => by simp at hk⟩
   ·exact absurd h1 hs
 | sl base cap wd' xs vs b o hcap hpos hw hcl hbase hlen hcell hrep =>
  simp only [a0Z] at h
  split at h
  ·rename_i hs
   cases h
   obtain ⟨hs, rfl⟩ := hs
   rcases hk with ⟨_, e', hk⟩ | ⟨h1, _⟩
   ·have hfl := a1s hw
    rcases hbase with rfl | ⟨rfl, hm⟩
    ·simp at hlen; subst hlen
     refine ⟨[], ?_, by simp, rfl, fun k u b hk => by simp at hk⟩
     cases base with
     | none => exact Go.Src.ofNil E.w hk cap
     | some ad => exact Go.Src.ofSlice E.w hk ad 0 cap [] (by simp) (fun j u hj => by simp at hj) (fun u hu => by simp at hu)
    ·refine ⟨vs, Go.Src.ofSlice E.w hk ⟨b, o, none⟩ _ cap vs (by rw [hlen, hfl]) (fun j u hj => by rw [Addr.add_lit]; exact (hcell j u hj).1) ?_, hw, hlen, hrep⟩
     intro u hu
     obtain ⟨k, hk, rfl⟩ := List.getElem_of_mem hu
     exact (hcell k _ (List.getElem?_eq_getElem hk)).2
   ·rw [hs] at h1; cases h1
  ·simp at h
 | mu blk id off len oc bn q cap hlive hbn hq hlen hsz hoc =>
  simp only [a0Z, Option.bind_eq_some_iff] at h
  obtain ⟨blk', hb', h⟩ := h
  have hb2 := a0N hb'
  rw [hlive] at hb2; cases hb2
  split at h
  ·rename_i hs
   cases h
   obtain ⟨hs, hwd, hle⟩ := hs
   rcases hk with ⟨_, e', hk⟩ | ⟨h1, _⟩
   ·have hw := hok.wids id blk hlive
    have hfl : blk.flat.length = blk.xs.length * blk.wd := a1s hw
    obtain ⟨c, e, r⟩ := hok.row id blk bn hlive hbn
    subst hwd
    have hl : ((blk.xs.drop off).take len).length = len := by simp; omega
    have hf : ((blk.xs.drop off).take len).flatMap AV.cells = (blk.flat.drop (off * blk.wd)).take (len * blk.wd) := by
     rw [a6K (wd := blk.wd) (fun x hx => hw x (List.mem_of_mem_drop hx)), b3J hw]; rfl
    have hmul : (off + len) * blk.wd ≤ blk.xs.length * blk.wd := Nat.mul_le_mul_right _ hle
    have hmul' : (off + len) * blk.wd = off * blk.wd + len * blk.wd := Nat.add_mul ..
    have hfit := r.fits
    have hnl : ((c.toList.drop (off * blk.wd)).take (len * blk.wd)).length = len * blk.wd := by
     rw [List.length_take, List.length_drop, Array.length_toList]; omega
    have one : ∀ u ∈ (c.toList.drop (off * blk.wd)).take (len * blk.wd), u.oneCell' = true := by
     intro u hu
     obtain ⟨k, hk, rfl⟩ := List.getElem_of_mem hu
     rw [hnl] at hk
     refine r.one (off * blk.wd + k) _ (by omega) ?_
     rw [List.getElem_take, List.getElem_drop]
     simp
    refine ⟨(c.toList.drop (off * blk.wd)).take (len * blk.wd), ?_, fun y hy => hw y (List.mem_of_mem_drop (List.mem_of_mem_take hy)), ?_, ?_⟩
    ·rw [hl]
     by_cases hz : len = 0
     ·subst hz
      exact Go.Src.ofSlice E.w hk _ 0 cap _ (by simp) (fun j u hj => by simp at hj) (fun u hu => by simp at hu)
     ·have hq' : q = off * blk.wd := hq.resolve_right (by omega)
      refine Go.Src.ofSlice E.w hk _ len cap _ hnl (fun j u hj => ?_) one
      rw [Addr.add_lit, hq']
      rw [List.getElem?_take] at hj
      split at hj
      ·rename_i hlt
       have h0 : 0 < blk.wd := Nat.pos_of_ne_zero (fun h => by simp [h] at hlt)
       rw [cell_of_row _ _ _ _ _ _ (r.heap h0)]
       simpa using hj
      ·simp at hj
    ·rw [hf, hnl, List.length_take, List.length_drop]; omega
    ·intro k u b hku hkb
     rw [hf] at hkb
     rw [List.getElem?_take] at hku hkb
     split at hku
     ·rename_i hlt
      simp only [hlt, if_true] at hkb
      rw [List.getElem?_drop] at hku hkb
      exact r.rep _ u b (by simpa using hku) hkb
     ·simp at hku
   ·rw [hs] at h1; cases h1
  ·simp at h
 | mu0 blk id off oc hlive hbn hoc =>
  simp only [a0Z, Option.bind_eq_some_iff] at h
  obtain ⟨blk', hb', h⟩ := h
  split at h
  ·rename_i hs
   cases h
   rcases hk with ⟨_, e', hk⟩ | ⟨h1, _⟩
   ·simp only [List.take_zero]
    exact ⟨[], Go.Src.ofNil E.w hk 0, by simp, rfl, fun k u b hk => by simp at hk⟩
   ·rw [hs.1] at h1; cases h1
  ·simp at h
 | dead v a id hr hd h1 =>
  cases a <;> simp [AV.ref] at hr
  ·subst hr; simp [a0Z, hrow, hd] at h
  ·simp [a0Z] at h
  ·simp [a0Z] at h
 | _ => simp [a0Z] at h
theorem a8u (w : World) (t tx ty e : TypeId) (i : TypeInfo) (ht : P.underlying t = some (.slice e)) (hi : P.info? e = some i) (g sLen sCap : Nat) (cur : Array Value) (et : TypeId)
  (hg : w.heap[g]? = some (.cells cur et (0, 0))) (x : Value) (n : Nat) (news : List Value) (hs : Go.Src P i.size tx x n news w)
  (hroom : sLen + n ≤ sCap) (hfit : sLen * i.size + news.length ≤ cur.size) :
  (Builtin.append_ #[t, tx] ty #[.slice (some ⟨g, 0, none⟩) sLen sCap, x]).run P w =
   .ok (.slice (some ⟨g, 0, none⟩) (sLen + n) sCap) (w.setRow g (cur.toList.take (sLen * i.size) ++ news ++ cur.toList.drop (sLen * i.size + news.length)).toArray) := by
 have hst := run_storeCells_at P g (sLen * i.size) et news 0 cur w hg (by simpa using hfit) hs.one
 simp only [Nat.add_zero] at hst
 rcases hs.kind with ⟨e', hk⟩ | hk <;> simp [Builtin.append_, run_underlying ht, run_underlying hk, sizeOf, typeInfo, hi, hs.len, hroom, hs.cells, Addr.add_lit, hst]
theorem b5j (w : World) (t tx ty e : TypeId) (i : TypeInfo) (ht : P.underlying t = some (.slice e)) (hi : P.info? e = some i)
  (x : Value) (hs : Go.Src P i.size tx x 0 [] w) :
  (Builtin.append_ #[t, tx] ty #[.slice none 0 0, x]).run P w = .ok (.slice none 0 0) w := by
 rcases hs.kind with ⟨e', hk⟩ | hk <;> simp [Builtin.append_, run_underlying ht, run_underlying hk, sizeOf, typeInfo, hi, hs.len, hs.cells]
def Left (P : Program) (n0 : Nat) (E : Emb) (tmps : Array Value) (s : Sem Next) (a : AV) (env' : Env) (H' : Heap) : Prop :=
 ∃ φ' w' nx v, s.run P E.w = .ok nx w' ∧ (nx = .value v ∨ (nx = .skip ∧ v = undef)) ∧ HOk ⟨φ', H', w'⟩ ∧ Rep ⟨φ', H', w'⟩ v a ∧ a0r ⟨φ', H', w'⟩ env' tmps ∧ Ext (· < n0) E ⟨φ', H', w'⟩
theorem a2o {s : Sem Value} {w w' : World} {v : Value} (hs : s.run P w = .ok v w') : (do pure (Next.value (← s)) : Sem Next).run P w = .ok (.value v) w' := by simp [hs]
theorem a1t (w : World) (o : Obj) : ∀ b, b < w.heap.size → (w.alloc o).heap[b]? = w.heap[b]? := fun b hb => by
 show (w.heap.push o)[b]? = _
 rw [Array.getElem?_push, if_neg (by omega)]
theorem c2T {n0 : Nat} (hn : n0 ≤ E.H.length) (hok : HOk E) (he : a0r E env tmps) {w : World} (os : w.os = E.w.os) (tape : w.tape = E.w.tape) (out : w.output = E.w.output) (size : E.w.heap.size ≤ w.heap.size)
  (keep : ∀ b, b < E.w.heap.size → w.heap[b]? = E.w.heap[b]?) (b : Nat) (hb : E.w.heap.size ≤ b) (blk : Blk) (hpos : 0 < blk.wd) (hw : ∀ x ∈ blk.xs, x.cells.length = blk.wd) {c : Array Value} {e : TypeId}
  (hh : w.heap[b]? = some (.cells c e (0, 0))) (hfit : blk.flat.length ≤ c.size)
  (hnew : ∀ (k : Nat) v a, c[k]? = some v → blk.flat[k]? = some a → v.oneCell' = true ∧ Rep E v a) :
  ∃ φ', HOk ⟨φ', E.H ++ [some blk], w⟩ ∧ a0r ⟨φ', E.H ++ [some blk], w⟩ env tmps ∧ Ext (· < n0) E ⟨φ', E.H ++ [some blk], w⟩ ∧ φ' E.H.length = some b ∧ (E.H ++ [some blk])[E.H.length]? = some (some blk) := by
 obtain ⟨h1, h2⟩ := hok.alloc os tape out size (some b) (fun b' hb' => by cases hb'; exact hb) keep blk hpos hw (.inr ⟨b, c, e, rfl, hh, hfit, hnew⟩)
 exact ⟨_, h1, he.mono h2, h2.sub (fun i hi => Nat.lt_of_lt_of_le hi hn), by simp, by simp⟩
theorem d4o {n0 : Nat} (hn : n0 ≤ E.H.length) (hok : HOk E) (he : a0r E env tmps) (t : TypeId) {x : Value} {a : AV} (hr : Rep E x a) (hf : a.fit = true) {n : Nat} (hl : a.cells.length = n) (hpos : 0 < n) :
  Left P n0 E tmps (do pure (Next.value (← Instr.box t x))) (.loc E.H.length 0 0) env (E.H ++ [some ⟨n, [a]⟩]) := by
 obtain ⟨q1, q2, q3⟩ := b0h hr hf
 have hflat : (⟨n, [a]⟩ : Blk).flat = a.cells := by simp [Blk.flat]
 obtain ⟨φ', h1, h2, h3, h4, h5⟩ := c2T (env := env) (tmps := tmps) (n0 := n0) hn hok he (w := E.w.alloc (.cells x.cells t)) rfl rfl rfl (by simp) (a1t _ _) E.w.heap.size (Nat.le_refl _) ⟨n, [a]⟩ hpos
  (by simpa using hl) (c := x.cells) (e := t) (heap_alloc_new _ _) (by rw [hflat, ← q1]; simp)
  (fun k v b hv hb => by
   rw [hflat] at hb
   have hv' : x.cells.toList[k]? = some v := by simpa using hv
   exact ⟨q2 v (List.mem_of_getElem? hv'), q3 k v b hv' hb⟩)
 refine ⟨φ', _, _, .pointer (some ⟨E.w.heap.size, 0, none⟩), a2o ?_, .inl rfl, h1, ?_, h2, h3⟩
 ·simp [Instr.box, newVar, newRow]
 ·have := Rep.loc (E := ⟨φ', E.H ++ [some ⟨n, [a]⟩], E.w.alloc (.cells x.cells t)⟩) ⟨n, [a]⟩ E.H.length 0 0 E.w.heap.size h5 h4
  simpa using this
theorem d6S {x v : AV} {wd off n : Nat} (hx : x.cells.length = wd) (hv : v.cells.length = n) (hle : off + n ≤ wd) : (upd x wd off n v).cells = a2w x.cells off v.cells := by
 unfold upd
 split
 ·rename_i h
  obtain ⟨rfl, rfl⟩ := h
  unfold a2w
  rw [List.take_zero, List.drop_eq_nil_of_le (by omega)]; simp
 ·rfl
theorem e2l {xs : List AV} {wd : Nat} (h : ∀ x ∈ xs, x.cells.length = wd) {i : Nat} (hi : i < xs.length) {y : AV} (hy : y.cells.length = wd) :
  (xs.set i y).flatMap AV.cells = a2w (xs.flatMap AV.cells) (i * wd) y.cells := by
 induction xs generalizing i with
 | nil => simp at hi
 | cons x xs ih =>
  have hx := h x (by simp)
  cases i with
  | zero =>
   simp only [List.set_cons_zero, List.flatMap_cons, a2w, Nat.zero_mul, List.take_zero, List.nil_append, Nat.zero_add]
   rw [hy, ← hx, List.drop_left]
  | succ i =>
   simp only [List.set_cons_succ, List.flatMap_cons]
   rw [ih (fun z hz => h z (by simp [hz])) (by simpa using hi)]
   unfold a2w
   have e : (i + 1) * wd = x.cells.length + i * wd := by rw [hx, Nat.add_mul]; omega
   rw [e, List.take_length_add_append, Nat.add_assoc, List.drop_length_add_append]
   simp [List.append_assoc]
theorem c7G {cs aXs bs : List AV} {p off : Nat} (hp : p + aXs.length ≤ cs.length) (h : (cs.drop p).take aXs.length = aXs) (hoff : off + bs.length ≤ aXs.length) :
  a2w cs p (a2w aXs off bs) = a2w cs (p + off) bs := by
 have e1 : cs = cs.take p ++ (aXs ++ cs.drop (p + aXs.length)) := by
  conv => lhs; rw [← List.take_append_drop p cs, ← List.take_append_drop aXs.length (cs.drop p), h]
  simp [List.append_assoc, List.drop_drop]
 have l1 : (a2w aXs off bs).length = aXs.length := by simp [a2w]; omega
 have lp : (cs.take p).length = p := by simp; omega
 generalize cs.take p = c1 at e1 lp
 generalize cs.drop (p + aXs.length) = c2 at e1
 subst e1
 subst lp
 unfold a2w at l1 ⊢
 rw [l1]
 have a1 : (c1 ++ (aXs ++ c2)).take c1.length = c1 := List.take_left
 have a2 : (c1 ++ (aXs ++ c2)).drop (c1.length + aXs.length) = c2 := by rw [List.drop_length_add_append]; exact List.drop_left
 have a3 : (c1 ++ (aXs ++ c2)).take (c1.length + off) = c1 ++ aXs.take off := by rw [List.take_length_add_append, List.take_append_of_le_length (by omega)]
 have a4 : (c1 ++ (aXs ++ c2)).drop (c1.length + off + bs.length) = aXs.drop (off + bs.length) ++ c2 := by
  rw [Nat.add_assoc, List.drop_length_add_append, List.drop_append_of_le_length (by omega)]
 rw [a1, a2, a3, a4]
 simp [List.append_assoc]
theorem d4Y {n0 : Nat} (hn : n0 ≤ E.H.length) (hok : HOk E) (he : a0r E env tmps) {t : TypeId} {p x : Value} {id i off n : Nat} {a : AV} (hp : Rep E p (.loc id i off)) (hr : Rep E x a) (hs : a3X P t = some n) (hn0 : 0 < n)
  {blk : Blk} (hb : hrow E.H id = some blk) (hi : i < blk.xs.length) (hf : a.fit = true) (hl : a.cells.length = n) (hle : off + n ≤ blk.wd) :
  Left P n0 E tmps (do Instr.storeAt t p x; pure .skip) .top env (E.H.set id (some ⟨blk.wd, blk.xs.set i (upd (blk.xs.getD i .top) blk.wd off n a)⟩)) := by
 have hlive := a0N hb
 unfold a3X at hs
 simp only [Option.map_eq_some_iff] at hs
 obtain ⟨inf, hinf, hsz⟩ := hs
 cases hp with
 | loc blk' _ _ _ bn hlive' hbn =>
  rw [hlive] at hlive'; cases hlive'
  obtain ⟨q1, q2, q3⟩ := b0h hr hf
  obtain ⟨c, e, r⟩ := hok.row id blk bn hlive hbn
  have hw := hok.wids id blk hlive
  have hxl : (blk.xs.getD i .top).cells.length = blk.wd := hw _ (c1S hi)
  have huc := d6S hxl hl hle
  have hul : (upd (blk.xs.getD i .top) blk.wd off n a).cells.length = blk.wd := by rw [huc]; simp only [a2w, List.length_append, List.length_take, List.length_drop]; omega
  have hfl : blk.flat.length = blk.xs.length * blk.wd := a1s hw
  have hmul : (i + 1) * blk.wd ≤ blk.xs.length * blk.wd := Nat.mul_le_mul_right _ hi
  have hmul' : (i + 1) * blk.wd = i * blk.wd + blk.wd := by rw [Nat.add_mul]; omega
  have hfits := r.fits
  have hat : (blk.flat.drop (i * blk.wd)).take (blk.xs.getD i .top).cells.length = (blk.xs.getD i .top).cells := by
   apply List.ext_getElem?
   intro k
   rw [List.getElem?_take, List.getElem?_drop, hxl]
   split
   ·rename_i hk; exact c1V hw hi k hk
   ·rename_i hk; rw [List.getElem?_eq_none (by omega)]
  have hflat' : (blk.xs.set i (upd (blk.xs.getD i .top) blk.wd off n a)).flatMap AV.cells = a2w blk.flat (i * blk.wd + off) a.cells := by
   rw [e2l hw hi hul, huc]
   exact c7G (by rw [hxl]; show _ ≤ blk.flat.length; omega) hat (by omega)
  have hst := run_storeCells_at P bn (i * blk.wd + off) e x.cells.toList 0 c E.w (r.heap (by omega)) (by rw [q1]; omega) q2
  simp only [Nat.add_zero] at hst
  have hsp : a2w blk.flat (i * blk.wd + off) a.cells = blk.flat.take (i * blk.wd + off) ++ a.cells ++ blk.flat.drop (i * blk.wd + off + a.cells.length) := rfl
  obtain ⟨h1, h2⟩ := hok.write hlive hbn (by omega) r (c.toList.take (i * blk.wd + off) ++ x.cells.toList ++ c.toList.drop (i * blk.wd + off + x.cells.toList.length)).toArray
   (blk.xs.set i (upd (blk.xs.getD i .top) blk.wd off n a)) (by simp; simp at q1; omega)
   (fun y hy => by
    rcases List.mem_or_eq_of_mem_set hy with hy | rfl
    ·exact hw y hy
    ·exact hul)
   (by rw [hflat', hsp]; simp; simp at q1; omega)
   (fun k v b hv hb => by
    rw [hflat', hsp, List.append_assoc] at hb
    have hv' : (c.toList.take (i * blk.wd + off) ++ (x.cells.toList ++ c.toList.drop (i * blk.wd + off + x.cells.toList.length)))[k]? = some v := by simpa [List.append_assoc] using hv
    have tc : (c.toList.take (i * blk.wd + off)).length = i * blk.wd + off := by simp; omega
    have tf : (blk.flat.take (i * blk.wd + off)).length = i * blk.wd + off := by simp; omega
    rcases Nat.lt_or_ge k (i * blk.wd + off) with hk | hk
    ·rw [List.getElem?_append_left (by omega)] at hv' hb
     rw [List.getElem?_take] at hv' hb
     simp only [hk, if_true] at hv' hb
     have hv'' : c[k]? = some v := by simpa using hv'
     exact ⟨r.one k v (by omega) hv'', r.rep k v b hv'' hb⟩
    ·rw [List.getElem?_append_right (by omega), tc] at hv'
     rw [List.getElem?_append_right (by omega), tf] at hb
     rcases Nat.lt_or_ge (k - (i * blk.wd + off)) x.cells.toList.length with hk' | hk'
     ·rw [List.getElem?_append_left hk'] at hv'
      rw [List.getElem?_append_left (by omega)] at hb
      exact ⟨q2 v (List.mem_of_getElem? hv'), q3 _ v b hv' hb⟩
     ·rw [List.getElem?_append_right hk'] at hv'
      rw [List.getElem?_append_right (by omega)] at hb
      rw [List.getElem?_drop] at hv' hb
      rw [q1] at hv'
      have hv'' : c[i * blk.wd + off + a.cells.length + (k - (i * blk.wd + off) - a.cells.length)]? = some v := by simpa using hv'
      exact ⟨r.one _ v (a0i hb) hv'', r.rep _ v b hv'' hb⟩)
  refine ⟨E.φ, _, .skip, undef, ?_, .inr ⟨rfl, rfl⟩, h1, .top _, he.mono h2, h2.sub (fun j hj => Nat.lt_of_lt_of_le hj hn)⟩
  have hsz' : x.cells.size = inf.size := by rw [← Array.length_toList, q1, hl, hsz]
  simp [Instr.storeAt, Instr.sureAddr, storeVar, sizeOf, typeInfo, hinf, hsz', hst]
 | dead v a id' hr' hd h1 =>
  simp [AV.ref] at hr'; subst hr'
  rw [hlive] at hd; cases hd
end
end Go.Abs
namespace Go.Abs
section
variable {P : Program} {E : Emb} {env : Env} {tmps : Array Value}
theorem c4M (wd : Nat) : ∀ (vals : List Value) (k : Nat) (zs : Array Value), (∀ v ∈ vals, v.cells.size = wd) → k * wd + vals.length * wd ≤ zs.size →
  ∃ us : Array Value, Instr.fill (fun i => some (i * wd, wd)) zs ((vals.zipIdx k).map fun p => (p.2, p.1)) = some us ∧
   us.toList = zs.toList.take (k * wd) ++ vals.flatMap (·.cells.toList) ++ zs.toList.drop (k * wd + vals.length * wd)
 | [], k, zs, hv, hs => ⟨zs, rfl, by simp⟩
 | v :: vals, k, zs, hv, hs => by
  have hv0 := hv v (by simp)
  have e1 : (vals.length + 1) * wd = vals.length * wd + wd := by rw [Nat.add_mul]; omega
  have e2 : (k + 1) * wd = k * wd + wd := by rw [Nat.add_mul]; omega
  simp only [List.length_cons] at hs
  have hf := b3I (k * wd) v.cells.toList 0 zs (by rw [Array.length_toList, hv0]; omega)
  simp only [Nat.add_zero, Array.length_toList, hv0] at hf
  have hz : (v.cells.zipIdx.foldl (fun cs (p : Value × Nat) => cs.setIfInBounds (k * wd + p.2) p.1) zs) = (v.cells.toList.zipIdx.foldl (fun cs (p : Value × Nat) => cs.setIfInBounds (k * wd + p.2) p.1) zs) := by
   rw [← Array.foldl_toList, Array.toList_zipIdx]
  have hsz : (v.cells.toList.zipIdx.foldl (fun cs (p : Value × Nat) => cs.setIfInBounds (k * wd + p.2) p.1) zs).size = zs.size := by
   rw [← Array.length_toList, hf]
   simp only [List.length_append, List.length_take, List.length_drop, Array.length_toList, hv0]; omega
  obtain ⟨us, g1, g2⟩ := c4M wd vals (k + 1) (v.cells.toList.zipIdx.foldl (fun cs (p : Value × Nat) => cs.setIfInBounds (k * wd + p.2) p.1) zs) (fun u hu => hv u (by simp [hu])) (by rw [hsz]; omega)
  refine ⟨us, ?_, ?_⟩
  ·simp only [List.zipIdx_cons, List.map_cons, Instr.fill]
   rw [if_neg (by simp [hv0]; omega)]
   exact (congrArg (fun z => Instr.fill _ z _) hz).trans g1
  ·rw [g2, hf]
   have t1 : (zs.toList.take (k * wd) ++ v.cells.toList).length = (k + 1) * wd := by
    simp only [List.length_append, List.length_take, Array.length_toList, hv0]; omega
   rw [List.take_append_of_le_length (by omega), List.take_of_length_le (by omega)]
   rw [List.drop_append, t1, List.drop_drop, List.drop_eq_nil_of_le (by rw [t1]; omega)]
   simp only [List.flatMap_cons, List.nil_append, List.append_assoc, List.length_cons]
   congr 4
   omega
theorem d4d : ∀ {vals : List Value} {aXs : List AV}, vals.length = aXs.length → (∀ (k : Nat) v a, vals[k]? = some v → aXs[k]? = some a → Rep E v a) → (∀ a ∈ aXs, a.fit = true) →
  (vals.flatMap (·.cells.toList)).length = (aXs.flatMap AV.cells).length ∧ (∀ u ∈ vals.flatMap (·.cells.toList), u.oneCell' = true) ∧
  ∀ (k : Nat) u b, (vals.flatMap (·.cells.toList))[k]? = some u → (aXs.flatMap AV.cells)[k]? = some b → Rep E u b
 | [], [], _, _, _ => ⟨rfl, by simp, fun k u b h => by simp at h⟩
 | v :: vals, a :: aXs, hl, hr, hf => by
  obtain ⟨q1, q2, q3⟩ := b0h (hr 0 v a rfl rfl) (hf a (by simp))
  obtain ⟨r1, r2, r3⟩ := d4d (vals := vals) (aXs := aXs) (by simpa using hl) (fun k v a h1 h2 => hr (k + 1) v a (by simpa using h1) (by simpa using h2)) (fun b hb => hf b (by simp [hb]))
  simp only [List.flatMap_cons]
  refine ⟨by rw [List.length_append, List.length_append, q1, r1], ?_, ?_⟩
  ·intro u hu
   rcases List.mem_append.1 hu with hu | hu
   ·exact q2 u hu
   ·exact r2 u hu
  ·intro k u b hu hb
   rcases Nat.lt_or_ge k v.cells.toList.length with hk | hk
   ·rw [List.getElem?_append_left hk] at hu
    rw [List.getElem?_append_left (by omega)] at hb
    exact q3 k u b hu hb
   ·rw [List.getElem?_append_right hk] at hu
    rw [List.getElem?_append_right (by omega), ← q1] at hb
    exact r3 _ u b hu hb
theorem c5O : ∀ {a2j : List (Nat × Operand)} {k : Nat} {ps : List Src}, b0i k a2j = some ps →
  a2j = ((a2j.map (·.2)).zipIdx k).map (fun p => (p.2, p.1)) ∧ srcs (a2j.map (·.2)) = some ps
 | [], k, ps, h => by simp [b0i] at h; subst h; exact ⟨rfl, rfl⟩
 | (i, x) :: r, k, ps, h => by
  simp only [b0i] at h
  split at h
  ·rename_i hi
   simp only [Option.bind_eq_bind, Option.bind_eq_some_iff] at h
   obtain ⟨s, h1, r', h2, h3⟩ := h
   cases h3
   obtain ⟨g1, g2⟩ := c5O h2
   refine ⟨?_, ?_⟩
   ·simp only [List.map_cons, List.zipIdx_cons]
    rw [← g1, hi]
   ·simp only [List.map_cons, srcs, h1, g2]; rfl
  ·simp at h
theorem c5r (t : TypeId) (e : TypeId) (i : TypeInfo) (z : Value) (ht : P.underlying t = some (.slice e)) (hi : P.info? e = some i) (hz : i.zero = some z) (hzs : z.cells.size = i.size)
  (w : World) (vals : List Value) (hv : ∀ v ∈ vals, v.cells.size = i.size) (hcap : vals.length * i.size ≤ 16777216) :
  (Instr.buildSlice t vals.length ((vals.zipIdx.map fun p => (p.2, p.1)).toArray)).run P w =
   .ok (.slice (some ⟨w.heap.size, 0, none⟩) vals.length vals.length) (w.alloc (.cells (vals.flatMap (·.cells.toList)).toArray e)) := by
 have hn : ¬ (16777216 < vals.length * i.size) := by omega
 by_cases h0 : vals.length * i.size = 0
 ·obtain ⟨us, g1, g2⟩ := c4M i.size vals 0 ((Array.range (vals.length * i.size)).map ((#[] : Array Value)[· % 0]!)) hv (by simp)
  have hus : us = (vals.flatMap (·.cells.toList)).toArray := by
   apply Array.ext'
   rw [g2]
   simp [h0]
  have g1' : Instr.fill (fun i_1 => some (i_1 * i.size, i.size)) #[] (List.map (fun p => (p.snd, p.fst)) vals.zipIdx) = some us := by
   rw [← g1]; congr 1; simp [h0]
  simp only [Instr.buildSlice, Sem.run_bind, run_underlying ht, Result.andThen_ok, sizeOf, typeInfo, run_program, hi, Sem.run_pure, h0]
  simp [g1', newRow, hus, show Array.range 0 = #[] from rfl]
 ·obtain ⟨us, g1, g2⟩ := c4M i.size vals 0 ((Array.range (vals.length * i.size)).map (z.cells[· % z.cells.size]!)) hv (by simp)
  have hus : us = (vals.flatMap (·.cells.toList)).toArray := by
   apply Array.ext'
   rw [g2]
   simp only [Nat.zero_mul, List.take_zero, List.nil_append, Nat.zero_add]
   rw [List.drop_eq_nil_of_le (by simp)]; simp
  simp only [Instr.buildSlice, Sem.run_bind, run_underlying ht, Result.andThen_ok, sizeOf, typeInfo, run_program, hi, Sem.run_pure, h0, zeroValue, hz]
  simp only [hzs] at g1
  simp [hn, h0, hi, hz, hzs, g1, newRow, hus]
theorem c2h (xs : List Operand) (f : Operand → Value) (k : Nat) : (((xs.zipIdx k).map (fun p => (p.2, p.1))).map fun p => (p.1, f p.2)) = ((xs.map f).zipIdx k).map (fun p => (p.2, p.1)) := by
 induction xs generalizing k with
 | nil => rfl
 | cons x xs ih => simp only [List.zipIdx_cons, List.map_cons, ih]
theorem e2J {n0 : Nat} (hn : n0 ≤ E.H.length) (hok : HOk E) (he : a0r E env tmps) {t e : TypeId} {i : TypeInfo} {z : Value} (ht : P.underlying t = some (.slice e)) (hi : P.info? e = some i) (hz : i.zero = some z)
  (hzs : z.cells.size = i.size) {a2j : Array (Nat × Operand)} {ps : List Src} (hp : b0i 0 a2j.toList = some ps) (hcap : ps.length * i.size ≤ 16777216) (hpos : 0 < i.size)
  (hfit : ∀ s ∈ ps, (s.ev env).fit = true ∧ (s.ev env).cells.length = i.size) :
  (Left P n0 E tmps (do pure (Next.value (← Instr.buildSlice t ps.length (a2j.map fun (i, x) => (i, Act.eval ⟨tmps, []⟩ x))))) (.mu E.H.length 0 ps.length (some ps.length)) env (E.H ++ [some ⟨i.size, ps.map (·.ev env)⟩])) ∧
  ((∀ s ∈ ps, ∀ c ∈ (s.ev env).cells, Cl c) → Left P n0 E tmps (do pure (Next.value (← Instr.buildSlice t ps.length (a2j.map fun (i, x) => (i, Act.eval ⟨tmps, []⟩ x))))) (.sl i.size (ps.map (·.ev env))) env E.H) := by
 obtain ⟨g1, g2⟩ := c5O hp
 obtain ⟨hl, hr⟩ := a6a he g2
 have hl' : (a2j.toList.map (·.2)).length = ps.length := hl.symm
 obtain ⟨q1, q2, q3⟩ := d4d (vals := (a2j.toList.map (·.2)).map (Act.eval ⟨tmps, []⟩)) (aXs := ps.map (·.ev env)) (by simp at hl' ⊢; omega) hr (by
  intro a ha
  obtain ⟨s, hs, rfl⟩ := List.mem_map.1 ha
  exact (hfit s hs).1)
 have hv : ∀ v ∈ (a2j.toList.map (·.2)).map (Act.eval ⟨tmps, []⟩), v.cells.size = i.size := by
  intro v hv
  obtain ⟨k, hk, rfl⟩ := List.getElem_of_mem hv
  have hk' : k < ps.length := by simp at hk hl'; omega
  have := b0h (hr k _ _ (List.getElem?_eq_getElem hk) (by rw [List.getElem?_map, List.getElem?_eq_getElem hk']; rfl)) (hfit _ (List.getElem_mem hk')).1
  rw [← Array.length_toList, this.1, (hfit _ (List.getElem_mem hk')).2]
 have hlen : ((a2j.toList.map (·.2)).map (Act.eval ⟨tmps, []⟩)).length = ps.length := by simp at hl' ⊢; omega
 have hrun := c5r (P := P) t e i z ht hi hz hzs E.w _ hv (by rw [hlen]; exact hcap)
 rw [hlen] at hrun
 have harr : (a2j.map fun (i, x) => (i, Act.eval ⟨tmps, []⟩ x)) = (((((a2j.toList.map (·.2)).map (Act.eval ⟨tmps, []⟩)).zipIdx).map fun p => (p.2, p.1)).toArray) := by
  rw [← c2h, ← g1]
  apply Array.ext'
  simp
 rw [harr]
 have hw : ∀ x ∈ ps.map (·.ev env), x.cells.length = i.size := by
  intro x hx
  obtain ⟨s, hs, rfl⟩ := List.mem_map.1 hx
  exact (hfit s hs).2
 constructor
 ·obtain ⟨φ', h1, h2, h3, h4, h5⟩ := c2T (env := env) (tmps := tmps) (n0 := n0) hn hok he (w := E.w.alloc (.cells (((a2j.toList.map (·.2)).map (Act.eval ⟨tmps, []⟩)).flatMap (·.cells.toList)).toArray e)) rfl rfl rfl (by simp) (a1t _ _) E.w.heap.size (Nat.le_refl _)
   ⟨i.size, ps.map (·.ev env)⟩ hpos hw (heap_alloc_new _ _) (by rw [Blk.flat, ← q1]; simp) (fun k v b hv hb => by
    have hv' := by simpa using hv
    have hv'' : (((a2j.toList.map (·.2)).map (Act.eval ⟨tmps, []⟩)).flatMap (·.cells.toList))[k]? = some v := by rw [← hv]; simp
    exact ⟨q2 v (List.mem_of_getElem? hv''), q3 k v b hv'' hb⟩)
  refine ⟨φ', _, _, _, a2o hrun, .inl rfl, h1, ?_, h2, h3⟩
  have := Rep.mu (E := ⟨φ', E.H ++ [some ⟨i.size, ps.map (·.ev env)⟩], E.w.alloc (.cells (((a2j.toList.map (·.2)).map (Act.eval ⟨tmps, []⟩)).flatMap (·.cells.toList)).toArray e)⟩) ⟨i.size, ps.map (·.ev env)⟩ E.H.length 0 ps.length (some ps.length) E.w.heap.size 0 ps.length h5 h4
   (.inl (by simp)) (Nat.le_refl _) (by
    simp only
    rw [a2A (heap_alloc_new _ _)]
    have hf := a1s hw
    rw [← q1] at hf
    simp only [List.size_toArray, hf, List.length_map, Nat.zero_add]
    exact Nat.le_refl _) (fun c hc => by cases hc; rfl)
  exact this
 ·intro hcl
  have hx := Ext.of_heap (S := (· < E.H.length)) (E := E) (w := E.w.alloc (.cells (((a2j.toList.map (·.2)).map (Act.eval ⟨tmps, []⟩)).flatMap (·.cells.toList)).toArray e)) rfl rfl rfl (by simp) (a1t _ _) hok
  refine ⟨E.φ, _, _, _, a2o hrun, .inl rfl, hok.of_heap rfl rfl rfl (by simp) (a1t _ _), ?_, he.mono hx, hx.sub (fun j hj => Nat.lt_of_lt_of_le hj hn)⟩
  have := Rep.sl (E := ⟨E.φ, E.H, E.w.alloc (.cells (((a2j.toList.map (·.2)).map (Act.eval ⟨tmps, []⟩)).flatMap (·.cells.toList)).toArray e)⟩) (some ⟨E.w.heap.size, 0, none⟩) ps.length i.size (ps.map (·.ev env))
   (((a2j.toList.map (·.2)).map (Act.eval ⟨tmps, []⟩)).flatMap (·.cells.toList)) E.w.heap.size 0 (by simp) hpos hw (by
    intro c hc
    obtain ⟨x, hx, hc⟩ := List.mem_flatMap.1 hc
    obtain ⟨s, hs, rfl⟩ := List.mem_map.1 hx
    exact hcl s hs c hc) (.inr ⟨rfl, by
    rintro ⟨id, blk, hl, hp⟩
    have := hok.lt hl hp
    omega⟩) q1 (by
    intro k v hk
    refine ⟨?_, q2 v (List.mem_of_getElem? hk)⟩
    rw [cell_of_row _ _ _ _ _ _ (heap_alloc_new _ _), Nat.zero_add]
    simpa using hk) (fun k v a hk ha => (q3 k v a hk ha).mono' hx)
  simpa using this
theorem d8k {n0 : Nat} (hn : n0 ≤ E.H.length) (hok : HOk E) (he : a0r E env tmps) {t e : TypeId} {i : TypeInfo} {z : Value} (ht : P.underlying t = some (.slice e)) (hi : P.info? e = some i) (hz : i.zero = some z)
  (hzs : z.cells.size = i.size) (hzo : c2u z = true) (hpos : 0 < i.size) {kl kc : IntKind} {l c : Int} (h0 : 0 ≤ l) (hlc : l ≤ c) (hbytes : (i.bytes : Int) * c ≤ 281474976710656) (h63 : c ≤ 9223372036854775807) :
  Left P n0 E tmps (do pure (Next.value (← Instr.makeSlice t (.int kl l) (.int kc c)))) (.mu E.H.length 0 l.toNat (some c.toNat)) env (E.H ++ [some ⟨i.size, List.replicate l.toNat (a3O z)⟩]) := by
 obtain ⟨z1, z2, z3⟩ := d3n E hzo
 obtain ⟨q1, q2, q3⟩ := b0h z1 z2
 have hrun := run_make (P := P) E.w t e i z ht hi hz kl kc l c h0 hlc hbytes h63
 have hw : ∀ x ∈ List.replicate l.toNat (a3O z), x.cells.length = i.size := by
  intro x hx
  rw [List.eq_of_mem_replicate hx, z3, hzs]
 have hfl := a1s hw
 rw [List.length_replicate] at hfl
 have hmul : l.toNat * i.size ≤ c.toNat * i.size := Nat.mul_le_mul_right _ (by omega)
 obtain ⟨φ', h1, h2, h3, h4, h5⟩ := c2T (env := env) (tmps := tmps) (n0 := n0) hn hok he (w := E.w.alloc (.cells (madeCells z.cells (c.toNat * i.size)) e)) rfl rfl rfl (by simp) (a1t _ _) E.w.heap.size (Nat.le_refl _)
  ⟨i.size, List.replicate l.toNat (a3O z)⟩ hpos hw (heap_alloc_new _ _) (by rw [Blk.flat, hfl, size_madeCells]; exact hmul) (fun k v b hv hb => by
   have hk : k < l.toNat * i.size := by have := a0i hb; rw [Blk.flat, hfl] at this; exact this
   have hj : k % i.size < i.size := Nat.mod_lt _ hpos
   have hbi : k / i.size < l.toNat := Nat.div_lt_of_lt_mul (by rw [Nat.mul_comm]; exact hk)
   have hfg := c1V hw (i := k / i.size) (by simpa using hbi) (k % i.size) hj
   rw [show k / i.size * i.size + k % i.size = k from by rw [Nat.mul_comm]; exact Nat.div_add_mod k i.size] at hfg
   have hfg' : (List.replicate l.toNat (a3O z)).getD (k / i.size) .top = a3O z := by simp [List.getElem?_replicate, hbi]
   rw [hfg'] at hfg
   rw [Blk.flat] at hb
   simp only at hb
   rw [hfg] at hb
   have hvz : z.cells.toList[k % i.size]? = some v := by
    rw [madeCells] at hv
    rw [Array.getElem?_map, Array.getElem?_range] at hv
    rw [if_pos (by omega)] at hv
    simp only [Option.map_some, Option.some.injEq] at hv
    rw [← hv, hzs]
    have : k % i.size < z.cells.size := by omega
    simp [this]
   exact ⟨q2 v (List.mem_of_getElem? hvz), q3 _ v b hvz hb⟩)
 refine ⟨φ', _, _, _, a2o hrun, .inl rfl, h1, ?_, h2, h3⟩
 exact Rep.mu (E := ⟨φ', E.H ++ [some ⟨i.size, List.replicate l.toNat (a3O z)⟩], E.w.alloc (.cells (madeCells z.cells (c.toNat * i.size)) e)⟩) ⟨i.size, List.replicate l.toNat (a3O z)⟩ E.H.length 0 l.toNat (some c.toNat) E.w.heap.size 0 c.toNat h5 h4
  (.inl (by simp)) (by omega) (by
   simp only
   rw [a2A (heap_alloc_new _ _), size_madeCells]; simp) (fun d hd => by cases hd; rfl)
end
end Go.Abs

/- Part 5 of the proof of MatBack: C1, C2, C3, W1, W3, W4, W5, W6, W8, T1, Shelf, T2, C4, C5, C6, C7, C8, C9, C10, C11. -/
import Derived.Test.YtkehcnbnmjmpbaaDoorMatBackK4
import Derived.WalkKit
import Derived.RowKit
import Derived.Defers
import Derived.Recover
import Derived.Shelf.Abstract
import Derived.Shelf.Strings.OnBuilder
import Derived.Shelf.Utf8.RuneCount
import Derived.Shelf.Strings.Search1
import Derived.Shelf.Strings.Count
import Derived.Shelf.Strings.RuneCount
import Derived.Test.YtkehcnbnmjmpbaaDoorProg
namespace Go.Abs
open Go.Proofs Go.RowKit
set_option maxRecDepth 100000 in
theorem c1C (n : Nat) (hn : n ≤ 9) (w : World) : Calls Pr a6U #[.int .i64 n] w fun e w' => e = .returned (.int .u32 (10 ^ n : Nat)) ∧ w' = w := by
  have hix : ∀ w : World, (Instr.index 115 (Value.agg #[Value.int IntKind.u32 1, Value.int IntKind.u32 10, Value.int IntKind.u32 100, Value.int IntKind.u32 1000, Value.int IntKind.u32 10000, Value.int IntKind.u32 100000, Value.int IntKind.u32 1000000, Value.int IntKind.u32 10000000, Value.int IntKind.u32 100000000, Value.int IntKind.u32 1000000000]) (Value.int IntKind.i64 (n : Int))).run Pr w = .ok (.int .u32 (10 ^ n : Nat)) w := by
    intro w
    have h : n = 0 ∨ n = 1 ∨ n = 2 ∨ n = 3 ∨ n = 4 ∨ n = 5 ∨ n = 6 ∨ n = 7 ∨ n = 8 ∨ n = 9 := by omega
    rcases h with rfl | rfl | rfl | rfl | rfl | rfl | rfl | rfl | rfl | rfl <;> rfl
  go_enter Tryd.func63, Tryd.ntmps63
  go_wp2
  go_ret
  exact ⟨rfl, rfl⟩
theorem a8S (n : Nat) (hn : n ≤ 9) : a0c Pr a6U [.int .i64 n] (.int .u32 (10 ^ n : Nat)) := by
  refine a0c.ofBelow (fn := Tryd.f63) Tryd.func63 (by kernel_rfl) (by kernel_rfl) ?_
  intro E vs hok hl hrep
  match vs, hl with
  | [v], _ =>
    have hv := hrep 0 v _ rfl rfl
    have e : v = .int .i64 n := a0j hv
    subst e
    refine (c1C n hn E.w).mono ?_
    rintro e w' ⟨rfl, rfl⟩
    exact ⟨⟨_, rfl, fun E' => .int _ _⟩, Below.refl _ _⟩
end Go.Abs
set_option linter.unusedSimpArgs false
namespace Go.Abs
open Go.Proofs Go.RowKit Go.Shelf
theorem a9R {w : World} {b : Nat} {c : Array Value} {e : TypeId} {fr : Nat × Nat} {v : Value} (h : w.heap[b]? = some (.cells c e fr)) (hc : c[0]? = some v) : w.setCell ⟨b, 0, none⟩ v = w := by
  have hm : (w.heap.modify b fun
      | .cells c elem frozen => .cells (if (Addr.mk b 0 none).spot.isSome then c else c.setIfInBounds 0 v) elem frozen
      | o => o) = w.heap := by
    apply Array.ext_getElem?
    intro i
    rw [Array.getElem?_modify]
    split
    · rename_i hi
      subst hi
      rw [h]
      simp only [Option.map_some, Option.isSome_none, Bool.false_eq_true, if_false]
      congr 2
      apply Array.ext_getElem?
      intro j
      rw [Array.getElem?_setIfInBounds]
      split
      · rename_i hj; subst hj; rw [hc]; rw [if_pos]; exact (Array.getElem?_eq_some_iff.1 hc).1
      · rfl
    · rfl
  unfold World.setCell
  exact congrArg (fun h => { w with heap := h }) hm
theorem c0G (p q : Addr) (w : World) :
    CallsD Pr 41 #[.pointer (some p), .pointer (some q)] .returning w fun e u' w' => e = .returned (.tuple #[]) ∧ u' = .returning ∧ w' = w := by
  refine callsD_of_wpS Tryd.func41 rfl fun c₀ cs hu => ?_
  apply wpS_seq
  apply wpS_region
  simp [wpOpsS, go_sem, recoverD, hu, Tryd.ntmps41, Exit.thenS]
  apply wpS_seq
  apply wpS_region
  simp [wpOpsS, go_sem, Exit.thenS]
  refine wpS_cond (t := false) (by simp [Act.eval, Array.replicate]) ?_
  simp only [Bool.false_eq_true, if_false]
  refine wpS_of_wp (wp_skip ?_)
  cases c₀
  simp_all [bodyPostS, results, Tryd.results41, Exit.thenS]
set_option maxRecDepth 100000 in
theorem c0F (f : FuncId) (caps : Array Value) (w : World) (he : ∀ args w, (callFunc f args).run Pr w = .ok (.enter f args) w) (Q : World → Prop)
    (hdo : Calls Pr f caps ((w.alloc (Obj.cells #[Value.int IntKind.i64 0] 3)).alloc (Obj.cells #[Value.int IntKind.i64 0] 23)) fun e w2 => e = .returned (.tuple #[]) ∧ Q w2)
    (hQ : ∀ w2, Q w2 → ∃ c1 e1 c2 e2, w2.heap[w.heap.size]? = some (.cells c1 e1 (0, 0)) ∧ c1[0]? = some (.int .i64 0) ∧ w2.heap[w.heap.size + 1]? = some (.cells c2 e2 (0, 0)) ∧ c2[0]? = some (.int .i64 0)) :
    Calls Pr a6W #[.func (.func f) #[] caps] w fun e w' => e = .returned (.tuple #[.int .i64 0, .int .i64 0]) ∧ Q w' := by
  have hmf : ∀ (fn : Fn) (first cap : Array Value) (w : World), (Instr.makeFunc fn first cap).run Pr w = .ok (.func fn first cap) w := fun _ _ _ _ => rfl
  have hQ' : ∀ w2, Q w2 → w2.cell? ⟨w.heap.size, 0, none⟩ = some (.int .i64 0) ∧ w2.cell? ⟨w.heap.size + 1, 0, none⟩ = some (.int .i64 0) ∧ w2.frozen? ⟨w.heap.size, 0, none⟩ = false ∧ w2.frozen? ⟨w.heap.size + 1, 0, none⟩ = false ∧
      w2.setCell ⟨w.heap.size, 0, none⟩ (.int .i64 0) = w2 ∧ w2.setCell ⟨w.heap.size + 1, 0, none⟩ (.int .i64 0) = w2 := fun w2 hq => by
    obtain ⟨c1, e1, c2, e2, g1, g2, g3, g4⟩ := hQ _ hq
    exact ⟨by simp [World.cell?, g1, g2], by simp [World.cell?, g3, g4], by simp [World.frozen?, g1], by simp [World.frozen?, g3], a9R g1 g2, a9R g3 g4⟩
  go_enter_defers Tryd.func17, Tryd.ntmps17
  go_wp2_with (go_at_fn f; refine hdo.mono ?_; rintro e w2 ⟨rfl, hq⟩; obtain ⟨hc1, hc2, hf1, hf2, hs1, hs2⟩ := hQ' _ hq)
  refine leaves_cons (f := 41) (args := #[.pointer (some ⟨w.heap.size, 0, none⟩), .pointer (some ⟨w.heap.size + 1, 0, none⟩)]) (by simp) (by simp [go_sem]) ?_
  refine (c0G ⟨w.heap.size, 0, none⟩ ⟨w.heap.size + 1, 0, none⟩ _).mono ?_
  rintro e u' w'' ⟨rfl, rfl, rfl⟩
  simp [Leaves, settle, results, Tryd.results17, go_sem, hc1, hc2, hq]
end Go.Abs
namespace Go.Abs
open Go.Proofs Go.RowKit Go.Shelf
def row0 : Option Blk := some ⟨1, [.int .i64 0]⟩
theorem b8L {H : Heap} {φ : Nat → Option Nat} {w : World} (hok : HOk ⟨φ, H, w⟩) (T : TypeId) : ∃ φ', HOk ⟨φ', H ++ [row0], w.alloc (.cells #[Value.int IntKind.i64 0] T)⟩ ∧ Ext (· < H.length) ⟨φ, H, w⟩ ⟨φ', H ++ [row0], w.alloc (.cells #[Value.int IntKind.i64 0] T)⟩ ∧ φ' H.length = some w.heap.size := by
  obtain ⟨φ', h1, h2, h3, h4, h5⟩ := a8T (env := []) (tmps := #[]) (n0 := H.length) (E := ⟨φ, H, w⟩) (Nat.le_refl _) hok (fun t => .top _) (w := w.alloc (.cells #[Value.int IntKind.i64 0] T)) rfl rfl rfl (by simp) (a0M _ _) w.heap.size (Nat.le_refl _) ⟨1, [.int .i64 0]⟩ (by decide)
    (by simp [AV.cells]) (c := #[Value.int IntKind.i64 0]) (e := T) (heap_alloc_new _ _) (by simp [Blk.flat, AV.cells])
    (fun k v b hv hb => by
      match k with
      | 0 =>
        simp [Blk.flat, AV.cells] at hv hb
        subst hv; subst hb
        exact ⟨rfl, .int _ _⟩
      | k + 1 => simp [Blk.flat, AV.cells] at hb)
  exact ⟨φ', h1, h3, h4⟩
theorem b5Y {E : Emb} (hok : HOk E) {id b : Nat} (h : E.H[id]? = some row0) (hp : E.φ id = some b) : ∃ c e, E.w.heap[b]? = some (.cells c e (0, 0)) ∧ c[0]? = some (.int .i64 0) := by
  obtain ⟨c, e, r⟩ := hok.row id _ b h hp
  have hs : 0 < c.size := by have := r.fits; simp [Blk.flat, AV.cells] at this; omega
  have hc : c[0]? = some c[0] := by simp [hs]
  have hr := r.rep 0 _ (.int .i64 0) hc (by simp [Blk.flat, AV.cells])
  rw [a0j hr] at hc
  exact ⟨c, e, r.heap (by decide), hc⟩
theorem b6M (f : FuncId) (caps : List AV) (H : Heap) (R : Heap → Prop) (he : ∀ args w, (callFunc f args).run Pr w = .ok (.enter f args) w)
    (hdo : a0i Pr f caps (hap H [row0, row0]) fun r' H' => r' = .tup [] ∧ ∃ G M, H' = hap G ([row0, row0] ++ M) ∧ G.length = H.length ∧ a0N G ∧ R G) : a0i Pr a6W [.fn f caps] H fun r' H' => r' = .tup [.int .i64 0, .int .i64 0] ∧ H'.length = H.length ∧ R H' := by
  refine ⟨⟨_, Tryd.func17, by decide +kernel, by kernel_rfl⟩, fun φ w vs hok hl hrep => ?_⟩
  match vs, hl with
  | [v], _ =>
    have hv := hrep 0 v _ rfl rfl
    cases hv with
    | dead v a id hr hd h1 => simp [AV.ref] at hr
    | fn _ vs _ hlen hcap =>
      obtain ⟨φ1, k1, x1, p1⟩ := b8L hok 3
      obtain ⟨φ2, k2, x2, p2⟩ := b8L k1 23
      have hH2 : H ++ [row0] ++ [row0] = hap H [row0, row0] := by simp [hap]
      have hl1 : (H ++ [row0]).length = H.length + 1 := by simp
      have hl2 : (H ++ [row0] ++ [row0]).length = H.length + 2 := by simp
      have hs1 : (w.alloc (.cells #[Value.int IntKind.i64 0] 3)).heap.size = w.heap.size + 1 := by simp
      have x12 : Ext (· < H.length) ⟨φ, H, w⟩ ⟨φ2, H ++ [row0] ++ [row0], (w.alloc (.cells #[Value.int IntKind.i64 0] 3)).alloc (.cells #[Value.int IntKind.i64 0] 23)⟩ := x1.trans (x2.sub fun i hi => by rw [hl1]; have : i < H.length := hi; show i < _; omega)
      have q1 : φ2 H.length = some w.heap.size := by
        have := x2.phi H.length (by rw [hl1]; show _ < _; omega) (by rw [hl1]; show _ < _; omega)
        exact this.trans p1
      have q2 : φ2 (H.length + 1) = some (w.heap.size + 1) := by rw [hl1, hs1] at p2; exact p2
      rw [hH2] at k2 x12 hl2
      have hcall := hdo.2 φ2 _ vs k2 hlen fun k v a hk ha => (hcap k v a hk ha).mono' x12
      refine (c0F f vs.toArray w he (fun w2 => ∃ φ3 G M, HOk ⟨φ3, hap G ([row0, row0] ++ M), w2⟩ ∧ G.length = H.length ∧ a0N G ∧ R G ∧ Ext (· < (hap H [row0, row0]).length) ⟨φ2, hap H [row0, row0], (w.alloc (.cells #[Value.int IntKind.i64 0] 3)).alloc (.cells #[Value.int IntKind.i64 0] 23)⟩ ⟨φ3, hap G ([row0, row0] ++ M), w2⟩) (hcall.mono ?_) ?_).mono ?_
      · rintro e w2 ⟨v, r, φ3, H3, rfl, ⟨rfl, G, M, rfl, g1, g2, g3⟩, g4, g5, g6, g7⟩
        refine ⟨?_, φ3, G, M, g4, g1, g2, g3, g7⟩
        have := a9T g5
        rw [this]; rfl
      · rintro w2 ⟨φ3, G, M, g4, g1, g2, g3, g7⟩
        have e1 : φ3 H.length = some w.heap.size := (g7.phi H.length (by rw [hl2]; show _ < _; omega) (by rw [hl2]; show _ < _; omega)).trans q1
        have e2 : φ3 (H.length + 1) = some (w.heap.size + 1) := (g7.phi (H.length + 1) (by rw [hl2]; show _ < _; omega) (by rw [hl2]; show _ < _; omega)).trans q2
        obtain ⟨c1, t1, a1, b1⟩ := b5Y (E := ⟨φ3, hap G ([row0, row0] ++ M), w2⟩) g4 (id := H.length) (by simp [hap, ← g1]) e1
        obtain ⟨c2, t2, a2, b2⟩ := b5Y (E := ⟨φ3, hap G ([row0, row0] ++ M), w2⟩) g4 (id := H.length + 1) (by simp [hap, ← g1]) e2
        exact ⟨c1, t1, c2, t2, a1, b1, a2, b2⟩
      · rintro e w2 ⟨rfl, φ3, G, M, g4, g1, g2, g3, g7⟩
        have hfree : ∀ (j : Nat) bj, j < H.length → (hap G ([row0, row0] ++ M))[j]? = some (some bj) → ∀ a ∈ bj.flat, Ref (· < H.length) a := by
          intro j bj hj hb
          simp only [hap] at hb
          rw [List.getElem?_append_left (by omega)] at hb
          have := g2 j bj hb
          rwa [g1] at this
        have hcut := HOk.cut (E := ⟨φ3, hap G ([row0, row0] ++ M), w2⟩) g4 H.length hfree
        have ht : (hap G ([row0, row0] ++ M)).take H.length = G := by simp [hap, ← g1]
        simp only [ht] at hcut
        refine ⟨_, .tup [.int .i64 0, .int .i64 0], φ3, G, rfl, ⟨rfl, g1, g3⟩, hcut.1, ?_, by omega, ?_⟩
        · exact .tup [.int .i64 0, .int .i64 0] _ rfl fun k v a hk ha => by
            match k with
            | 0 => cases hk; cases ha; exact .int _ _
            | 1 => cases hk; cases ha; exact .int _ _
            | k + 2 => simp at hk
        · exact (x12.trans (g7.sub fun i hi => by rw [hl2]; have : i < H.length := hi; show i < _; omega)).trans hcut.2
end Go.Abs
set_option linter.unusedVariables false
namespace Go.Abs
theorem a1L (l : List Nat) (hl : Lim l) (hb : l.length ≤ 17592186044416) : a0c Pr a0F [natV l] (natV (limbs (val l))) := by
  refine a0c.intro b7q b7o (by simp only [List.length_cons, List.length_nil]; omega) (a4d _) fun H hH => ?_
  refine Safe.seq (Safe.region ?_)
  simp only [b1Z, E1, seval]
  refine Safe.seq (Safe.block (Safe.loop ?_))
  refine Safe.keep [0] ?_
  simp only [E1, seval]
  generalize hv : val l = v
  have stop : ∀ (l : List Nat) (ts : Env), Lim l → val l = v → (l.getLast?).getD 1 ≠ 0 → look ts 0 = natV l → Safe ⟨Pr, fun _ _ => false, a0F, 21, [.tmp 2], H.length⟩ [.code ((ACode.region a7C false).seq ACode.ret)] ts (hap H []) fun r' H' => r' = natV (limbs v) ∧ ∃ L, H' = hap H L := by
    intro l ts hl hv hn h0
    refine Safe.seq (Safe.region ?_)
    simp only [a7C, E1, seval, h0]
    refine Safe.retn ?_
    simp only [E1, seval]
    rw [← hv, a8x hl hn]
    exact ⟨rfl, [], rfl⟩
  induction hn : l.length using Nat.strongRecOn generalizing l with
  | _ n ih =>
  refine Safe.inLoop (Safe.seq (Safe.seq (Safe.region ?_)))
  rcases List.eq_nil_or_concat l with rfl | ⟨l', d, rfl⟩
  · simp only [a7D, E1, seval, a4U, Int.natCast_zero, Int.lt_irrefl]
    refine Safe.cond ?_
    simp only [E1, seval]
    refine Safe.exit rfl ?_
    exact stop [] _ hl hv (by simp) (by simp only [E1, seval])
  · simp only [List.concat_eq_append] at *
    have hlen : (l' ++ [d]).length = l'.length + 1 := by simp
    have h0 : (0 : Int) < ((l' ++ [d]).length : Int) := by omega
    have hw : IntKind.i64.wrap (((l' ++ [d]).length : Int) - 1) = (l'.length : Int) := by rw [hlen, a0b] <;> omega
    have hg : (l' ++ [d]).getD l'.length 0 = d := by simp
    simp only [a7D, E1, seval, a4U, h0, hw, a1r _ (l' ++ [d]) _ l'.length (by omega), hg]
    refine Safe.cond ?_
    simp only [E1, seval]
    by_cases hd : d = 0
    · subst hd
      simp only [Int.natCast_zero, E1, seval]
      refine Safe.skip (Safe.block (Safe.region ?_))
      simp only [b1Y, E1, seval, a4U, hw, c3R _ (l' ++ [0]) _ l'.length (by omega)]
      refine Safe.inBlock (Safe.keep [0] ?_)
      simp only [E1, seval, List.take_left']
      exact ih l'.length (by omega) l' (a9g.1 hl).1 (by omega) (by rw [← hv, c0P]) rfl
    · have : ¬ ((d : Int) = 0) := by omega
      simp only [this, E1, seval]
      refine Safe.exit rfl ?_
      exact stop (l' ++ [d]) _ hl hv (by simpa using hd) (by simp only [E1, seval])
theorem c1B (l : List Nat) (hl : Nt l) : a0c Pr a9q [natV l] (natV (limbs (val l))) := by
  refine a0c.intro b7v b7u (by simp only [List.length_cons, List.length_nil]; omega) (a4d _) fun H hH => ?_
  refine Safe.seq (Safe.region ?_)
  simp only [b2j, E1, seval]
  refine Safe.seq (Safe.region ?_)
  simp only [b2i, E1, seval]
  refine (a1L l hl.lim hl.len).acall ?_
  simp only [E1, seval, b8w _ _ H [] _ hl.limbs.len]
  refine Safe.freeze 0 (b := ⟨1, u32s (limbs (val l))⟩) hH rfl rfl (a4f _) ?_
  refine Safe.retn ?_
  simp only [E1, seval]
  first | exact ⟨rfl, _, rfl⟩ | exact ⟨_, rfl⟩ | exact ⟨trivial, _, rfl⟩
def cmpI (a b : Nat) : Int := if a < b then -1 else if b < a then 1 else 0
theorem b3X {a b : Nat} (h : (limbs a).length < (limbs b).length) : a < b := by
  have h1 : limbs b ≠ [] := by intro h0; rw [h0] at h; simp at h
  have := b6r h1
  have h2 := a8l (a1Y a)
  rw [a0H] at h2
  have h3 : LB ^ (limbs a).length ≤ LB ^ ((limbs b).length - 1) := Nat.pow_le_pow_right (by decide) (by omega)
  omega
theorem b7m (a b : List Nat) (ha : Nt a) (hb : Nt b) : a0c Pr a8H [natV a, natV b] (.int .i64 (cmpI (val a) (val b))) := by
  refine a0c.intro c0d c0c (by simp only [List.length_cons, List.length_nil]; omega) (.int _ _) fun H hH => ?_
  refine Safe.seq (Safe.region ?_)
  simp only [b4v, E1, seval]
  refine Safe.seq (Safe.region ?_)
  simp only [b4u, E1, seval]
  refine (a1L a ha.lim ha.len).acall ?_
  try simp only [E1, seval]
  refine (a1L b hb.lim hb.len).acall ?_
  try simp only [E1, seval]
  have na := ha.limbs
  have nb := hb.limbs
  have va := a0H (val a)
  have vb := a0H (val b)
  generalize hA : limbs (val a) = A at na va ⊢
  generalize hB : limbs (val b) = B at nb vb ⊢
  refine Safe.keep [0, 1] (Safe.seq (Safe.seq (Safe.region ?_)))
  simp only [b4t, E1, seval, a4U]
  refine Safe.cond ?_
  simp only [E1, seval]
  by_cases hlen : A.length = B.length
  · have : ((A.length : Int) = B.length) := by omega
    simp only [this, E1, seval]
    refine Safe.skip (Safe.seq (Safe.seq (Safe.region ?_)))
    simp only [b4p, E1, seval, a4U]
    refine Safe.block (Safe.loop ?_)
    have key : ∀ n, n ≤ A.length → A.drop n = B.drop n → Safe ⟨Pr, fun _ _ => false, a8H, 45, [.tmp 4], H.length⟩ [.inLoop b4w, .inBlock 0, .code ((ACode.region a7J false).seq .ret)]
        [(0, natV A), (1, natV B), (5, .int .i64 ((n : Int) - 1))] (hap H []) fun r' H' => r' = .int .i64 (cmpI (val a) (val b)) ∧ ∃ L, H' = hap H L := by
      intro n
      induction n with
      | zero =>
        intro _ hd
        refine Safe.inLoop (Safe.seq (Safe.seq (Safe.region ?_)))
        simp only [a8W, E1, seval]
        refine Safe.cond ?_
        simp only [E1, seval, show ¬ ((0 : Int) ≤ ((0 : Nat) : Int) - 1) by omega]
        refine Safe.exit rfl (Safe.seq (Safe.region ?_))
        simp only [a7J, E1, seval]
        refine Safe.retn ?_
        simp only [E1, seval]
        have : val a = val b := by
          simp only [List.drop_zero] at hd
          rw [← va, ← vb, hd]
        refine ⟨?_, [], rfl⟩
        simp [cmpI, this]
      | succ m ih =>
        intro hm hd
        refine Safe.inLoop (Safe.seq (Safe.seq (Safe.region ?_)))
        simp only [a8W, E1, seval]
        refine Safe.cond ?_
        have e1 : ((m + 1 : Nat) : Int) - 1 = (m : Int) := by omega
        simp only [E1, seval, e1, Int.natCast_nonneg]
        refine Safe.skip (Safe.seq (Safe.block (Safe.seq (Safe.regionD ?_))))
        simp only [b4o, E1, seval, a1r _ A _ m (by omega), a1r _ B _ m (by omega)]
        refine Safe.cond ?_
        simp only [E1, seval]
        by_cases hq : A.getD m 0 = B.getD m 0
        · simp only [hq, E1, seval]
          refine Safe.skip (Safe.inBlock (Safe.region ?_))
          simp only [b2q, E1, seval]
          refine Safe.keep [0, 1, 5] ?_
          have := na.len
          simp only [E1, seval, a0b (n := (m : Int) - 1) (by omega) (by omega)]
          refine ih (by omega) ?_
          rw [List.drop_eq_getElem_cons (by omega), List.drop_eq_getElem_cons (l := B) (by omega), hd]
          simp only [List.getD_eq_getElem?_getD, List.getElem?_eq_getElem (show m < A.length by omega), List.getElem?_eq_getElem (show m < B.length by omega), Option.getD_some] at hq
          rw [hq]
        · have hq' : ¬ ((A.getD m 0 : Nat) : Int) = ((B.getD m 0 : Nat) : Int) := by omega
          simp only [hq', E1, seval]
          refine Safe.seq (Safe.seq (Safe.regionD ?_))
          simp only [b4n, E1, seval, a1r _ A _ m (by omega), a1r _ B _ m (by omega)]
          refine Safe.cond ?_
          simp only [E1, seval]
          by_cases hlt : A.getD m 0 < B.getD m 0
          · have hlt' : ((A.getD m 0 : Nat) : Int) < ((B.getD m 0 : Nat) : Int) := by omega
            simp only [hlt', E1, seval]
            refine Safe.seq (Safe.region ?_)
            simp only [b2t, E1, seval]
            refine Safe.retn ?_
            simp only [E1, seval]
            have := a8k na.lim nb.lim hd (by omega) (by omega) hlen hlt
            refine ⟨?_, [], rfl⟩
            rw [← va, ← vb]; simp [cmpI, this]
          · have hlt' : ¬ ((A.getD m 0 : Nat) : Int) < ((B.getD m 0 : Nat) : Int) := by omega
            simp only [hlt', E1, seval]
            refine Safe.skip (Safe.seq (Safe.region ?_))
            simp only [b2r, E1, seval]
            refine Safe.retn ?_
            simp only [E1, seval]
            have := a8k nb.lim na.lim hd.symm (by omega) (by omega) hlen.symm (show B.getD m 0 < A.getD m 0 by omega)
            refine ⟨?_, [], rfl⟩
            rw [← va, ← vb]; simp [cmpI, this, Nat.lt_asymm this]
    refine Safe.keep [0, 1, 5] ?_
    have := na.len
    have hk := key A.length (Nat.le_refl _) (by rw [List.drop_length, hlen, List.drop_length])
    simp only [E1, seval, ← hlen, a0b (n := (A.length : Int) - 1) (by omega) (by omega)]
    exact hk
  · have : ¬ ((A.length : Int) = B.length) := by omega
    simp only [this, E1, seval]
    refine Safe.seq (Safe.seq (Safe.region ?_))
    simp only [b4s, E1, seval, a4U]
    refine Safe.cond ?_
    simp only [E1, seval]
    by_cases hlt : A.length < B.length
    · have hlt' : ((A.length : Int) < B.length) := by omega
      simp only [hlt', E1, seval]
      refine Safe.seq (Safe.region ?_)
      simp only [b4r, E1, seval]
      refine Safe.retn ?_
      simp only [E1, seval]
      have : val a < val b := b3X (by rw [hA, hB]; exact hlt)
      refine ⟨?_, [], rfl⟩
      simp [cmpI, this]
    · have hlt' : ¬ ((A.length : Int) < B.length) := by omega
      simp only [hlt', E1, seval]
      refine Safe.skip (Safe.seq (Safe.region ?_))
      simp only [b4q, E1, seval]
      refine Safe.retn ?_
      simp only [E1, seval]
      have : val b < val a := b3X (by rw [hA, hB]; omega)
      refine ⟨?_, [], rfl⟩
      simp [cmpI, this, Nat.lt_asymm this]
theorem c0t (n : Nat) (h : n < 4294967296) : a0c Pr a0O [.int .u32 n] (.int .i64 (blen n)) := by
  refine a0c.intro a8s a8r (by simp only [List.length_cons, List.length_nil]; omega) (.int _ _) fun H hH => ?_
  refine Safe.seq (Safe.region ?_)
  simp only [a3V, E1, Nat.reduceAdd, Nat.reduceEqDiff, reduceCtorEq, ↓reduceIte]
  have stop : ∀ (m s : Nat) (env : Env), m < 256 → s ≤ 24 → look env 0 = .int .u32 m → look env 2 = .int .i64 s → s + blen m = blen n → Safe ⟨Pr, fun _ _ => false, a0O, 19, [.tmp 2], H.length⟩ [.code ((ACode.region a1j false).seq .ret)] env (hap H [])
      fun r' H' => r' = .int .i64 (blen n) ∧ ∃ L, H' = hap H L := by
    intro m s env hm hs h0 h2 hb
    refine Safe.seq (Safe.region ?_)
    have hw : IntKind.wrap .u8 (m : Int) = m := by simp [IntKind.wrap, IntKind.bits, IntKind.signed]; omega
    simp only [a1j, E1, Nat.reduceAdd, Nat.reduceEqDiff, reduceCtorEq, ↓reduceIte, h0, h2, hw, b9k]
    have tab : ∀ m : Fin 256, c3m.data.toList.getD m.val 0 = UInt8.ofNat (blen m.val) ∧ blen m.val ≤ 8 := by decide +kernel
    have ht : c3m.data.toList.getD m 0 = UInt8.ofNat (blen m) ∧ blen m ≤ 8 := tab ⟨m, hm⟩
    have hsz : c3m.size = 256 := by decide +kernel
    rw [if_pos (by rw [hsz]; omega)]
    simp only [Int.toNat_natCast, ht.1, E1, Nat.reduceAdd, Nat.reduceEqDiff, reduceCtorEq, ↓reduceIte]
    have h8 : ((UInt8.ofNat (blen m)).toNat : Nat) = blen m := by
      have := ht.2
      simp [UInt8.toNat_ofNat']; omega
    refine Safe.retn ?_
    have := ht.2
    simp only [E1, Nat.reduceAdd, Nat.reduceEqDiff, reduceCtorEq, ↓reduceIte, h8, a0b (n := (blen m : Int)) (by omega) (by omega)]
    rw [a0b (by omega) (by omega)]
    exact ⟨by rw [← hb]; rfl, [], rfl⟩
  have mid : ∀ (m s : Nat) (env : Env), m < 65536 → s ≤ 16 → look env 0 = .int .u32 m → look env 2 = .int .i64 s → s + blen m = blen n → Safe ⟨Pr, fun _ _ => false, a0O, 19, [.tmp 2], H.length⟩
      [.code ((((ACode.region a1Q false).seq (.cond (.t 8) ((ACode.region a1P false).seq (.region a1O false)) .skip)).seq ((ACode.region a1j false).seq .ret)))] env (hap H [])
      fun r' H' => r' = .int .i64 (blen n) ∧ ∃ L, H' = hap H L := by
    intro m s env hm hs h0 h2 hb
    refine Safe.seq (Safe.seq (Safe.region ?_))
    simp only [a1Q, E1, Nat.reduceAdd, Nat.reduceEqDiff, reduceCtorEq, ↓reduceIte, h0]
    refine Safe.cond ?_
    simp only [E1, Nat.reduceAdd, Nat.reduceEqDiff, reduceCtorEq, ↓reduceIte]
    by_cases hc : 256 ≤ m
    · have hc' : (256 : Int) ≤ (m : Int) := by omega
      simp only [hc', E1, Nat.reduceAdd, Nat.reduceEqDiff, reduceCtorEq, ↓reduceIte]
      refine Safe.seq (Safe.region ?_)
      simp only [a1P, E1, Nat.reduceAdd, Nat.reduceEqDiff, reduceCtorEq, ↓reduceIte, h0, a6d _ _ _ (show (0 : Int) ≤ 8 by decide)]
      refine Safe.region ?_
      simp only [a1O, E1, Nat.reduceAdd, Nat.reduceEqDiff, reduceCtorEq, ↓reduceIte, h2]
      have e1 : Int.fdiv (m : Int) (2 ^ min (Int.toNat 8) IntKind.u32.bits) = ((m / 256 : Nat) : Int) := by
        rw [show (2 : Int) ^ min (Int.toNat 8) IntKind.u32.bits = 256 by decide, Int.fdiv_eq_ediv_of_nonneg _ (by decide)]; omega
      have e2 : IntKind.wrap .i64 ((s : Int) + 8) = ((s + 8 : Nat) : Int) := by rw [a0b] <;> omega
      refine stop (m / 256) (s + 8) _ (by omega) (by omega) (by simp only [E1, Nat.reduceAdd, Nat.reduceEqDiff, reduceCtorEq, ↓reduceIte, e1]) (by simp only [E1, Nat.reduceAdd, Nat.reduceEqDiff, reduceCtorEq, ↓reduceIte, e2]) ?_
      have := b9g (n := m) (k := 8) (by omega)
      simp only [Nat.reducePow] at this
      omega
    · have hc' : ¬ (256 : Int) ≤ (m : Int) := by omega
      simp only [hc', E1, Nat.reduceAdd, Nat.reduceEqDiff, reduceCtorEq, ↓reduceIte]
      exact Safe.skip (stop m s _ (by omega) (by omega) (by simp only [E1, Nat.reduceAdd, Nat.reduceEqDiff, reduceCtorEq, ↓reduceIte, h0]) (by simp only [E1, Nat.reduceAdd, Nat.reduceEqDiff, reduceCtorEq, ↓reduceIte, h2]) hb)
  refine Safe.seq (Safe.seq (Safe.region ?_))
  simp only [a3U, E1, Nat.reduceAdd, Nat.reduceEqDiff, reduceCtorEq, ↓reduceIte]
  refine Safe.cond ?_
  simp only [E1, Nat.reduceAdd, Nat.reduceEqDiff, reduceCtorEq, ↓reduceIte]
  by_cases hc : 65536 ≤ n
  · have hc' : (65536 : Int) ≤ (n : Int) := by omega
    simp only [hc', E1, Nat.reduceAdd, Nat.reduceEqDiff, reduceCtorEq, ↓reduceIte]
    refine Safe.seq (Safe.region ?_)
    simp only [a3T, E1, Nat.reduceAdd, Nat.reduceEqDiff, reduceCtorEq, ↓reduceIte, a6d _ _ _ (show (0 : Int) ≤ 16 by decide)]
    refine Safe.region ?_
    simp only [a3S, E1, Nat.reduceAdd, Nat.reduceEqDiff, reduceCtorEq, ↓reduceIte]
    have e1 : Int.fdiv (n : Int) (2 ^ min (Int.toNat 16) IntKind.u32.bits) = ((n / 65536 : Nat) : Int) := by
      rw [show (2 : Int) ^ min (Int.toNat 16) IntKind.u32.bits = 65536 by decide, Int.fdiv_eq_ediv_of_nonneg _ (by decide)]; omega
    refine mid (n / 65536) 16 _ (by omega) (by omega) (by simp only [E1, Nat.reduceAdd, Nat.reduceEqDiff, reduceCtorEq, ↓reduceIte, e1]) (by simp only [E1, Nat.reduceAdd, Nat.reduceEqDiff, reduceCtorEq, ↓reduceIte]; rfl) ?_
    have := b9g (n := n) (k := 16) (by omega)
    simp only [Nat.reducePow] at this
    omega
  · have hc' : ¬ (65536 : Int) ≤ (n : Int) := by omega
    simp only [hc', E1, Nat.reduceAdd, Nat.reduceEqDiff, reduceCtorEq, ↓reduceIte]
    exact Safe.skip (mid n 0 _ (by omega) (by omega) (by simp only [E1, Nat.reduceAdd, Nat.reduceEqDiff, reduceCtorEq, ↓reduceIte]) (by simp only [E1, Nat.reduceAdd, Nat.reduceEqDiff, reduceCtorEq, ↓reduceIte]; rfl) (by omega))
theorem b6c (l : List Nat) (hl : Nt l) : a0c Pr a9r [natV l] (.int .i64 (blen (val l))) := by
  refine a0c.intro b7x b7w (by simp only [List.length_cons, List.length_nil]; omega) (.int _ _) fun H hH => ?_
  refine Safe.seq (Safe.region ?_)
  simp only [b2y, E1, seval]
  refine Safe.seq (Safe.region ?_)
  simp only [b2x, E1, seval]
  refine (a1L l hl.lim hl.len).acall ?_
  try simp only [E1, seval]
  have nl := hl.limbs
  have vl := a0H (val l)
  have hlast := c0s (val l)
  generalize hA : limbs (val l) = A at nl vl hlast ⊢
  refine Safe.keep [0] (Safe.seq (Safe.seq (Safe.region ?_)))
  simp only [b2w, E1, seval]
  refine Safe.cond ?_
  simp only [E1, seval]
  rcases List.eq_nil_or_concat A with rfl | ⟨A', d, rfl⟩
  · simp only [E1, seval, Int.natCast_zero]
    refine Safe.seq (Safe.region ?_)
    simp only [b2v, E1, seval]
    refine Safe.retn ?_
    simp only [E1, seval]
    rw [← vl]
    exact ⟨rfl, [], rfl⟩
  · simp only [List.concat_eq_append] at *
    have hlen : (A' ++ [d]).length = A'.length + 1 := by simp
    have hn0 : ¬ (((A' ++ [d]).length : Int) = 0) := by omega
    have hg : (A' ++ [d]).getD A'.length 0 = d := by simp
    have hd : d ≠ 0 := by simpa using hlast
    have hlt : d < 4294967296 := nl.lim d (by simp)
    have := nl.len
    have hw : IntKind.i64.wrap (((A' ++ [d]).length : Int) - 1) = (A'.length : Int) := by rw [hlen, a0b] <;> omega
    simp only [hn0, E1, seval]
    refine Safe.skip (Safe.seq (Safe.region ?_))
    simp only [b2u, E1, seval, hw, a1r _ (A' ++ [d]) _ A'.length (by omega), hg]
    refine (c0t d hlt).acall ?_
    simp only [E1, seval]
    refine Safe.retn ?_
    simp only [E1, seval]
    have hb : blen d ≤ 32 := by
      rcases Nat.lt_or_ge 32 (blen d) with h | h
      · have := b8u hd
        have := Nat.pow_le_pow_right (show 0 < 2 by decide) (show 32 ≤ blen d - 1 by omega)
        omega
      · exact h
    rw [a0b (n := 32 * (A'.length : Int)) (by omega) (by omega), a0b (by omega) (by omega)]
    refine ⟨?_, [], rfl⟩
    rw [← vl, c0H (a9g.1 nl.lim).1 hd]
    congr 1
theorem b7n (a b : List Nat) (la : Lim a) (lb : Lim b) (ha : a.length < 17592186044416) (hb : b.length < 17592186044416) : a0c Pr a4A [natV a, natV b] (natV (limbs (val a + val b))) := by
  refine a0c.intro c0g c0f (by simp only [List.length_cons, List.length_nil]; omega) (a4d _) fun H hH => ?_
  refine Safe.seq (Safe.region ?_)
  have hLB : LB = 4294967296 := rfl
  simp only [b4C, E1, Nat.reduceAdd, Nat.reduceEqDiff, reduceCtorEq, ↓reduceIte]
  have main : ∀ (a b : List Nat) (env : Env) (s : Nat), Lim a → Lim b → b.length ≤ a.length → a.length < 17592186044416 → val a + val b = s → look env 0 = natV a → look env 1 = natV b →
      Safe ⟨Pr, fun _ _ => false, a4A, 58, [.tmp 4], H.length⟩ [.code ((ACode.region a9a false).seq ((ACode.region a8Z false).seq (((ACode.region a8Y false).seq (.block 0 (.loop a7c))).seq ((ACode.region a3w false).seq ((ACode.region a3v false).seq .ret)))))]
        env (hap H []) fun r' H' => r' = natV (limbs s) ∧ ∃ L, H' = hap H L := by
    intro a b env s la lb hle ha hs h0 h1
    refine Safe.seq (Safe.region ?_)
    have hw : IntKind.wrap .i64 ((a.length : Int) + 1) = ((a.length + 1 : Nat) : Int) := by rw [a0b] <;> omega
    simp only [a9a, E1, Nat.reduceAdd, Nat.reduceEqDiff, reduceCtorEq, ↓reduceIte, h0, hw, b1m _ H [] _ _ (a.length + 1) (by omega)]
    refine Safe.seq (Safe.region ?_)
    simp only [a8Z, E1, Nat.reduceAdd, Nat.reduceEqDiff, reduceCtorEq, ↓reduceIte]
    refine Safe.seq (Safe.seq (Safe.region ?_))
    simp only [a8Y, E1, Nat.reduceAdd, Nat.reduceEqDiff, reduceCtorEq, ↓reduceIte, h0]
    refine Safe.block (Safe.loop ?_)
    have key : ∀ (k i c : Nat) (x : List Nat), i + k = a.length → x.length = i → Lim x → c ≤ 1 → val x + LB ^ i * c = val (a.take i) + val (b.take i) →
        Safe ⟨Pr, fun _ _ => false, a4A, 58, [.tmp 4], H.length⟩ [.inLoop a7c, .inBlock 0, .code ((ACode.region a3w false).seq ((ACode.region a3v false).seq .ret))]
          [(0, natV a), (1, natV b), (5, .mu (lid H 0) 0 (a.length + 1) (some (a.length + 1))), (6, .int .u64 c), (20, .int .i64 a.length), (21, .int .i64 i)]
          (hap H [some ⟨1, u32s (x ++ List.replicate (k + 1) 0)⟩]) fun r' H' => r' = natV (limbs s) ∧ ∃ L, H' = hap H L := by
      intro k
      induction k with
      | zero =>
        intro i c x hik hx lx hc hv
        have hi : i = a.length := by omega
        subst hi
        refine Safe.inLoop (Safe.seq (Safe.region ?_))
        simp only [a8X, E1, Nat.reduceAdd, Nat.reduceEqDiff, reduceCtorEq, ↓reduceIte]
        refine Safe.seq (Safe.cond ?_)
        simp only [E1, Nat.reduceAdd, Nat.reduceEqDiff, reduceCtorEq, ↓reduceIte, Int.lt_irrefl]
        refine Safe.exit rfl (Safe.seq (Safe.region ?_))
        have hcw : IntKind.wrap .u32 (c : Int) = (c : Int) := a4K (by omega) (by omega)
        simp only [a3w, E1, Nat.reduceAdd, Nat.reduceEqDiff, reduceCtorEq, ↓reduceIte, b1W _ _ _ _ _ _ a.length (Nat.lt_succ_self _), hcw, b6a _ _ _ a.length c (show a.length < (x ++ List.replicate (0 + 1) 0).length by simp [hx])]
        rw [← hx, b7f, hx]
        simp only [List.replicate_zero, List.append_nil]
        have hlen : a.length + 1 = (x ++ [c]).length := by simp [hx]
        refine Safe.freeze 0 (b := ⟨1, u32s (x ++ [c])⟩) hH rfl rfl (a4f _) ?_
        refine Safe.seq (Safe.region ?_)
        simp only [a3v, E1, Nat.reduceAdd, Nat.reduceEqDiff, reduceCtorEq, ↓reduceIte, hlen]
        refine (a1L (x ++ [c]) (a5Y lx (by omega)) (by omega)).acall ?_
        try simp only [E1, Nat.reduceAdd, Nat.reduceEqDiff, reduceCtorEq, ↓reduceIte]
        refine Safe.retn ?_
        simp only [E1, Nat.reduceAdd, Nat.reduceEqDiff, reduceCtorEq, ↓reduceIte]
        rw [List.take_length, List.take_of_length_le hle] at hv
        rw [a8j, hx, hv, hs]
        first | exact ⟨rfl, _, rfl⟩ | exact ⟨_, rfl⟩ | exact ⟨trivial, _, rfl⟩
      | succ k ih =>
        intro i c x hik hx lx hc hv
        refine Safe.inLoop (Safe.seq (Safe.region ?_))
        simp only [a8X, E1, Nat.reduceAdd, Nat.reduceEqDiff, reduceCtorEq, ↓reduceIte]
        refine Safe.seq (Safe.cond ?_)
        have hlt : (i : Int) < (a.length : Int) := by omega
        simp only [E1, Nat.reduceAdd, Nat.reduceEqDiff, reduceCtorEq, ↓reduceIte, hlt]
        refine Safe.skip (Safe.seq (Safe.block (Safe.seq (Safe.region ?_))))
        simp only [b4z, E1, Nat.reduceAdd, Nat.reduceEqDiff, reduceCtorEq, ↓reduceIte]
        refine Safe.seq (Safe.region ?_)
        have xa := b3s la i
        have xb := b3s lb i
        have h1w : IntKind.wrap .u64 ((a.getD i 0 : Nat) : Int) = ((a.getD i 0 : Nat) : Int) := a1p (by omega) (by omega)
        have h2w : IntKind.wrap .u64 ((c : Int) + ((a.getD i 0 : Nat) : Int)) = ((c + a.getD i 0 : Nat) : Int) := by rw [a1p] <;> omega
        simp only [b4y, E1, Nat.reduceAdd, Nat.reduceEqDiff, reduceCtorEq, ↓reduceIte, a1r _ a _ i (by omega), h1w, h2w]
        refine Safe.seq (Safe.seq (Safe.region ?_))
        simp only [b4x, E1, Nat.reduceAdd, Nat.reduceEqDiff, reduceCtorEq, ↓reduceIte]
        refine Safe.cond ?_
        simp only [E1, Nat.reduceAdd, Nat.reduceEqDiff, reduceCtorEq, ↓reduceIte]
        have rest : ∀ env : Env, look env 0 = natV a → look env 1 = natV b → look env 5 = .mu (lid H 0) 0 (a.length + 1) (some (a.length + 1)) → look env 6 = .int .u64 (c + a.getD i 0 + b.getD i 0 : Nat) → look env 7 = .int .i64 i → look env 20 = .int .i64 a.length → look env 21 = .int .i64 i →
            Safe ⟨Pr, fun _ _ => false, a4A, 58, [.tmp 4], H.length⟩ [.code ((ACode.region a7M false).seq (.region a7L false)), .inBlock 1, .code (.region a7K false), .inLoop a7c, .inBlock 0, .code ((ACode.region a3w false).seq ((ACode.region a3v false).seq .ret))]
              env (hap H [some ⟨1, u32s (x ++ List.replicate (k + 1 + 1) 0)⟩]) fun r' H' => r' = natV (limbs s) ∧ ∃ L, H' = hap H L := by
          intro env e0 e1 e5 e6 e7 e20 e21
          refine Safe.seq (Safe.region ?_)
          have hcw : IntKind.wrap .u32 ((c + a.getD i 0 + b.getD i 0 : Nat) : Int) = (((c + a.getD i 0 + b.getD i 0) % LB : Nat) : Int) := a5X _
          simp only [a7M, E1, Nat.reduceAdd, Nat.reduceEqDiff, reduceCtorEq, ↓reduceIte, e5, e6, e7, b1W _ _ _ _ _ _ i (show i < a.length + 1 by omega), hcw, b6a _ _ _ i _ (show i < (x ++ List.replicate (k + 1 + 1) 0).length by simp [hx] <;> omega)]
          refine Safe.region ?_
          have hs32 : Int.fdiv ((c + a.getD i 0 + b.getD i 0 : Nat) : Int) (2 ^ min (Int.toNat 32) IntKind.u64.bits) = (((c + a.getD i 0 + b.getD i 0) / LB : Nat) : Int) := by
            rw [show (2 : Int) ^ min (Int.toNat 32) IntKind.u64.bits = (LB : Int) by decide, Int.fdiv_eq_ediv_of_nonneg _ (by decide)]; rfl
          simp only [a7L, E1, Nat.reduceAdd, Nat.reduceEqDiff, reduceCtorEq, ↓reduceIte, e6, a6d _ _ _ (show (0 : Int) ≤ 32 by decide), hs32]
          refine Safe.inBlock (Safe.region ?_)
          have hiw : IntKind.wrap .i64 ((i : Int) + 1) = ((i + 1 : Nat) : Int) := by rw [a0b] <;> omega
          simp only [a7K, E1, Nat.reduceAdd, Nat.reduceEqDiff, reduceCtorEq, ↓reduceIte, e21, hiw]
          refine Safe.keep [0, 1, 5, 6, 20, 21] ?_
          simp only [E1, Nat.reduceAdd, Nat.reduceEqDiff, reduceCtorEq, ↓reduceIte, e0, e1, e5, e20]
          have hset : (x ++ List.replicate (k + 1 + 1) 0).set i ((c + a.getD i 0 + b.getD i 0) % LB) = (x ++ [(c + a.getD i 0 + b.getD i 0) % LB]) ++ List.replicate (k + 1) 0 := by subst hx; exact b7f _ _ _
          rw [hset]
          refine ih (i + 1) _ _ (by omega) (by simp [hx]) (a5Y lx (Nat.mod_lt _ (by decide))) ?_ ?_
          · have : c + a.getD i 0 + b.getD i 0 < LB * 2 := by omega
            have := Nat.div_lt_of_lt_mul this
            omega
          · rw [a8j, hx, a0S, a0S, Nat.pow_succ]
            exact c3k (i := 0) hv
        by_cases hib : i < b.length
        · have hib' : (i : Int) < (b.length : Int) := by omega
          simp only [hib', E1, Nat.reduceAdd, Nat.reduceEqDiff, reduceCtorEq, ↓reduceIte]
          refine Safe.region ?_
          have h3w : IntKind.wrap .u64 ((b.getD i 0 : Nat) : Int) = ((b.getD i 0 : Nat) : Int) := a1p (by omega) (by omega)
          have h4w : IntKind.wrap .u64 (((c + a.getD i 0 : Nat) : Int) + ((b.getD i 0 : Nat) : Int)) = ((c + a.getD i 0 + b.getD i 0 : Nat) : Int) := by rw [a1p] <;> omega
          simp only [b2z, E1, Nat.reduceAdd, Nat.reduceEqDiff, reduceCtorEq, ↓reduceIte, a1r _ b _ i hib, h3w, h4w]
          exact rest _ (by simp only [E1, Nat.reduceAdd, Nat.reduceEqDiff, reduceCtorEq, ↓reduceIte]) (by simp only [E1, Nat.reduceAdd, Nat.reduceEqDiff, reduceCtorEq, ↓reduceIte]) (by simp only [E1, Nat.reduceAdd, Nat.reduceEqDiff, reduceCtorEq, ↓reduceIte]) (by simp only [E1, Nat.reduceAdd, Nat.reduceEqDiff, reduceCtorEq, ↓reduceIte]) (by simp only [E1, Nat.reduceAdd, Nat.reduceEqDiff, reduceCtorEq, ↓reduceIte]) (by simp only [E1, Nat.reduceAdd, Nat.reduceEqDiff, reduceCtorEq, ↓reduceIte]) (by simp only [E1, Nat.reduceAdd, Nat.reduceEqDiff, reduceCtorEq, ↓reduceIte])
        · have hib' : ¬ (i : Int) < (b.length : Int) := by omega
          simp only [hib', E1, Nat.reduceAdd, Nat.reduceEqDiff, reduceCtorEq, ↓reduceIte]
          have hz : b.getD i 0 = 0 := by rw [List.getD_eq_getElem?_getD, List.getElem?_eq_none (by omega)]; rfl
          refine Safe.skip (rest _ (by simp only [E1, Nat.reduceAdd, Nat.reduceEqDiff, reduceCtorEq, ↓reduceIte]) (by simp only [E1, Nat.reduceAdd, Nat.reduceEqDiff, reduceCtorEq, ↓reduceIte]) (by simp only [E1, Nat.reduceAdd, Nat.reduceEqDiff, reduceCtorEq, ↓reduceIte]) (by simp only [E1, Nat.reduceAdd, Nat.reduceEqDiff, reduceCtorEq, ↓reduceIte, hz]) (by simp only [E1, Nat.reduceAdd, Nat.reduceEqDiff, reduceCtorEq, ↓reduceIte]) (by simp only [E1, Nat.reduceAdd, Nat.reduceEqDiff, reduceCtorEq, ↓reduceIte]) (by simp only [E1, Nat.reduceAdd, Nat.reduceEqDiff, reduceCtorEq, ↓reduceIte]))
    refine Safe.keep [0, 1, 5, 6, 20, 21] ?_
    simp only [E1, Nat.reduceAdd, Nat.reduceEqDiff, reduceCtorEq, ↓reduceIte, h0, h1]
    exact key a.length 0 0 [] (by omega) rfl c1V (by omega) (by simp [val])
  refine Safe.seq (Safe.seq (Safe.region ?_))
  simp only [b4B, E1, Nat.reduceAdd, Nat.reduceEqDiff, reduceCtorEq, ↓reduceIte]
  refine Safe.cond ?_
  simp only [E1, Nat.reduceAdd, Nat.reduceEqDiff, reduceCtorEq, ↓reduceIte]
  by_cases hlt : a.length < b.length
  · have hlt' : (a.length : Int) < (b.length : Int) := by omega
    simp only [hlt', E1, Nat.reduceAdd, Nat.reduceEqDiff, reduceCtorEq, ↓reduceIte]
    refine Safe.region ?_
    simp only [b4A, E1, Nat.reduceAdd, Nat.reduceEqDiff, reduceCtorEq, ↓reduceIte]
    exact main b a _ _ lb la (by omega) hb (Nat.add_comm _ _) (by simp only [E1, Nat.reduceAdd, Nat.reduceEqDiff, reduceCtorEq, ↓reduceIte]) (by simp only [E1, Nat.reduceAdd, Nat.reduceEqDiff, reduceCtorEq, ↓reduceIte])
  · have hlt' : ¬ (a.length : Int) < (b.length : Int) := by omega
    simp only [hlt', E1, Nat.reduceAdd, Nat.reduceEqDiff, reduceCtorEq, ↓reduceIte]
    exact Safe.skip (main a b _ _ la lb (by omega) ha rfl (by simp only [E1, Nat.reduceAdd, Nat.reduceEqDiff, reduceCtorEq, ↓reduceIte]) (by simp only [E1, Nat.reduceAdd, Nat.reduceEqDiff, reduceCtorEq, ↓reduceIte]))
theorem c3r (w r : List Nat) (k d : Nat) (h : k < w.length) : (w ++ r).set k d = w.set k d ++ r := List.set_append_left _ _ h
theorem c2m (w r : List Nat) (k : Nat) (h : k < w.length) : (w ++ r).getD k 0 = w.getD k 0 := by
  simp [List.getElem?_append_left h]
theorem b7l (a b : List Nat) (ha : Nt a) (hb : Nt b) (hab : a.length + b.length ≤ 17592186044416) : a0c Pr a4z [natV a, natV b] (natV (limbs (val a * val b))) := by
  refine a0c.intro c0b c0a (by simp only [List.length_cons, List.length_nil]; omega) (a4d _) fun H hH => ?_
  refine Safe.seq (Safe.region ?_)
  have hLB : LB = 4294967296 := rfl
  simp only [b4k, E1, Nat.reduceAdd, Nat.reduceEqDiff, reduceCtorEq, ↓reduceIte]
  refine Safe.seq (Safe.region ?_)
  simp only [b4j, E1, Nat.reduceAdd, Nat.reduceEqDiff, reduceCtorEq, ↓reduceIte]
  refine (a1L a ha.lim ha.len).acall ?_
  try simp only [E1, Nat.reduceAdd, Nat.reduceEqDiff, reduceCtorEq, ↓reduceIte]
  refine (a1L b hb.lim hb.len).acall ?_
  try simp only [E1, Nat.reduceAdd, Nat.reduceEqDiff, reduceCtorEq, ↓reduceIte]
  have la := a1Y (val a)
  have lb := a1Y (val b)
  have va := a0H (val a)
  have vb := a0H (val b)
  have hA := a5h ha.lim
  have hB := a5h hb.lim
  generalize limbs (val a) = A at la va hA ⊢
  generalize limbs (val b) = B at lb vb hB ⊢
  refine Safe.keep [0, 1] (Safe.seq (Safe.region ?_))
  have hw : IntKind.wrap .i64 ((A.length : Int) + (B.length : Int)) = ((A.length + B.length : Nat) : Int) := by rw [a0b] <;> omega
  simp only [b4i, E1, Nat.reduceAdd, Nat.reduceEqDiff, reduceCtorEq, ↓reduceIte, hw, b1m _ H [] _ _ (A.length + B.length) (by omega)]
  refine Safe.seq (Safe.seq (Safe.region ?_))
  simp only [b4h, E1, Nat.reduceAdd, Nat.reduceEqDiff, reduceCtorEq, ↓reduceIte]
  refine Safe.block (Safe.loop ?_)
  -- the inner loop
  have inner : ∀ (todo : List AItem) (i x : Nat) (z vx : Nat), i < A.length → x = A.getD i 0 → 
      (∀ (w : List Nat) (c : Nat) (env : Env), w.length = i + B.length → Lim w → c < LB → val w + LB ^ (i + B.length) * c = vx + LB ^ i * (x * val B) →
        look env 0 = natV A → look env 1 = natV B → look env 5 = .mu (lid H 0) 0 (A.length + B.length) (some (A.length + B.length)) → look env 6 = .int .i64 i → look env 7 = .int .u64 c → look env 20 = .int .i64 A.length → look env 21 = .int .i64 i →
        Safe ⟨Pr, fun _ _ => false, a4z, 71, [.tmp 4], H.length⟩ todo env (hap H [some ⟨1, u32s (w ++ List.replicate z 0)⟩]) fun r' H' => r' = natV (limbs (val a * val b)) ∧ ∃ L, H' = hap H L) →
      ∀ (k j c : Nat) (w : List Nat), j + k = B.length → w.length = i + B.length → Lim w → c < LB → val w + LB ^ (i + j) * c = vx + LB ^ i * (x * val (B.take j)) →
        Safe ⟨Pr, fun _ _ => false, a4z, 71, [.tmp 4], H.length⟩ (.inLoop b4l :: .inBlock 2 :: todo)
          [(0, natV A), (1, natV B), (5, .mu (lid H 0) 0 (A.length + B.length) (some (A.length + B.length))), (6, .int .i64 i), (7, .int .u64 c), (20, .int .i64 A.length), (21, .int .i64 i), (25, .int .i64 B.length), (26, .int .i64 j)]
          (hap H [some ⟨1, u32s (w ++ List.replicate z 0)⟩]) fun r' H' => r' = natV (limbs (val a * val b)) ∧ ∃ L, H' = hap H L := by
    intro todo i x z vx hi hx hk k
    induction k with
    | zero =>
      intro j c w hjk hw lw hc hv
      have hj : j = B.length := by omega
      subst hj
      refine Safe.inLoop (Safe.seq (Safe.region ?_))
      simp only [a8U, E1, Nat.reduceAdd, Nat.reduceEqDiff, reduceCtorEq, ↓reduceIte]
      refine Safe.seq (Safe.cond ?_)
      simp only [E1, Nat.reduceAdd, Nat.reduceEqDiff, reduceCtorEq, ↓reduceIte, Int.lt_irrefl]
      refine Safe.exit rfl ?_
      rw [List.take_length] at hv
      exact hk w c _ hw lw hc hv (by simp only [E1, Nat.reduceAdd, Nat.reduceEqDiff, reduceCtorEq, ↓reduceIte]) (by simp only [E1, Nat.reduceAdd, Nat.reduceEqDiff, reduceCtorEq, ↓reduceIte]) (by simp only [E1, Nat.reduceAdd, Nat.reduceEqDiff, reduceCtorEq, ↓reduceIte]) (by simp only [E1, Nat.reduceAdd, Nat.reduceEqDiff, reduceCtorEq, ↓reduceIte]) (by simp only [E1, Nat.reduceAdd, Nat.reduceEqDiff, reduceCtorEq, ↓reduceIte]) (by simp only [E1, Nat.reduceAdd, Nat.reduceEqDiff, reduceCtorEq, ↓reduceIte]) (by simp only [E1, Nat.reduceAdd, Nat.reduceEqDiff, reduceCtorEq, ↓reduceIte])
    | succ k ih =>
      intro j c w hjk hw lw hc hv
      refine Safe.inLoop (Safe.seq (Safe.region ?_))
      simp only [a8U, E1, Nat.reduceAdd, Nat.reduceEqDiff, reduceCtorEq, ↓reduceIte]
      refine Safe.seq (Safe.cond ?_)
      have hlt : (j : Int) < (B.length : Int) := by omega
      simp only [E1, Nat.reduceAdd, Nat.reduceEqDiff, reduceCtorEq, ↓reduceIte, hlt]
      refine Safe.skip (Safe.seq (Safe.block (Safe.seq (Safe.region ?_))))
      simp only [b4d, E1, Nat.reduceAdd, Nat.reduceEqDiff, reduceCtorEq, ↓reduceIte]
      refine Safe.seq (Safe.regionD ?_)
      have xa := b3s la i
      have xb := b3s lb j
      have xw := b3s lw (i + j)
      have hfit := c3W hc xa xb xw
      have hLL : LB * LB = 18446744073709551616 := by decide
      have h1w : IntKind.wrap .u64 ((A.getD i 0 : Nat) : Int) = ((A.getD i 0 : Nat) : Int) := a1p (by omega) (by omega)
      have h2w : IntKind.wrap .u64 ((B.getD j 0 : Nat) : Int) = ((B.getD j 0 : Nat) : Int) := a1p (by omega) (by omega)
      have h3w : IntKind.wrap .u64 ((w.getD (i + j) 0 : Nat) : Int) = ((w.getD (i + j) 0 : Nat) : Int) := a1p (by omega) (by omega)
      have h4w : IntKind.wrap .u64 (((A.getD i 0 : Nat) : Int) * ((B.getD j 0 : Nat) : Int)) = ((A.getD i 0 * B.getD j 0 : Nat) : Int) := by rw [← Int.natCast_mul, a1p] <;> omega
      have h5w : IntKind.wrap .u64 (((A.getD i 0 * B.getD j 0 : Nat) : Int) + ((w.getD (i + j) 0 : Nat) : Int)) = ((A.getD i 0 * B.getD j 0 + w.getD (i + j) 0 : Nat) : Int) := by rw [a1p] <;> omega
      have h6w : IntKind.wrap .u64 ((c : Int) + ((A.getD i 0 * B.getD j 0 + w.getD (i + j) 0 : Nat) : Int)) = ((c + A.getD i 0 * B.getD j 0 + w.getD (i + j) 0 : Nat) : Int) := by rw [a1p] <;> omega
      have h7w : IntKind.wrap .i64 ((i : Int) + (j : Int)) = ((i + j : Nat) : Int) := by rw [a0b] <;> omega
      simp only [b2p, E1, Nat.reduceAdd, Nat.reduceEqDiff, reduceCtorEq, ↓reduceIte, a1r _ A _ i hi, a1r _ B _ j (by omega), h1w, h2w, h3w, h4w, h7w, b1W _ _ _ _ _ _ (i + j) (show i + j < A.length + B.length by omega), c7P _ _ (i + j) (show i + j < (w ++ List.replicate z 0).length by simp [hw]; omega),
        c2m w _ (i + j) (show i + j < w.length by omega), h5w, h6w]
      refine Safe.seq (Safe.region ?_)
      have hcw : IntKind.wrap .u32 ((c + A.getD i 0 * B.getD j 0 + w.getD (i + j) 0 : Nat) : Int) = (((c + A.getD i 0 * B.getD j 0 + w.getD (i + j) 0) % LB : Nat) : Int) := a5X _
      simp only [b2o, E1, Nat.reduceAdd, Nat.reduceEqDiff, reduceCtorEq, ↓reduceIte, h7w, hcw, b1W _ _ _ _ _ _ (i + j) (show i + j < A.length + B.length by omega), b6a _ _ _ (i + j) _ (show i + j < (w ++ List.replicate z 0).length by simp [hw]; omega), c3r w _ (i + j) _ (show i + j < w.length by omega)]
      refine Safe.region ?_
      simp only [b2n, E1, Nat.reduceAdd, Nat.reduceEqDiff, reduceCtorEq, ↓reduceIte, a6d _ _ _ (show (0 : Int) ≤ 32 by decide), c7E]
      refine Safe.inBlock (Safe.region ?_)
      have hiw : IntKind.wrap .i64 ((j : Int) + 1) = ((j + 1 : Nat) : Int) := by rw [a0b] <;> omega
      simp only [b2m, E1, Nat.reduceAdd, Nat.reduceEqDiff, reduceCtorEq, ↓reduceIte, hiw]
      refine Safe.keep [0, 1, 5, 6, 7, 20, 21, 25, 26] ?_
      simp only [E1, Nat.reduceAdd, Nat.reduceEqDiff, reduceCtorEq, ↓reduceIte]
      refine ih (j + 1) _ _ (by omega) (by simp [hw]) (c6o lw (Nat.mod_lt _ (by decide))) ?_ ?_
      · exact Nat.div_lt_of_lt_mul hfit
      · rw [a0S, show i + (j + 1) = (i + j) + 1 by omega, Nat.pow_succ]
        subst hx
        exact c3V (Nat.pow_add LB i j) hv (c5B (by omega)) rfl
  have outer : ∀ (k i : Nat) (x : List Nat), i + k = A.length → x.length = i + B.length → Lim x → val x = val (A.take i) * val B →
        Safe ⟨Pr, fun _ _ => false, a4z, 71, [.tmp 4], H.length⟩ [.inLoop b4m, .inBlock 0, .code ((ACode.region a7I false).seq .ret)]
          [(0, natV A), (1, natV B), (5, .mu (lid H 0) 0 (A.length + B.length) (some (A.length + B.length))), (20, .int .i64 A.length), (21, .int .i64 i)]
          (hap H [some ⟨1, u32s (x ++ List.replicate k 0)⟩]) fun r' H' => r' = natV (limbs (val a * val b)) ∧ ∃ L, H' = hap H L := by
    intro k
    induction k with
    | zero =>
      intro i x hik hx lx hv
      have hi : i = A.length := by omega
      subst hi
      refine Safe.inLoop (Safe.seq (Safe.region ?_))
      simp only [a8V, E1, Nat.reduceAdd, Nat.reduceEqDiff, reduceCtorEq, ↓reduceIte]
      refine Safe.seq (Safe.cond ?_)
      simp only [E1, Nat.reduceAdd, Nat.reduceEqDiff, reduceCtorEq, ↓reduceIte, Int.lt_irrefl]
      refine Safe.exit rfl ?_
      simp only [List.replicate_zero, List.append_nil]
      refine Safe.freeze 0 (b := ⟨1, u32s x⟩) hH rfl rfl (a4f _) ?_
      refine Safe.seq (Safe.region ?_)
      simp only [a7I, E1, Nat.reduceAdd, Nat.reduceEqDiff, reduceCtorEq, ↓reduceIte, ← hx]
      refine (a1L x lx (by omega)).acall ?_
      try simp only [E1, Nat.reduceAdd, Nat.reduceEqDiff, reduceCtorEq, ↓reduceIte]
      refine Safe.retn ?_
      simp only [E1, Nat.reduceAdd, Nat.reduceEqDiff, reduceCtorEq, ↓reduceIte]
      rw [List.take_length] at hv
      rw [hv, va, vb]
      first | exact ⟨rfl, _, rfl⟩ | exact ⟨_, rfl⟩ | exact ⟨trivial, _, rfl⟩
    | succ k ih =>
      intro i x hik hx lx hv
      refine Safe.inLoop (Safe.seq (Safe.region ?_))
      simp only [a8V, E1, Nat.reduceAdd, Nat.reduceEqDiff, reduceCtorEq, ↓reduceIte]
      refine Safe.seq (Safe.cond ?_)
      have hlt : (i : Int) < (A.length : Int) := by omega
      simp only [E1, Nat.reduceAdd, Nat.reduceEqDiff, reduceCtorEq, ↓reduceIte, hlt]
      refine Safe.skip (Safe.seq (Safe.block (Safe.seq (Safe.region ?_))))
      simp only [b4g, E1, Nat.reduceAdd, Nat.reduceEqDiff, reduceCtorEq, ↓reduceIte]
      refine Safe.seq (Safe.region ?_)
      simp only [b4f, E1, Nat.reduceAdd, Nat.reduceEqDiff, reduceCtorEq, ↓reduceIte]
      refine Safe.seq (Safe.seq (Safe.region ?_))
      simp only [b4e, E1, Nat.reduceAdd, Nat.reduceEqDiff, reduceCtorEq, ↓reduceIte]
      refine Safe.block (Safe.loop ?_)
      refine Safe.keep [0, 1, 5, 6, 7, 20, 21, 25, 26] ?_
      simp only [E1, Nat.reduceAdd, Nat.reduceEqDiff, reduceCtorEq, ↓reduceIte]
      refine inner _ i _ (k + 1) (val x) (by omega) rfl ?_ B.length 0 0 x (by omega) hx lx (by decide) (by simp [val])
      intro w c env hw lw hc hv2 e0 e1 e5 e6 e7 e20 e21
      refine Safe.region ?_
      have h7w : IntKind.wrap .i64 ((i : Int) + (B.length : Int)) = ((i + B.length : Nat) : Int) := by rw [a0b] <;> omega
      have hcw : IntKind.wrap .u32 (c : Int) = (c : Int) := a4K (by omega) (by omega)
      simp only [b2l, E1, Nat.reduceAdd, Nat.reduceEqDiff, reduceCtorEq, ↓reduceIte, e0, e1, e5, e6, e7, h7w, hcw, b1W _ _ _ _ _ _ (i + B.length) (show i + B.length < A.length + B.length by omega), b6a _ _ _ (i + B.length) _ (show i + B.length < (w ++ List.replicate (k + 1) 0).length by simp [hw])]
      refine Safe.inBlock (Safe.region ?_)
      have hiw : IntKind.wrap .i64 ((i : Int) + 1) = ((i + 1 : Nat) : Int) := by rw [a0b] <;> omega
      simp only [b2k, E1, Nat.reduceAdd, Nat.reduceEqDiff, reduceCtorEq, ↓reduceIte, e21, hiw]
      refine Safe.keep [0, 1, 5, 20, 21] ?_
      simp only [E1, Nat.reduceAdd, Nat.reduceEqDiff, reduceCtorEq, ↓reduceIte, e0, e1, e5, e20]
      have hset : (w ++ List.replicate (k + 1) 0).set (i + B.length) c = (w ++ [c]) ++ List.replicate k 0 := by rw [← hw]; exact b7f _ _ _
      rw [hset]
      refine ih (i + 1) _ (by omega) (by simp [hw]; omega) (a5Y lw hc) ?_
      rw [a8j, hw, hv2, a0S, hv, Nat.add_mul, Nat.mul_assoc]
  refine Safe.keep [0, 1, 5, 20, 21] ?_
  simp only [E1, Nat.reduceAdd, Nat.reduceEqDiff, reduceCtorEq, ↓reduceIte]
  have := outer A.length 0 (List.replicate B.length 0) (by omega) (by simp) (by intro d hd; simp at hd; omega) (by simp [b4R, val])
  rw [List.replicate_append_replicate, Nat.add_comm B.length] at this
  exact this
end Go.Abs
namespace Go.Abs
theorem b3f (neg : Bool) (l : List Nat) (hl : Nt l) : a0c Pr a1B [.bool neg, natV l] (Z (sgn neg (val l))) := by
  refine a0c.introL b5C b5B (by simp only [List.length_cons, List.length_nil]; omega) (Z_cl _) fun H hH => ?_
  have hll := hl.len
  refine Safe.seq (Safe.region ?_)
  simp only [a9x, E2, seval]
  refine Safe.seq (Safe.region ?_)
  simp only [a9w, E2, seval]
  refine Safe.seq (Safe.block (Safe.loop ?_))
  have copy : ∀ (n : Nat), n ≤ l.length → limbs (val l) = l.take n → ∀ env : Env, look env 0 = .bool neg → look env 1 = natV l → look env 4 = .loc (lid H 0) 0 0 → look env 5 = .int .i64 n →
      Safe ⟨Pr, fun _ _ => false, a1B, 32, [.cell 4 (some 2)], H.length⟩ [.code (((ACode.region a3N false).seq (.cond (.t 22) ((ACode.region a3M false).seq .ret) .skip)).seq ((ACode.region a3L false).seq ((ACode.region a3K false).seq ((ACode.region a3J false).seq .ret))))]
        env (hap H [some ⟨2, [.agg [.bool false, .nil]]⟩]) fun r' H' => Le r' (Z (sgn neg (val l))) ∧ ∃ L, H' = hap H L := by
    intro n hn hlim env e0 e1 e4 e5
    refine Safe.seq (Safe.seq (Safe.region ?_))
    simp only [a3N, E2, seval, e5]
    refine Safe.cond ?_
    simp only [E2, seval]
    by_cases h0 : n = 0
    · subst h0
      simp only [Int.natCast_zero, E2, seval]
      refine Safe.seq (Safe.region ?_)
      simp only [a3M, E2, seval, e4]
      refine Safe.retn ?_
      simp only [E2, seval, e4]
      refine ⟨?_, _, rfl⟩
      have : val l = 0 := by
        have := a0H (val l)
        rw [hlim] at this
        simpa [val] using this.symm
      rw [this, b8F]
      exact le_zero
    · have h0' : ¬ ((n : Int) = 0) := by omega
      simp only [h0', E2, seval]
      refine Safe.skip (Safe.seq (Safe.region ?_))
      simp only [a3L, E2, seval, e5, b1m _ H [some ⟨2, [.agg [.bool false, .nil]]⟩] _ _ n (by omega)]
      refine Safe.seq (Safe.region ?_)
      have hc := b9b ((28, .int .i64 n) :: []) H [some ⟨2, [.agg [.bool false, .nil]]⟩, some ⟨1, u32s (List.replicate n 0)⟩] 1 1 n (some n) (natV l) (u32s (List.replicate n 0)) (u32s l) rfl (by simp [a1i]) (b1k _ l) (by rw [a1i]; exact hn)
      simp only [a3K, E2, seval, e1]
      rw [b9b _ H [some ⟨2, [.agg [.bool false, .nil]]⟩, some ⟨1, u32s (List.replicate n 0)⟩] 1 1 n (some n) (natV l) (u32s (List.replicate n 0)) (u32s l) rfl (by simp [a1i]) (b1k _ l) (by rw [a1i]; exact hn)]
      simp only [E2, seval, b5O]
      refine Safe.freeze 1 (b := ⟨1, u32s (l.take n)⟩) hH rfl rfl (a4f _) ?_
      have hlen : n = (l.take n).length := by rw [List.length_take]; omega
      have hfm : frz (lid H 1) ⟨1, u32s (l.take n)⟩ (.mu (lid H 1) 0 n (some n)) = natV (l.take n) := by
        have := a9j H 1 (l.take n) (some n)
        rwa [← hlen] at this
      refine Safe.keep [0, 4, 6] ?_
      simp only [E2, seval, b6q, e0, e4, hfm, a8B H 1 0 _ 0 0 (by decide)]
      refine Safe.seq (Safe.region ?_)
      simp only [a3J, E2, seval]
      refine Safe.retn ?_
      simp only [E2, seval]
      refine ⟨?_, _, rfl⟩
      rw [← c8w, hlim]
      have hp : 0 < val l := by
        rcases Nat.eq_zero_or_pos (val l) with h | h
        · rw [h, a0v] at hlim
          have := congrArg List.length hlim
          simp at this; omega
        · exact h
      simp only [hp, decide_true, Bool.and_true]
      exact Le.refl _
  have key : ∀ (n : Nat), n ≤ l.length → val (l.take n) = val l → ∀ env : Env, look env 0 = .bool neg → look env 1 = natV l → look env 4 = .loc (lid H 0) 0 0 → look env 5 = .int .i64 n →
      Safe ⟨Pr, fun _ _ => false, a1B, 32, [.cell 4 (some 2)], H.length⟩ [.inLoop a9y, .inBlock 0, .code (((ACode.region a3N false).seq (.cond (.t 22) ((ACode.region a3M false).seq .ret) .skip)).seq ((ACode.region a3L false).seq ((ACode.region a3K false).seq ((ACode.region a3J false).seq .ret))))]
        env (hap H [some ⟨2, [.agg [.bool false, .nil]]⟩]) fun r' H' => Le r' (Z (sgn neg (val l))) ∧ ∃ L, H' = hap H L := by
    intro n
    induction n with
    | zero =>
      intro hn hv env e0 e1 e4 e5
      refine Safe.inLoop (Safe.seq (Safe.seq (Safe.region ?_)))
      simp only [a5F, E2, seval, e1, e5, Int.natCast_zero, Int.lt_irrefl]
      refine Safe.cond ?_
      simp only [E2, seval]
      refine Safe.exit rfl (copy 0 hn ?_ _ (by simp only [E2, seval, e0]) (by simp only [E2, seval, e1]) (by simp only [E2, seval, e4]) (by simp only [E2, seval, e5] <;> rfl))
      rw [← hv]; simp [val, a0v]
    | succ n ih =>
      intro hn hv env e0 e1 e4 e5
      refine Safe.inLoop (Safe.seq (Safe.seq (Safe.region ?_)))
      have h0 : (0 : Int) < ((n + 1 : Nat) : Int) := by omega
      have hw : IntKind.wrap .i64 (((n + 1 : Nat) : Int) - 1) = (n : Int) := by rw [a0b] <;> omega
      simp only [a5F, E2, seval, e1, e5, h0, hw, a1r _ l _ n (by omega)]
      refine Safe.cond ?_
      simp only [E2, seval]
      by_cases hd : l.getD n 0 = 0
      · simp only [hd, Int.natCast_zero, E2, seval]
        refine Safe.skip (Safe.block (Safe.region ?_))
        simp only [a9v, E2, seval, e5, hw]
        refine Safe.inBlock (ih (by omega) ?_ _ (by simp only [E2, seval, e0]) (by simp only [E2, seval, e1]) (by simp only [E2, seval, e4]) (by simp only [E2, seval]))
        rw [← hv, a0S, hd]; simp
      · have hd' : ¬ (((l.getD n 0 : Nat) : Int) = 0) := by omega
        simp only [hd', E2, seval]
        refine Safe.exit rfl (copy (n + 1) hn ?_ _ (by simp only [E2, seval, e0]) (by simp only [E2, seval, e1]) (by simp only [E2, seval, e4]) (by simp only [E2, seval, e5]))
        rw [← hv, a8x (hl.lim.take _)]
        rw [c0X (by omega)]; simpa using hd
  exact key l.length (Nat.le_refl _) (by rw [List.take_length]) _ (by simp only [E2, seval]) (by simp only [E2, seval]) (by simp only [E2, seval]) (by simp only [E2, seval])
theorem b9v (x : ZI) (hx : Zok 17592186044416 x) : a0c Pr a3D [x.av] (Z x.z) := by
  obtain ⟨n, m⟩ := x
  have hm : Nt m := ⟨hx.lim, hx.len⟩
  simp only [ZI.av, ZI.z]
  refine a0c.intro b5J b5I (by simp only [List.length_cons, List.length_nil]; omega) (Z_cl _) fun H hH => ?_
  refine Safe.seq (Safe.region ?_)
  simp only [a9P, E2, seval]
  refine Safe.seq (Safe.region ?_)
  simp only [a9O, E2, seval]
  refine (b3f n m hm).acall ?_
  simp only [Z, E2, seval]
  refine Safe.retn ?_
  simp only [E2, seval]
  first | exact ⟨rfl, _, rfl⟩ | exact ⟨_, rfl⟩ | exact ⟨trivial, _, rfl⟩
theorem b4L (n : Int) (h0 : -9223372036854775808 ≤ n) (h1 : n < 9223372036854775808) : a0c Pr a8G [.int .i64 n] (Z n) := by
  refine a0c.intro b9t b9s (by simp only [List.length_cons, List.length_nil]; omega) (Z_cl _) fun H hH => ?_
  have hLB : LB = 4294967296 := rfl
  refine Safe.seq (Safe.region ?_)
  simp only [b3V, E2, Nat.reduceLeDiff, Nat.reduceSub, Nat.reduceAdd, Nat.reduceEqDiff, reduceCtorEq, ↓reduceIte]
  refine Safe.seq (Safe.region ?_)
  simp only [b3U, E2, Nat.reduceLeDiff, Nat.reduceSub, Nat.reduceAdd, Nat.reduceEqDiff, reduceCtorEq, ↓reduceIte]
  refine Safe.seq (Safe.seq (Safe.region ?_))
  simp only [b3T, E2, Nat.reduceLeDiff, Nat.reduceSub, Nat.reduceAdd, Nat.reduceEqDiff, reduceCtorEq, ↓reduceIte]
  refine Safe.cond ?_
  simp only [E2, Nat.reduceLeDiff, Nat.reduceSub, Nat.reduceAdd, Nat.reduceEqDiff, reduceCtorEq, ↓reduceIte]
  have rest : ∀ (env : Env), look env 0 = .int .i64 n → look env 2 = .loc (lid H 0) 0 0 → look env 3 = .int .u64 (n.natAbs : Nat) →
      Safe ⟨Pr, fun _ _ => false, a8G, 19, [.cell 2 (some 2)], H.length⟩ [.code ((ACode.region a8J false).seq .ret)] env (hap H [some ⟨2, [.agg [.bool false, .nil]]⟩]) fun r' H' => r' = Z n ∧ ∃ L, H' = hap H L := by
    intro env e0 e2 e3
    refine Safe.seq (Safe.region ?_)
    have w1 : IntKind.wrap .u32 ((n.natAbs : Nat) : Int) = ((n.natAbs % LB : Nat) : Int) := a5X _
    have hLL : LB * LB = 18446744073709551616 := by decide
    have hdiv : n.natAbs / LB < LB := Nat.div_lt_of_lt_mul (by omega)
    have w2 : IntKind.wrap .u32 ((n.natAbs / LB : Nat) : Int) = ((n.natAbs / LB : Nat) : Int) := a4K (Int.natCast_nonneg _) (by omega)
    simp only [a8J, E2, Nat.reduceLeDiff, Nat.reduceSub, Nat.reduceAdd, Nat.reduceEqDiff, reduceCtorEq, ↓reduceIte, e0, e3, e2, w1, a6d _ _ _ (show (0 : Int) ≤ 32 by decide), c7E, w2]
    have hm := Nat.mod_lt n.natAbs (show 0 < LB by decide)
    have := b3f (decide (n < 0)) [n.natAbs % LB, n.natAbs / LB] ⟨by intro d hd; simp at hd; omega, by simp⟩
    have hv : val [n.natAbs % LB, n.natAbs / LB] = n.natAbs := by
      simp only [val]; rw [Nat.mul_zero, Nat.add_zero, Nat.mod_add_div]
    rw [hv, show sgn (decide (n < 0)) n.natAbs = n by unfold sgn; by_cases h : n < 0 <;> simp [h] <;> omega] at this
    refine a0c.acall this ?_
    simp only [Z, E2, Nat.reduceLeDiff, Nat.reduceSub, Nat.reduceAdd, Nat.reduceEqDiff, reduceCtorEq, ↓reduceIte, e2]
    refine Safe.retn ?_
    simp only [E2, Nat.reduceLeDiff, Nat.reduceSub, Nat.reduceAdd, Nat.reduceEqDiff, reduceCtorEq, ↓reduceIte, e2]
    first | exact ⟨rfl, _, rfl⟩ | exact ⟨_, rfl⟩ | exact ⟨trivial, _, rfl⟩
  by_cases hn : n < 0
  · simp only [hn, E2, Nat.reduceLeDiff, Nat.reduceSub, Nat.reduceAdd, Nat.reduceEqDiff, reduceCtorEq, ↓reduceIte]
    refine Safe.region ?_
    have w : IntKind.wrap .u64 (0 - IntKind.wrap .u64 n) = ((n.natAbs : Nat) : Int) := by rw [a5W, a5W]; omega
    simp only [b3S, E2, Nat.reduceLeDiff, Nat.reduceSub, Nat.reduceAdd, Nat.reduceEqDiff, reduceCtorEq, ↓reduceIte, w]
    exact rest _ (by simp only [E2, Nat.reduceLeDiff, Nat.reduceSub, Nat.reduceAdd, Nat.reduceEqDiff, reduceCtorEq, ↓reduceIte]) (by simp only [E2, Nat.reduceLeDiff, Nat.reduceSub, Nat.reduceAdd, Nat.reduceEqDiff, reduceCtorEq, ↓reduceIte]) (by simp only [E2, Nat.reduceLeDiff, Nat.reduceSub, Nat.reduceAdd, Nat.reduceEqDiff, reduceCtorEq, ↓reduceIte])
  · have w : IntKind.wrap .u64 n = ((n.natAbs : Nat) : Int) := by rw [a5W]; omega
    simp only [hn, E2, Nat.reduceLeDiff, Nat.reduceSub, Nat.reduceAdd, Nat.reduceEqDiff, reduceCtorEq, ↓reduceIte]
    exact Safe.skip (rest _ (by simp only [E2, Nat.reduceLeDiff, Nat.reduceSub, Nat.reduceAdd, Nat.reduceEqDiff, reduceCtorEq, ↓reduceIte]) (by simp only [E2, Nat.reduceLeDiff, Nat.reduceSub, Nat.reduceAdd, Nat.reduceEqDiff, reduceCtorEq, ↓reduceIte]) (by simp only [E2, Nat.reduceLeDiff, Nat.reduceSub, Nat.reduceAdd, Nat.reduceEqDiff, reduceCtorEq, ↓reduceIte, w]))
theorem c3q (n : Bool) (a : Nat) : (sgn n a).sign = if a = 0 then 0 else if n then -1 else 1 := by
  rcases Nat.eq_zero_or_pos a with h | h
  · subst h; simp [b8F]
  · rw [if_neg (by omega)]
    cases n
    · simp only [sgn, Bool.false_eq_true, if_false]
      exact Int.sign_eq_one_of_pos (by omega)
    · simp only [sgn, if_true]
      exact Int.sign_eq_neg_one_of_neg (by omega)
theorem b6P (n : Nat) : ((blen n : Nat) : Int) = 0 ↔ n = 0 := by
  unfold blen
  split
  · rename_i h; simp [h]
  · rename_i h; simp [h]; omega
theorem a8I (x : ZI) (hx : Zok 17592186044416 x) : a0c Pr a3C [x.av] (.int .i64 x.z.sign) := by
  obtain ⟨n, m⟩ := x
  have hm : Nt m := ⟨hx.lim, hx.len⟩
  simp only [ZI.av, ZI.z, c3q]
  refine a0c.intro b5E b5D (by simp only [List.length_cons, List.length_nil]; omega) (.int _ _) fun H hH => ?_
  refine Safe.seq (Safe.region ?_)
  simp only [a9I, E2, seval]
  refine Safe.seq (Safe.block (Safe.seq (Safe.region ?_)))
  simp only [a9H, E2, seval]
  refine (b6c m hm).acall ?_
  simp only [E2, seval, b6P]
  refine Safe.cond ?_
  simp only [E2, seval]
  by_cases h0 : val m = 0
  · simp only [h0, E2, seval]
    refine Safe.seq (Safe.region ?_)
    simp only [a9G, E2, seval]
    refine Safe.retn ?_
    simp only [E2, seval]
    first | exact ⟨rfl, _, rfl⟩ | exact ⟨_, rfl⟩ | exact ⟨trivial, _, rfl⟩
  · simp only [h0, E2, seval]
    refine Safe.seq (Safe.region ?_)
    simp only [a9F, E2, seval]
    refine Safe.cond ?_
    simp only [E2, seval]
    cases n
    · simp only [E2, seval]
      refine Safe.skip (Safe.inBlock (Safe.seq (Safe.region ?_)))
      simp only [a9D, E2, seval]
      refine Safe.retn ?_
      simp only [E2, seval]
      first | exact ⟨rfl, _, rfl⟩ | exact ⟨_, rfl⟩ | exact ⟨trivial, _, rfl⟩
    · simp only [E2, seval]
      refine Safe.seq (Safe.region ?_)
      simp only [a9E, E2, seval]
      refine Safe.retn ?_
      simp only [E2, seval]
      first | exact ⟨rfl, _, rfl⟩ | exact ⟨_, rfl⟩ | exact ⟨trivial, _, rfl⟩
theorem c1h {n : Bool} {a : Nat} (h : 0 < sgn n a) : sgn n a = a := by
  cases n
  · rfl
  · exfalso; simp only [sgn, if_true] at h; omega
theorem c1i {n : Bool} {a : Nat} (h : sgn n a < 0) : sgn n a = -(a : Int) := by
  cases n
  · exfalso; simp only [sgn, Bool.false_eq_true, if_false] at h; omega
  · rfl
theorem c0N (x y : ZI) (hx : Zok 17592186044416 x) (hy : Zok 17592186044416 y) : a0c Pr a4g [x.av, y.av] (.int .i64 (x.z - y.z).sign) := by
  have sx := a8I x hx
  have sy := a8I y hy
  obtain ⟨n, a⟩ := x
  obtain ⟨m, b⟩ := y
  have ha : Nt a := ⟨hx.lim, hx.len⟩
  have hb : Nt b := ⟨hy.lim, hy.len⟩
  simp only [ZI.av] at sx sy ⊢
  refine a0c.intro b1x b1w (by simp only [List.length_cons, List.length_nil]; omega) (.int _ _) fun H hH => ?_
  refine Safe.seq (Safe.region ?_)
  simp only [a5V, E2, seval]
  refine Safe.seq (Safe.regionD ?_)
  simp only [a5U, E2, seval]
  refine sx.dcall ?_
  try simp only [E2, seval]
  refine sy.dcall ?_
  try simp only [E2, seval]
  refine Safe.seq (Safe.block (Safe.seq (Safe.region ?_)))
  simp only [a5T, E2, seval]
  refine Safe.cond ?_
  simp only [E2, seval]
  simp only [ZI.z]
  have dx : (sgn n (val a)).sign = 0 ∧ sgn n (val a) = 0 ∨ (sgn n (val a)).sign = 1 ∧ 0 < sgn n (val a) ∨ (sgn n (val a)).sign = -1 ∧ sgn n (val a) < 0 := by
    rcases Int.lt_trichotomy (sgn n (val a)) 0 with h | h | h
    · exact .inr (.inr ⟨Int.sign_eq_neg_one_of_neg h, h⟩)
    · exact .inl ⟨by rw [h]; rfl, h⟩
    · exact .inr (.inl ⟨Int.sign_eq_one_of_pos h, h⟩)
  have dy : (sgn m (val b)).sign = 0 ∧ sgn m (val b) = 0 ∨ (sgn m (val b)).sign = 1 ∧ 0 < sgn m (val b) ∨ (sgn m (val b)).sign = -1 ∧ sgn m (val b) < 0 := by
    rcases Int.lt_trichotomy (sgn m (val b)) 0 with h | h | h
    · exact .inr (.inr ⟨Int.sign_eq_neg_one_of_neg h, h⟩)
    · exact .inl ⟨by rw [h]; rfl, h⟩
    · exact .inr (.inl ⟨Int.sign_eq_one_of_pos h, h⟩)
  by_cases h1 : (sgn n (val a)).sign < (sgn m (val b)).sign
  · simp only [h1, E2, seval]
    refine Safe.seq (Safe.region ?_)
    simp only [a5S, E2, seval]
    refine Safe.retn ?_
    simp only [E2, seval]
    refine ⟨?_, _, rfl⟩
    rw [Int.sign_eq_neg_one_of_neg (by omega)]
  · simp only [h1, E2, seval]
    refine Safe.seq (Safe.region ?_)
    simp only [a5R, E2, seval]
    refine Safe.cond ?_
    simp only [E2, seval]
    by_cases h2 : (sgn m (val b)).sign < (sgn n (val a)).sign
    · simp only [h2, E2, seval]
      refine Safe.seq (Safe.region ?_)
      simp only [a5Q, E2, seval]
      refine Safe.retn ?_
      simp only [E2, seval]
      refine ⟨?_, _, rfl⟩
      rw [Int.sign_eq_one_of_pos (by omega)]
    · simp only [h2, E2, seval]
      refine Safe.skip (Safe.inBlock (Safe.seq (Safe.region ?_)))
      simp only [a5P, E2, seval]
      refine (b7m a b ha hb).acall ?_
      have hs : (sgn n (val a)).sign = (sgn m (val b)).sign := by omega
      have key : IntKind.wrap .i64 ((sgn n (val a)).sign * cmpI (val a) (val b)) = (sgn n (val a) - sgn m (val b)).sign := by
        have hc : cmpI (val a) (val b) = -1 ∧ val a < val b ∨ cmpI (val a) (val b) = 1 ∧ val b < val a ∨ cmpI (val a) (val b) = 0 ∧ val a = val b := by
          unfold cmpI
          split
          · exact .inl ⟨rfl, by assumption⟩
          · split
            · exact .inr (.inl ⟨rfl, by assumption⟩)
            · exact .inr (.inr ⟨rfl, by omega⟩)
        rcases dx with ⟨e1, e2⟩ | ⟨e1, e2⟩ | ⟨e1, e2⟩ <;> rcases dy with ⟨f1, f2⟩ | ⟨f1, f2⟩ | ⟨f1, f2⟩ <;> try omega
        · rw [e1, e2, f2, Int.zero_mul]; rfl
        · have hx1 : sgn n (val a) = val a := c1h e2
          have hy1 : sgn m (val b) = val b := c1h f2
          rw [e1, hx1, hy1]
          rcases hc with ⟨c1, c2⟩ | ⟨c1, c2⟩ | ⟨c1, c2⟩
          · rw [c1, Int.sign_eq_neg_one_of_neg (by omega)]; rfl
          · rw [c1, Int.sign_eq_one_of_pos (by omega)]; rfl
          · rw [c1, c2, Int.sub_self]; rfl
        · have hx1 : sgn n (val a) = -(val a : Int) := c1i e2
          have hy1 : sgn m (val b) = -(val b : Int) := c1i f2
          rw [e1, hx1, hy1]
          rcases hc with ⟨c1, c2⟩ | ⟨c1, c2⟩ | ⟨c1, c2⟩
          · rw [c1, Int.sign_eq_one_of_pos (by omega)]; rfl
          · rw [c1, Int.sign_eq_neg_one_of_neg (by omega)]; rfl
          · rw [c1, c2, Int.sub_self]; rfl
      simp only [E2, seval, key]
      refine Safe.retn ?_
      simp only [E2, seval]
      first | exact ⟨rfl, _, rfl⟩ | exact ⟨_, rfl⟩ | exact ⟨trivial, _, rfl⟩
end Go.Abs
namespace Go.Abs
theorem c5e (v : List ZI) : (zs v).length = v.length := by simp [zs]
theorem c3G {u v : List ZI} {i : Nat} (hu : i < u.length) (hv : i < v.length) : ordZ (zs (u.drop i)) (zs (v.drop i)) = if (u[i].z - v[i].z).sign = 0 then ordZ (zs (u.drop (i + 1))) (zs (v.drop (i + 1))) else (u[i].z - v[i].z).sign := by
  rw [List.drop_eq_getElem_cons hu, List.drop_eq_getElem_cons hv]; rfl
theorem c6e {u v : List ZI} {i : Nat} (h : i = min u.length v.length) : ordZ (zs (u.drop i)) (zs (v.drop i)) = if u.length < v.length then -1 else if v.length < u.length then 1 else 0 := by
  subst h
  rcases Nat.lt_trichotomy u.length v.length with h | h | h
  · rw [if_pos h, Nat.min_eq_left (by omega), List.drop_length, List.drop_eq_getElem_cons h]; rfl
  · rw [if_neg (by omega), if_neg (by omega), Nat.min_eq_left (by omega), List.drop_length, h, List.drop_length]; rfl
  · rw [if_neg (by omega), if_pos h, Nat.min_eq_right (by omega), List.drop_length, List.drop_eq_getElem_cons h]; rfl
theorem b9S (u v : List ZI) (hu : Vok 17592186044416 u) (hv : Vok 17592186044416 v) : a0c Pr a5q [vecV u, vecV v] (.int .i64 (ordZ (zs u) (zs v))) := by
  have hul := hu.len
  have hvl := hv.len
  refine a0c.intro b6n b6m (by simp only [List.length_cons, List.length_nil]; omega) (.int _ _) fun H hH => ?_
  refine Safe.seq (Safe.region ?_)
  simp only [b0y, E3, seval]
  refine Safe.seq (Safe.seq (Safe.region ?_))
  have hmin : (if (v.length : Int) < (u.length : Int) then (v.length : Int) else (u.length : Int)) = ((min u.length v.length : Nat) : Int) := by
    split
    · rw [Nat.min_eq_right (by omega)]
    · rw [Nat.min_eq_left (by omega)]
  simp only [b0x, E3, seval, hmin]
  have m1 := Nat.min_le_left u.length v.length
  have m2 := Nat.min_le_right u.length v.length
  generalize hm : min u.length v.length = m at m1 m2 ⊢
  refine Safe.block (Safe.loop ?_)
  have key : ∀ (k i : Nat), i + k = m → ordZ (zs u) (zs v) = ordZ (zs (u.drop i)) (zs (v.drop i)) → Safe ⟨Pr, fun _ _ => false, a5q, 40, [.tmp 4], H.length⟩ [.inLoop b0z, .inBlock 0, .code ((ACode.block 2 ((ACode.region a6F false).seq (.cond (.t 28) ((ACode.region a6E false).seq .ret) ((ACode.region a5g false).seq (.cond (.t 34) ((ACode.region a5f false).seq .ret) .skip))))).seq ((ACode.region a5e false).seq .ret))]
      [(0, vecV u), (1, vecV v), (11, .int .i64 m), (12, .int .i64 i)] (hap H []) fun r' H' => r' = .int .i64 (ordZ (zs u) (zs v)) ∧ ∃ L, H' = hap H L := by
    intro k
    induction k with
    | zero =>
      intro i hi ho
      have hi' : i = m := by omega
      subst hi'
      refine Safe.inLoop (Safe.seq (Safe.region ?_))
      simp only [a6G, E3, seval, Int.lt_irrefl]
      refine Safe.seq (Safe.cond ?_)
      simp only [E3, seval]
      refine Safe.exit rfl ?_
      rw [c6e hm.symm] at ho
      refine Safe.seq (Safe.block (Safe.seq (Safe.region ?_)))
      simp only [a6F, E3, seval]
      refine Safe.cond ?_
      simp only [E3, seval]
      by_cases h1 : u.length < v.length
      · have h1' : (u.length : Int) < (v.length : Int) := by omega
        simp only [h1', E3, seval]
        refine Safe.seq (Safe.region ?_)
        simp only [a6E, E3, seval]
        refine Safe.retn ?_
        rw [ho, if_pos h1]
        simp only [E3, seval]
        first | exact ⟨rfl, _, rfl⟩ | exact ⟨_, rfl⟩ | exact ⟨trivial, _, rfl⟩
      · have h1' : ¬ (u.length : Int) < (v.length : Int) := by omega
        simp only [h1', E3, seval]
        refine Safe.seq (Safe.region ?_)
        simp only [a5g, E3, seval]
        refine Safe.cond ?_
        simp only [E3, seval]
        by_cases h2 : v.length < u.length
        · have h2' : (v.length : Int) < (u.length : Int) := by omega
          simp only [h2', E3, seval]
          refine Safe.seq (Safe.region ?_)
          simp only [a5f, E3, seval]
          refine Safe.retn ?_
          rw [ho, if_neg h1, if_pos h2]
          simp only [E3, seval]
          first | exact ⟨rfl, _, rfl⟩ | exact ⟨_, rfl⟩ | exact ⟨trivial, _, rfl⟩
        · have h2' : ¬ (v.length : Int) < (u.length : Int) := by omega
          simp only [h2', E3, seval]
          refine Safe.skip (Safe.inBlock (Safe.seq (Safe.region ?_)))
          simp only [a5e, E3, seval]
          refine Safe.retn ?_
          rw [ho, if_neg h1, if_neg h2]
          simp only [E3, seval]
          first | exact ⟨rfl, _, rfl⟩ | exact ⟨_, rfl⟩ | exact ⟨trivial, _, rfl⟩
    | succ k ih =>
      intro i hi ho
      refine Safe.inLoop (Safe.seq (Safe.region ?_))
      have hlt : (i : Int) < (m : Int) := by omega
      simp only [a6G, E3, seval, hlt]
      refine Safe.seq (Safe.cond ?_)
      simp only [E3, seval]
      refine Safe.skip (Safe.seq (Safe.block (Safe.seq (Safe.region ?_))))
      simp only [b0w, E3, seval]
      refine Safe.seq (Safe.regionD ?_)
      simp only [b0v, E3, seval, b1C _ u _ i (by omega), b1C _ v _ i (by omega)]
      refine (c0N u[i] v[i] (hu.get (by omega)) (hv.get (by omega))).dcall ?_
      try simp only [E3, seval]
      refine Safe.seq (Safe.region ?_)
      simp only [b0u, E3, seval]
      refine Safe.cond ?_
      simp only [E3, seval]
      rw [c3G (by omega) (by omega)] at ho
      by_cases h0 : (u[i].z - v[i].z).sign = 0
      · rw [if_pos h0] at ho
        simp only [h0, E3, seval]
        refine Safe.skip (Safe.inBlock (Safe.region ?_))
        have hiw : IntKind.wrap .i64 ((i : Int) + 1) = ((i + 1 : Nat) : Int) := by rw [a0b] <;> omega
        simp only [b0s, E3, seval, hiw]
        refine Safe.keep [0, 1, 11, 12] ?_
        simp only [E3, seval]
        exact ih (i + 1) (by omega) ho
      · rw [if_neg h0] at ho
        simp only [h0, E3, seval]
        refine Safe.seq (Safe.region ?_)
        simp only [b0t, E3, seval]
        refine Safe.retn ?_
        rw [ho]
        simp only [E3, seval]
        first | exact ⟨rfl, _, rfl⟩ | exact ⟨_, rfl⟩ | exact ⟨trivial, _, rfl⟩
  refine Safe.keep [0, 1, 11, 12] ?_
  simp only [E3, seval]
  exact key m 0 (by omega) rfl
/-- The same numbers. -/
def b1Q (a b : List (List Int)) : Bool := decide (a = b)
theorem c0K (a : List (List ZI)) : (zss a).length = a.length := by simp [zss]
theorem c1o {a b : List (List ZI)} {i : Nat} (ha : i < a.length) (hb : i < b.length) : b1Q (zss (a.drop i)) (zss (b.drop i)) = (decide (ordZ (zs a[i]) (zs b[i]) = 0) && b1Q (zss (a.drop (i + 1))) (zss (b.drop (i + 1)))) := by
  rw [List.drop_eq_getElem_cons ha, List.drop_eq_getElem_cons hb]
  simp only [b1Q, zss, List.map_cons, List.cons.injEq, b1V]
  by_cases h : zs a[i] = zs b[i] <;> simp [h]
theorem c3u {a b : List (List ZI)} (h : a.length ≠ b.length) : b1Q (zss a) (zss b) = false := by
  simp only [b1Q, decide_eq_false_iff_not]
  intro h'
  have := congrArg List.length h'
  rw [c0K, c0K] at this
  exact h this
theorem c6d {u v : List ZI} (h : ordZ (zs u) (zs v) = 0) : u.length = v.length := by
  have := congrArg List.length (b1V.1 h)
  rwa [c5e, c5e] at this
theorem c1n (a b : List (List ZI)) (ha : Mok 17592186044416 a) (hb : Mok 17592186044416 b) : a0c Pr a4B [matV a, matV b] (.bool (b1Q (zss a) (zss b))) := by
  have hal := ha.len
  have hbl := hb.len
  refine a0c.intro b7J b7I (by simp only [List.length_cons, List.length_nil]; omega) (.bool _) fun H hH => ?_
  refine Safe.seq (Safe.region ?_)
  simp only [b2U, E3, seval]
  refine Safe.seq (Safe.seq (Safe.region ?_))
  simp only [b2T, E3, seval]
  refine Safe.cond ?_
  simp only [E3, seval]
  by_cases hl : a.length = b.length
  · have hl' : (a.length : Int) = (b.length : Int) := by omega
    simp only [hl', E3, seval]
    refine Safe.skip (Safe.seq (Safe.seq (Safe.region ?_)))
    simp only [b2R, E3, seval]
    refine Safe.block (Safe.loop ?_)
    have key : ∀ (k i : Nat), i + k = a.length → b1Q (zss a) (zss b) = b1Q (zss (a.drop i)) (zss (b.drop i)) → Safe ⟨Pr, fun _ _ => false, a4B, 40, [.tmp 4], H.length⟩ [.inLoop b2V, .inBlock 0, .code ((ACode.region a7Q false).seq .ret)]
        [(0, matV a), (1, matV b), (12, .int .i64 a.length), (13, .int .i64 i)] (hap H []) fun r' H' => r' = .bool (b1Q (zss a) (zss b)) ∧ ∃ L, H' = hap H L := by
      intro k
      induction k with
      | zero =>
        intro i hi ho
        have hi' : i = a.length := by omega
        subst hi'
        refine Safe.inLoop (Safe.seq (Safe.region ?_))
        simp only [a7T, E3, seval, Int.lt_irrefl]
        refine Safe.seq (Safe.cond ?_)
        simp only [E3, seval]
        refine Safe.exit rfl (Safe.seq (Safe.region ?_))
        simp only [a7Q, E3, seval]
        refine Safe.retn ?_
        rw [ho, List.drop_length, hl, List.drop_length]
        simp only [E3, seval]
        first | exact ⟨rfl, _, rfl⟩ | exact ⟨_, rfl⟩ | exact ⟨trivial, _, rfl⟩
      | succ k ih =>
        intro i hi ho
        refine Safe.inLoop (Safe.seq (Safe.region ?_))
        have hlt : (i : Int) < (a.length : Int) := by omega
        simp only [a7T, E3, seval, hlt]
        refine Safe.seq (Safe.cond ?_)
        simp only [E3, seval]
        refine Safe.skip (Safe.seq (Safe.block (Safe.seq (Safe.region ?_))))
        simp only [b2Q, E3, seval]
        refine Safe.seq (Safe.regionD ?_)
        rw [c1o (by omega) (by omega)] at ho
        by_cases hr : a[i].length = b[i].length
        · have hr' : (a[i].length : Int) = (b[i].length : Int) := by omega
          simp only [a7S, E3, seval, a4Z _ a _ i (by omega), a4Z _ b _ i (by omega), hr']
          refine (b9S a[i] b[i] (ha.get (by omega)) (hb.get (by omega))).dcall ?_
          simp only [E3, seval]
          refine Safe.cond ?_
          simp only [E3, seval]
          by_cases h0 : ordZ (zs a[i]) (zs b[i]) = 0
          · simp only [h0, E3, seval] at ho ⊢
            refine Safe.skip (Safe.inBlock (Safe.region ?_))
            have hiw : IntKind.wrap .i64 ((i : Int) + 1) = ((i + 1 : Nat) : Int) := by rw [a0b] <;> omega
            simp only [b2P, E3, seval, hiw]
            refine Safe.keep [0, 1, 12, 13] ?_
            simp only [E3, seval]
            exact ih (i + 1) (by omega) ho
          · simp only [h0, E3, seval, Bool.false_and] at ho ⊢
            refine Safe.seq (Safe.region ?_)
            simp only [a7R, E3, seval]
            refine Safe.retn ?_
            simp only [E3, seval, ho]
            first | exact ⟨rfl, _, rfl⟩ | exact ⟨_, rfl⟩ | exact ⟨trivial, _, rfl⟩
        · have hr' : ¬ (a[i].length : Int) = (b[i].length : Int) := by omega
          have h0 : ¬ ordZ (zs a[i]) (zs b[i]) = 0 := fun h => hr (c6d h)
          simp only [a7S, E3, seval, a4Z _ a _ i (by omega), a4Z _ b _ i (by omega), hr']
          refine Safe.cond ?_
          simp only [h0, E3, seval, Bool.false_and] at ho ⊢
          refine Safe.seq (Safe.region ?_)
          simp only [a7R, E3, seval]
          refine Safe.retn ?_
          simp only [E3, seval, ho]
          first | exact ⟨rfl, _, rfl⟩ | exact ⟨_, rfl⟩ | exact ⟨trivial, _, rfl⟩
    refine Safe.keep [0, 1, 12, 13] ?_
    simp only [E3, seval]
    exact key a.length 0 (by omega) rfl
  · have hl' : ¬ (a.length : Int) = (b.length : Int) := by omega
    simp only [hl', E3, seval]
    refine Safe.seq (Safe.region ?_)
    simp only [b2S, E3, seval]
    refine Safe.retn ?_
    simp only [E3, seval, c3u hl]
    first | exact ⟨rfl, _, rfl⟩ | exact ⟨_, rfl⟩ | exact ⟨trivial, _, rfl⟩
/-- Numbers in their one form. -/
def cans (v : List Int) : List ZI := v.map canZ
theorem c5x (v : List Int) : zs (cans v) = v := by
  simp only [zs, cans, List.map_map]
  have : (ZI.z ∘ canZ) = id := funext c5s
  rw [this]; simp
theorem c3c (b : List (List ZI)) : zss (b.map fun v => cans (v.map ZI.z)) = zss b := by
  simp only [zss, List.map_map]
  exact List.map_congr_left fun v _ => c5x _
end Go.Abs
namespace Go.Abs
theorem b8m (x : ZI) (hx : Zok 17592186044416 x) : a0c Pr a9u [x.av, x.av] (.bool true) := by
  obtain ⟨n, m⟩ := x
  have hml : m.length ≤ 17592186044416 := hx.len
  simp only [ZI.av]
  refine a0c.intro b8c b8a (Nat.le_of_ble_eq_true rfl) (.bool _) fun H hH => ?_
  refine Safe.rg rfl ?_
  simp only [b3p, E3, seval]
  refine Safe.rg rfl ?_
  simp only [b3o, beq_self_eq_true, E3, seval]
  refine Safe.cd rfl ?_
  simp only [E3, seval]
  refine Safe.rg rfl ?_
  simp only [b3n, E3, seval]
  refine Safe.lp rfl ?_
  refine Safe.keep [2, 3, 5] ?_
  try simp only [E3, seval]
  refine Safe.loopN (m.length) (fun i => [(2, .loc (lid H 0) 0 0), (3, .loc (lid H 1) 0 0), (5, .int .i64 i)]) (fun i => hap H [some ⟨2, [.agg [.bool n, natV m]]⟩, some ⟨2, [.agg [.bool n, natV m]]⟩]) rfl rfl (fun i hi ih => ?_) ?_
  · have hlt : (i : Int) < (m.length : Int) := by omega
    have hiw : IntKind.wrap .i64 ((i : Int) + 1) = ((i + 1 : Nat) : Int) := by rw [a0b] <;> omega
    refine Safe.inLoop ?_
    refine Safe.rg rfl ?_
    simp only [a7U, hlt, E3, seval]
    refine Safe.cd rfl ?_
    simp only [E3, seval]
    refine Safe.rg rfl ?_
    simp only [b3m, a1r _ m _ i (by omega), E3, seval]
    refine Safe.cd rfl ?_
    simp only [E3, seval]
    refine Safe.rg rfl ?_
    simp only [b3l, hiw, E3, seval]
    refine Safe.keep [2, 3, 5] ?_
    simp only [E3, seval]
    exact ih
  · refine Safe.inLoop ?_
    refine Safe.rg rfl ?_
    simp only [a7U, Int.lt_irrefl, E3, seval]
    refine Safe.cd rfl ?_
    simp only [E3, seval]
    refine Safe.rg rfl ?_
    simp only [b3k, E3, seval]
    refine Safe.rt rfl ?_
    simp only [E3, seval]
    first | exact ⟨rfl, _, rfl⟩ | exact ⟨_, rfl⟩ | exact ⟨trivial, _, rfl⟩
theorem c6T (g : FuncId) (caps : List AV) (v : List ZI) (f : Nat → Int) (hv : v.length ≤ 2097152) (hc : ∀ c ∈ caps, Cl c) (hf : ∀ (i : Nat) (h : i < v.length), a0c Pr g (v[i].av :: caps) (Z (f i))) : a0c Pr a1W [vecV v, .fn g caps] (vecV (vec v.length f)) := by
  have hcl : ∀ id, caps.all (nref id) = true := fun id => List.all_eq_true.2 fun c h => a0V (hc c h)
  refine a0c.intro b2F b2D (Nat.le_of_ble_eq_true rfl) (a0s _) fun H hH => ?_
  refine Safe.rg rfl ?_
  simp only [a6D, E3, seval]
  refine Safe.rg rfl ?_
  simp only [a6C, b1l _ _ 2 32 _ _ _ v.length (by decide) (by omega) (by omega), E3, seval]
  refine Safe.rg rfl ?_
  simp only [a6B, E3, seval]
  refine Safe.lp rfl ?_
  refine Safe.keep [1, 5, 11, 12, 13] ?_
  try simp only [E3, seval]
  refine Safe.loopN (v.length) (fun i => [(1, .fn g caps), (5, .mu (lid H 0) 0 i (some v.length)), (11, vecV v), (12, .int .i64 v.length), (13, .int .i64 i)]) (fun i => hap H [some ⟨2, (vec i f).map ZI.av⟩]) rfl rfl (fun i hi ih => ?_) ?_
  · have hlt : (i : Int) < (v.length : Int) := by omega
    have hiw : IntKind.wrap .i64 ((i : Int) + 1) = ((i + 1 : Nat) : Int) := by rw [a0b] <;> omega
    refine Safe.inLoop ?_
    refine Safe.rg rfl ?_
    simp only [a3y, hlt, E3, seval]
    refine Safe.cd rfl ?_
    simp only [E3, seval]
    refine Safe.rg rfl ?_
    simp only [a6A, b1C _ v _ i (by omega), E3, seval]
    refine Safe.rg rfl ?_
    simp only [a6z, E3, seval]
    first | refine (hf i hi).acall ?_ | refine (hf i hi).dcall ?_ | refine (hf i hi).dgcall ?_
    try simp only [E3, seval]
    rw [b1u (H := H) 0 (a8y H 0) (f := ZI.av) (vec i f) (canZ (f i)) (vec (i + 1) f) ?hlen ?hl ?hy ?hl2 ?hc]
    case hlen => first | rfl | (simp only [a0r, a0C, List.length_map, List.length_take]; done) | (simp only [a0r, a0C, List.length_map, List.length_take]; omega)
    case hl => rfl
    case hy => rfl
    case hl2 => first | exact b4P _ _ | exact b5c _ _ | exact b1F _ (by omega) | exact a4M _ _ (by omega)
    case hc => omega
    simp only [hcl, E3, seval]
    refine Safe.rg rfl ?_
    simp only [a6y, hiw, E3, seval]
    refine Safe.keep [1, 5, 11, 12, 13] ?_
    simp only [E3, seval]
    refine Safe.drop1 hH rfl (by simp only [List.all_cons, List.all_nil, hcl, E3, seval]) (by repeat (first | exact RC.nil | refine RC.none ?_ | refine RC.mo ?_ | refine RC.io ?_ | refine RC.row ZI.cl ?_ | refine RC.cons (a4f _) ?_ | refine RC.row a0s ?_ | refine RC.emp ?_ | refine RC.zero ?_ | refine RC.one (Z_cl _) ?_ | refine RC.one (ZI.cl _) ?_ | refine RC.one (a0s _) ?_)) ?_
    exact ih
  · refine Safe.inLoop ?_
    refine Safe.rg rfl ?_
    simp only [a3y, Int.lt_irrefl, E3, seval]
    refine Safe.cd rfl ?_
    simp only [E3, seval]
    refine Safe.freeze 0 hH rfl rfl (a5m 2 ZI.av _ ZI.cl) ?_
    refine Safe.keep [5] ?_
    simp only [a5j 0 2 ZI.av (vec v.length f) v.length (some v.length) (a0r _ _).symm, E3, seval]
    refine Safe.rg rfl ?_
    simp only [a6x, E3, seval]
    refine Safe.rt rfl ?_
    simp only [E3, seval]
    first | exact ⟨rfl, _, rfl⟩ | exact ⟨_, rfl⟩ | exact ⟨trivial, _, rfl⟩
theorem c6Q (g : FuncId) (caps : List AV) (v : List (List ZI)) (f : Nat → List ZI) (hv : v.length ≤ 2097152) (hc : ∀ c ∈ caps, Cl c) (hf : ∀ (i : Nat) (h : i < v.length), a0c Pr g (vecV v[i] :: caps) (vecV (f i))) : a0c Pr a4j [matV v, .fn g caps] (matV (mat v.length f)) := by
  have hcl : ∀ id, caps.all (nref id) = true := fun id => List.all_eq_true.2 fun c h => a0V (hc c h)
  refine a0c.intro b2C b2A (Nat.le_of_ble_eq_true rfl) (a6H _) fun H hH => ?_
  refine Safe.rg rfl ?_
  simp only [a6w, E3, seval]
  refine Safe.rg rfl ?_
  simp only [a6v, b1l _ _ 1 24 _ _ _ v.length (by decide) (by omega) (by omega), E3, seval]
  refine Safe.rg rfl ?_
  simp only [a6u, E3, seval]
  refine Safe.lp rfl ?_
  refine Safe.keep [1, 5, 11, 12, 13] ?_
  try simp only [E3, seval]
  refine Safe.loopN (v.length) (fun i => [(1, .fn g caps), (5, .mu (lid H 0) 0 i (some v.length)), (11, matV v), (12, .int .i64 v.length), (13, .int .i64 i)]) (fun i => hap H [some ⟨1, (mat i f).map vecV⟩]) rfl rfl (fun i hi ih => ?_) ?_
  · have hlt : (i : Int) < (v.length : Int) := by omega
    have hiw : IntKind.wrap .i64 ((i : Int) + 1) = ((i + 1 : Nat) : Int) := by rw [a0b] <;> omega
    refine Safe.inLoop ?_
    refine Safe.rg rfl ?_
    simp only [a3x, hlt, E3, seval]
    refine Safe.cd rfl ?_
    simp only [E3, seval]
    refine Safe.rg rfl ?_
    simp only [a6t, a4Z _ v _ i (by omega), E3, seval]
    refine Safe.rg rfl ?_
    simp only [a6s, E3, seval]
    first | refine (hf i hi).acall ?_ | refine (hf i hi).dcall ?_ | refine (hf i hi).dgcall ?_
    try simp only [E3, seval]
    rw [b1u (H := H) 0 (a8y H 0) (f := vecV) (mat i f) (f i) (mat (i + 1) f) ?hlen ?hl ?hy ?hl2 ?hc]
    case hlen => first | rfl | (simp only [a0r, a0C, List.length_map, List.length_take]; done) | (simp only [a0r, a0C, List.length_map, List.length_take]; omega)
    case hl => rfl
    case hy => rfl
    case hl2 => first | exact b4P _ _ | exact b5c _ _ | exact b1F _ (by omega) | exact a4M _ _ (by omega)
    case hc => omega
    simp only [hcl, E3, seval]
    refine Safe.rg rfl ?_
    simp only [a6r, hiw, E3, seval]
    refine Safe.keep [1, 5, 11, 12, 13] ?_
    simp only [E3, seval]
    exact ih
  · refine Safe.inLoop ?_
    refine Safe.rg rfl ?_
    simp only [a3x, Int.lt_irrefl, E3, seval]
    refine Safe.cd rfl ?_
    simp only [E3, seval]
    refine Safe.freeze 0 hH rfl rfl (a5m 1 vecV _ a0s) ?_
    refine Safe.keep [5] ?_
    simp only [a5j 0 1 vecV (mat v.length f) v.length (some v.length) (a0C _ _).symm, E3, seval]
    refine Safe.rg rfl ?_
    simp only [a6q, E3, seval]
    refine Safe.rt rfl ?_
    simp only [E3, seval]
    first | exact ⟨rfl, _, rfl⟩ | exact ⟨_, rfl⟩ | exact ⟨trivial, _, rfl⟩
theorem c7e {a b : AV} (ha : Cl a) (hb : Cl b) : Cl (.tup [a, b]) := .tup _ (by
  intro c hc
  simp only [List.mem_cons, List.not_mem_nil, or_false] at hc
  rcases hc with rfl | rfl
  · exact ha
  · exact hb)
theorem c2E {a b d : AV} (ha : Cl a) (hb : Cl b) (hd : Cl d) : Cl (.tup [a, b, d]) := .tup _ (by
  intro c hc
  simp only [List.mem_cons, List.not_mem_nil, or_false] at hc
  rcases hc with rfl | rfl | rfl
  · exact ha
  · exact hb
  · exact hd)
theorem b8s (v : List ZI) (f : Int → Int) : cans (v.map fun x => f x.z) = vec v.length fun i => f (zg v i) := by
  apply List.ext_getElem
  · simp [cans, a0r]
  · intro i h1 h2
    simp only [cans, List.getElem_map, b7a]
    rw [b9u (by simpa [a0r] using h2)]
theorem b5t (v : List ZI) (hv : Vok 17592186044416 v) : a0c Pr a7X [vecV v, vecV v] (.bool true) := by
  have hvl := hv.len
  refine a0c.intro b6w b6u (Nat.le_of_ble_eq_true rfl) (.bool _) fun H hH => ?_
  refine Safe.rg rfl ?_
  simp only [b0F, E3, seval]
  refine Safe.rg rfl ?_
  simp only [b0E, E3, seval]
  refine Safe.cd rfl ?_
  simp only [E3, seval]
  refine Safe.rg rfl ?_
  simp only [b0D, E3, seval]
  refine Safe.lp rfl ?_
  refine Safe.keep [0, 1, 5] ?_
  try simp only [E3, seval]
  refine Safe.loopN (v.length) (fun i => [(0, vecV v), (1, vecV v), (5, .int .i64 i)]) (fun i => hap H []) rfl rfl (fun i hi ih => ?_) ?_
  · have hlt : (i : Int) < (v.length : Int) := by omega
    have hiw : IntKind.wrap .i64 ((i : Int) + 1) = ((i + 1 : Nat) : Int) := by rw [a0b] <;> omega
    refine Safe.inLoop ?_
    refine Safe.rg rfl ?_
    simp only [a6J, hlt, E3, seval]
    refine Safe.cd rfl ?_
    simp only [E3, seval]
    refine Safe.rg rfl ?_
    simp only [b0C, b1C _ v _ i (by omega), E3, seval]
    first | refine (b8m v[i] (hv.get hi)).acall ?_ | refine (b8m v[i] (hv.get hi)).dcall ?_ | refine (b8m v[i] (hv.get hi)).dgcall ?_
    try simp only [E3, seval]
    refine Safe.cd rfl ?_
    simp only [E3, seval]
    refine Safe.rg rfl ?_
    simp only [b0B, hiw, E3, seval]
    refine Safe.keep [0, 1, 5] ?_
    simp only [E3, seval]
    exact ih
  · refine Safe.inLoop ?_
    refine Safe.rg rfl ?_
    simp only [a6J, Int.lt_irrefl, E3, seval]
    refine Safe.cd rfl ?_
    simp only [E3, seval]
    refine Safe.rg rfl ?_
    simp only [b0A, E3, seval]
    refine Safe.rt rfl ?_
    simp only [E3, seval]
    first | exact ⟨rfl, _, rfl⟩ | exact ⟨_, rfl⟩ | exact ⟨trivial, _, rfl⟩
theorem c4y (v : List (List ZI)) (hv : Mok 17592186044416 v) : a0c Pr a7Y [matV v, matV v] (.bool true) := by
  have hvl := hv.len
  refine a0c.intro b6B b6z (Nat.le_of_ble_eq_true rfl) (.bool _) fun H hH => ?_
  refine Safe.rg rfl ?_
  simp only [b0L, E3, seval]
  refine Safe.rg rfl ?_
  simp only [b0K, E3, seval]
  refine Safe.cd rfl ?_
  simp only [E3, seval]
  refine Safe.rg rfl ?_
  simp only [b0J, E3, seval]
  refine Safe.lp rfl ?_
  refine Safe.keep [0, 1, 5] ?_
  try simp only [E3, seval]
  refine Safe.loopN (v.length) (fun i => [(0, matV v), (1, matV v), (5, .int .i64 i)]) (fun i => hap H []) rfl rfl (fun i hi ih => ?_) ?_
  · have hlt : (i : Int) < (v.length : Int) := by omega
    have hiw : IntKind.wrap .i64 ((i : Int) + 1) = ((i + 1 : Nat) : Int) := by rw [a0b] <;> omega
    refine Safe.inLoop ?_
    refine Safe.rg rfl ?_
    simp only [a6K, hlt, E3, seval]
    refine Safe.cd rfl ?_
    simp only [E3, seval]
    refine Safe.rg rfl ?_
    simp only [b0I, a4Z _ v _ i (by omega), E3, seval]
    first | refine (b5t v[i] (hv.get hi)).acall ?_ | refine (b5t v[i] (hv.get hi)).dcall ?_ | refine (b5t v[i] (hv.get hi)).dgcall ?_
    try simp only [E3, seval]
    refine Safe.cd rfl ?_
    simp only [E3, seval]
    refine Safe.rg rfl ?_
    simp only [b0H, hiw, E3, seval]
    refine Safe.keep [0, 1, 5] ?_
    simp only [E3, seval]
    exact ih
  · refine Safe.inLoop ?_
    refine Safe.rg rfl ?_
    simp only [a6K, Int.lt_irrefl, E3, seval]
    refine Safe.cd rfl ?_
    simp only [E3, seval]
    refine Safe.rg rfl ?_
    simp only [b0G, E3, seval]
    refine Safe.rt rfl ?_
    simp only [E3, seval]
    first | exact ⟨rfl, _, rfl⟩ | exact ⟨_, rfl⟩ | exact ⟨trivial, _, rfl⟩
end Go.Abs
namespace Go.Abs
theorem c1g (z : Int) : (z.sign < 0) = (z < 0) := by
  rw [eq_iff_iff]
  rcases Int.lt_trichotomy z 0 with h | h | h
  · rw [Int.sign_eq_neg_one_of_neg h]; simp [h]
  · rw [h]; simp
  · rw [Int.sign_eq_one_of_pos h]; constructor <;> intro <;> omega
theorem a5k (v : List ZI) (hv : Vok 17592186044416 v) : a0c Pr a1W [vecV v, .fn a3D []] (vecV (vec v.length fun i => zg v i)) :=
  c6T a3D [] v (fun i => zg v i) hv.len (by simp) fun i h => by
    have := b9v v[i] (hv.get h)
    rwa [← b9u h] at this
theorem one3 (a b c : AV) : b0Y [a, b, c] = .tup [a, b, c] := rfl
def b1D (m : Nat) : List (List ZI) := mat m fun i => vec m (updF (fun _ => 0) i 1)
theorem b5b (m : Nat) (hm : m ≤ 64) : a0c Pr a9s [.int .i64 m] (.tup [matV (b1D m), .int .i64 0]) := by
  have hn : ¬ (m : Int) < 0 := by omega
  have h64 : ¬ (m : Int) > 64 := by omega
  refine a0c.intro b7F b7D (Nat.le_of_ble_eq_true rfl) (c7e (a6H _) (.int _ _)) fun H hH => ?_
  refine Safe.rg rfl ?_
  simp only [b2M, E3, seval]
  refine Safe.rg rfl ?_
  simp only [b2L, hn, E3, seval]
  refine Safe.cd rfl ?_
  simp only [E3, seval]
  refine Safe.rg rfl ?_
  simp only [b2K, h64, E3, seval]
  refine Safe.cd rfl ?_
  simp only [E3, seval]
  refine Safe.rg rfl ?_
  simp only [b2J, E3, seval]
  refine Safe.rg rfl ?_
  simp only [b2I, E3, seval]
  refine Safe.nilrow 4 1 (by decide) (by simp only [E3, seval]) ?_
  refine Safe.lp rfl ?_
  refine Safe.keep [0, 4, 13, 14] ?_
  try simp only [E3, seval]
  refine Safe.loopN (m) (fun i => [(0, .int .i64 m), (4, .mu (lid H 0) 0 i none), (13, .int .i64 m), (14, .int .i64 i)]) (fun i => hap H [some ⟨1, (mat i fun i => vec m (updF (fun _ => 0) i 1)).map vecV⟩]) rfl rfl (fun i hi ih => ?_) ?_
  · have hlt : (i : Int) < (m : Int) := by omega
    have hiw : IntKind.wrap .i64 ((i : Int) + 1) = ((i + 1 : Nat) : Int) := by rw [a0b] <;> omega
    refine Safe.inLoop ?_
    refine Safe.rg rfl ?_
    simp only [a7P, hlt, E3, seval]
    refine Safe.cd rfl ?_
    simp only [E3, seval]
    refine Safe.rg rfl ?_
    simp only [b2H, E3, seval]
    refine Safe.rg rfl ?_
    simp only [b2G, a8q _ H [some ⟨1, (mat i fun i => vec m (updF (fun _ => 0) i 1)).map vecV⟩] 2 32 (.agg [.bool false, .nil]) .i64 .i64 m m (by decide) (Nat.le_refl _) (by omega) (by omega), E3, seval]
    refine Safe.toldRep 1 m rfl ?_
    simp only [E3, seval]
    refine Safe.rg rfl ?_
    simp only [b0r, E3, seval]
    first | refine (b4L 1 (by omega) (by omega)).acall ?_ | refine (b4L 1 (by omega) (by omega)).dcall ?_ | refine (b4L 1 (by omega) (by omega)).dgcall ?_
    try simp only [E3, seval]
    simp only [c1I H [some ⟨1, (mat i fun i => vec m (updF (fun _ => 0) i 1)).map vecV⟩, some ⟨2, (vec m fun _ => 0).map ZI.av⟩] 2 1 0 m (some m) .i64 i rfl rfl hi, a6Z _ H [some ⟨1, (mat i fun i => vec m (updF (fun _ => 0) i 1)).map vecV⟩, some ⟨2, (vec m fun _ => 0).map ZI.av⟩] 2 1 i 0 (Z 1) rfl (by rw [List.length_map, a0r]; exact hi) rfl rfl (Nat.le_refl 2), c5z, E3, seval]
    refine Safe.freeze 1 hH rfl rfl (a5m 2 ZI.av _ ZI.cl) ?_
    refine Safe.keep [0, 4, 6, 13, 14] ?_
    simp only [c6x H 1 (vec m (updF (fun _ => 0) i 1)) (m) (some m) (by simp only [a0r, a0C]), b6F, a8B, b7S, b7T, E3, seval]
    refine Safe.rg rfl ?_
    simp only [b0q, E3, seval]
    rw [c2W hH 0 (a8y H 0) a0s (mat i fun i => vec m (updF (fun _ => 0) i 1)) (vec m (updF (fun _ => 0) i 1)) (mat (i + 1) fun i => vec m (updF (fun _ => 0) i 1)) ?hlen ?hl ?hL ?hy ?hl2 ?hb ?hbb]
    case hlen => first | rfl | (simp only [a0r, a0C, List.length_map, List.length_take]; done) | (simp only [a0r, a0C, List.length_map, List.length_take]; omega)
    case hl => rfl
    case hL => repeat (first | exact RC.nil | refine RC.none ?_ | refine RC.mo ?_ | refine RC.io ?_ | refine RC.row ZI.cl ?_ | refine RC.cons (a4f _) ?_ | refine RC.row a0s ?_ | refine RC.emp ?_ | refine RC.zero ?_ | refine RC.one (Z_cl _) ?_ | refine RC.one (ZI.cl _) ?_ | refine RC.one (a0s _) ?_)
    case hy => rfl
    case hl2 => first | exact b4P _ _ | exact b5c _ _ | exact b1F _ (by omega) | exact a4M _ _ (by omega)
    case hb => omega
    case hbb => omega
    simp only [E3, seval]
    refine Safe.rg rfl ?_
    simp only [b0p, hiw, E3, seval]
    refine Safe.keep [0, 4, 13, 14] ?_
    simp only [E3, seval]
    refine Safe.drop1 hH rfl (by simp only [List.all_cons, List.all_nil, E3, seval]) (by repeat (first | exact RC.nil | refine RC.none ?_ | refine RC.mo ?_ | refine RC.io ?_ | refine RC.row ZI.cl ?_ | refine RC.cons (a4f _) ?_ | refine RC.row a0s ?_ | refine RC.emp ?_ | refine RC.zero ?_ | refine RC.one (Z_cl _) ?_ | refine RC.one (ZI.cl _) ?_ | refine RC.one (a0s _) ?_)) ?_
    exact ih
  · refine Safe.inLoop ?_
    refine Safe.rg rfl ?_
    simp only [a7P, Int.lt_irrefl, E3, seval]
    refine Safe.cd rfl ?_
    simp only [E3, seval]
    refine Safe.freeze 0 hH rfl rfl (a5m 1 vecV _ a0s) ?_
    refine Safe.keep [4] ?_
    simp only [a5j 0 1 vecV (mat m fun i => vec m (updF (fun _ => 0) i 1)) m none (a0C _ _).symm, E3, seval]
    refine Safe.rg rfl ?_
    simp only [b0o, E3, seval]
    refine Safe.rt rfl ?_
    simp only [E3, seval]
    first | exact ⟨rfl, _, rfl⟩ | exact ⟨_, rfl⟩ | exact ⟨trivial, _, rfl⟩
theorem b7y (v : List ZI) (hv : Vok 17592186044416 v) : a0c Pr a4b [vecV v] (vecV (vec v.length fun i => zg v i)) := by
  refine a0c.intro b5h b5g (Nat.le_of_ble_eq_true rfl) (a0s _) fun H hH => ?_
  refine Safe.rg rfl ?_
  simp only [a8w, E3, seval]
  refine Safe.rg rfl ?_
  simp only [a8v, E3, seval]
  first | refine (a5k v hv).acall ?_ | refine (a5k v hv).dcall ?_ | refine (a5k v hv).dgcall ?_
  try simp only [E3, seval]
  refine Safe.rt rfl ?_
  simp only [E3, seval]
  first | exact ⟨rfl, _, rfl⟩ | exact ⟨_, rfl⟩ | exact ⟨trivial, _, rfl⟩
theorem c0k (b : List (List ZI)) (hb : Mok 17592186044416 b) : a0c Pr a9t [matV b] (matV (b5r b)) := by
  have he := c6Q a4b [] b (fun i => vec (mg b i).length fun k => zg (mg b i) k) hb.len (by simp) fun i h => by
    have := b7y b[i] (hb.get h)
    rw [b6g h]; exact this
  refine a0c.intro b7R b7Q (Nat.le_of_ble_eq_true rfl) (a6H _) fun H hH => ?_
  refine Safe.rg rfl ?_
  simp only [b3e, E3, seval]
  refine Safe.rg rfl ?_
  simp only [b3d, E3, seval]
  first | refine (he).acall ?_ | refine (he).dcall ?_ | refine (he).dgcall ?_
  try simp only [E3, seval]
  refine Safe.rt rfl ?_
  simp only [E3, seval]
  first | exact ⟨rfl, _, rfl⟩ | exact ⟨_, rfl⟩ | exact ⟨trivial, _, rfl⟩
theorem b5q (b : List (List ZI)) : (b.map fun v => cans (v.map ZI.z)) = b5r b := by
  apply List.ext_getElem
  · simp [b5r, a0C]
  · intro i h1 h2
    rw [List.getElem_map]
    simp only [b5r, c1N]
    have hi : i < b.length := by simpa using h1
    rw [b6g hi]
    exact b8s b[i] fun x => x
theorem b8N {b : List (List ZI)} {k : Nat} (hb : Mok k b) : Mok k (b5r b) := c1L hb.len fun i hi => c0L (hb.row i).len fun j _ => (hb.row i).abs j
theorem c3X (m : Nat) (hm : m ≤ 64) : Mok 1 (b1D m) := c1L (by omega) fun i hi => c0L (by omega) fun j _ => by
  simp only [updF]; split <;> decide
end Go.Abs
namespace Go.Abs
def a0L (H : Heap) (n k : Nat) : List AV := (List.range k).map fun j => .mu (lid H 0) (j * n) n (some n)
end Go.Abs
namespace Go.Abs
section
variable {H L : Heap} {env : Env} {n0 : Nat}
theorem c5P (i q : Nat) (qs : List Nat) : (List.replicate (i + 1) 0 ++ qs).set i q = List.replicate i 0 ++ q :: qs := by
  rw [List.replicate_succ', List.append_assoc]
  simp
theorem b1A {n : Nat} (h : n < 18446744073709551616) : IntKind.wrap .u64 (n : Int) = (n : Int) := a1p (Int.natCast_nonneg _) (by omega)
theorem b5M {n : Nat} (h : n < 4294967296) : IntKind.wrap .u32 (n : Int) = (n : Int) := a4K (Int.natCast_nonneg _) (by omega)
theorem c1W {r x : Nat} (hr : r < 4294967296) (hx : x < 4294967296) : r * LB + x < 18446744073709551616 := by
  have : r * LB ≤ 4294967295 * 4294967296 := Nat.mul_le_mul (by omega) (Nat.le_refl _)
  omega
theorem b8S {r : Nat} (hr : r < 4294967296) : r * LB < 18446744073709551616 := Nat.lt_of_le_of_lt (Nat.le_add_right _ _) (c1W hr (show 0 < 4294967296 by decide))
theorem c5M (r : Nat) (h : r < 4294967296) : b0W .shl .u64 (r : Int) 32 = some (.int .u64 ((r * LB : Nat) : Int)) := by
  have hLB : LB = 4294967296 := rfl
  simp only [b0W]
  rw [if_neg (by decide), show min (Int.toNat 32) (IntKind.bits .u64) = 32 by decide, show (r : Int) * 2 ^ 32 = ((r * LB : Nat) : Int) by rw [Int.natCast_mul]; rfl, b1A (b8S h)]
theorem c7O (r x : Nat) (hr : r < 4294967296) (hx : x < 4294967296) : IntKind.wrap .u64 ((BitVec.ofInt (IntKind.bits .u64) ((r * LB : Nat) : Int) ||| BitVec.ofInt (IntKind.bits .u64) (x : Int)).toNat : Int) = ((r * LB + x : Nat) : Int) := by
  have hLB : LB = 4294967296 := rfl
  have e : (BitVec.ofInt (IntKind.bits .u64) ((r * LB : Nat) : Int) ||| BitVec.ofInt (IntKind.bits .u64) (x : Int)).toNat = r * LB + x := by
    show (BitVec.ofInt 64 ((r * LB : Nat) : Int) ||| BitVec.ofInt 64 (x : Int)).toNat = r * LB + x
    rw [BitVec.toNat_or, BitVec.ofInt_natCast, BitVec.ofInt_natCast, BitVec.toNat_ofNat, BitVec.toNat_ofNat, Nat.mod_eq_of_lt (b8S hr), Nat.mod_eq_of_lt (by omega)]
    have := Nat.shiftLeft_add_eq_or_of_lt (b := x) (i := 32) (by simpa using hx) r
    rw [Nat.shiftLeft_eq] at this
    exact this.symm
  rw [e, b1A (c1W hr hx)]
theorem c5S (t d : Nat) (hd : 0 < d) (ht : t < 18446744073709551616) : binV .quo (.int .u64 (t : Int)) (.int .u64 (d : Int)) = some (.int .u64 ((t / d : Nat) : Int)) := by
  rw [b9j _ _ _ (by omega), Int.tdiv_eq_ediv_of_nonneg (by omega)]
  have : (t : Int) / (d : Int) = ((t / d : Nat) : Int) := rfl
  have h2 : t / d ≤ t := Nat.div_le_self _ _
  rw [this, b1A (by omega)]
theorem c5Q (t d : Nat) (hd : 0 < d) : binV .rem (.int .u64 (t : Int)) (.int .u64 (d : Int)) = some (.int .u64 ((t % d : Nat) : Int)) := by
  rw [b9i _ _ _ (by omega), Int.tmod_eq_emod_of_nonneg (by omega)]; rfl
theorem c5T (k : IntKind) (hk : ∀ n : Nat, n < 4294967296 → k.wrap (n : Int) = n) (t : Nat) (ht : t < 4294967296) : binV .quo (.int k (t : Int)) (.int k 10) = some (.int k ((t / 10 : Nat) : Int)) := by
  rw [b9j _ _ _ (by decide), Int.tdiv_eq_ediv_of_nonneg (by omega)]
  have : (t : Int) / 10 = ((t / 10 : Nat) : Int) := rfl
  rw [this, hk _ (by omega)]
theorem c5R (k : IntKind) (t : Nat) : binV .rem (.int k (t : Int)) (.int k 10) = some (.int k ((t % 10 : Nat) : Int)) := by
  rw [b9i _ _ _ (by decide), Int.tmod_eq_emod_of_nonneg (by omega)]; rfl
end
theorem b9J (a : List Nat) (d : Nat) (ha : Nt a) (hd : 0 < d) (hd2 : d < 4294967296) : a0c Pr a7W [natV a, .int .u32 d] (.tup [natV (limbs (val a / d)), .int .u32 ((val a % d : Nat) : Int)]) := by
  have hLB : LB = 4294967296 := rfl
  have hal := ha.len
  have hla := ha.lim
  have hw0 : IntKind.wrap .i64 ((a.length : Int) - 1) = (a.length : Int) - 1 := by rw [a0b] <;> omega
  have hwd : IntKind.wrap .u64 (d : Int) = (d : Int) := a1p (by omega) (by omega)
  refine a0c.intro b6f b6d (Nat.le_of_ble_eq_true rfl) (.tup _ (by intro c hc; simp only [List.mem_cons, List.not_mem_nil, or_false] at hc; rcases hc with rfl | rfl; exact a4d _; exact .int _ _)) fun H hH => ?_
  refine Safe.rg rfl ?_
  simp only [b0e, E2, Nat.reduceLeDiff, Nat.reduceSub, Nat.reduceAdd, Nat.reduceEqDiff, reduceCtorEq, ↓reduceIte]
  refine Safe.rg rfl ?_
  simp only [b0d, b1m _ H [] .i64 .i64 a.length (by omega), E2, Nat.reduceLeDiff, Nat.reduceSub, Nat.reduceAdd, Nat.reduceEqDiff, reduceCtorEq, ↓reduceIte]
  refine Safe.rg rfl ?_
  simp only [b0c, E2, Nat.reduceLeDiff, Nat.reduceSub, Nat.reduceAdd, Nat.reduceEqDiff, reduceCtorEq, ↓reduceIte]
  refine Safe.rg rfl ?_
  simp only [b0b, hw0, E2, Nat.reduceLeDiff, Nat.reduceSub, Nat.reduceAdd, Nat.reduceEqDiff, reduceCtorEq, ↓reduceIte]
  refine Safe.lp rfl ?_
  refine Safe.keep [0, 1, 6, 7, 8] ?_
  simp only [E2, Nat.reduceLeDiff, Nat.reduceSub, Nat.reduceAdd, Nat.reduceEqDiff, reduceCtorEq, ↓reduceIte]
  refine Safe.loopD a.length (fun i => [(0, natV a), (1, .int .u32 d), (6, .mu (lid H 0) 0 a.length (some a.length)), (7, .int .u64 ((sdiv d (a.drop i)).2 : Nat)), (8, .int .i64 ((i : Int) - 1))]) (fun i => hap H [some ⟨1, u32s (List.replicate i 0 ++ (sdiv d (a.drop i)).1)⟩]) (by simp [sdiv]) (by simp [sdiv]) (fun i hi ih => ?_) ?_
  · have hidx : ((i + 1 : Nat) : Int) - 1 = (i : Int) := by omega
    have hr := b1h hd (a.drop (i + 1))
    have hx : a.getD i 0 < 4294967296 := by
      rw [List.getD_eq_getElem?_getD, List.getElem?_eq_getElem hi]; exact hla _ (List.getElem_mem hi)
    have hdrop : a.drop i = a.getD i 0 :: a.drop (i + 1) := by
      rw [List.drop_eq_getElem_cons hi, List.getD_eq_getElem?_getD, List.getElem?_eq_getElem hi]; rfl
    rw [hdrop, a6f] at ih
    generalize hs : sdiv d (a.drop (i + 1)) = s at *
    obtain ⟨qs, r⟩ := s
    simp only at hr ih
    have hql : qs.length = a.length - (i + 1) := by have := b4X d (a.drop (i + 1)); rw [hs, List.length_drop] at this; exact this
    generalize hx2 : a.getD i 0 = x0 at *
    have ht : r * LB + x0 < 18446744073709551616 := by
      have : r * LB ≤ 4294967294 * LB := Nat.mul_le_mul_right _ (by omega)
      omega
    have hq : (r * LB + x0) / d < 4294967296 := by
      rw [Nat.div_lt_iff_lt_mul hd]
      have : r * LB ≤ (d - 1) * LB := Nat.mul_le_mul_right _ (by omega)
      have e : (d - 1) * LB + LB = 4294967296 * d := by rw [← Nat.succ_mul, Nat.mul_comm]; congr 1; omega
      omega
    have hwx : IntKind.wrap .u64 (x0 : Int) = (x0 : Int) := a1p (by omega) (by omega)
    have hwq : IntKind.wrap .u32 (((r * LB + x0) / d : Nat) : Int) = (((r * LB + x0) / d : Nat) : Int) := b5M hq
    have hw1 : IntKind.wrap .i64 ((i : Int) - 1) = (i : Int) - 1 := by rw [a0b] <;> omega
    refine Safe.inLoop ?_
    refine Safe.rg rfl ?_
    simp only [a6k, hidx, ge_iff_le, Int.natCast_nonneg, E2, Nat.reduceLeDiff, Nat.reduceSub, Nat.reduceAdd, Nat.reduceEqDiff, reduceCtorEq, ↓reduceIte]
    refine Safe.cd rfl ?_
    simp only [E2, Nat.reduceLeDiff, Nat.reduceSub, Nat.reduceAdd, Nat.reduceEqDiff, reduceCtorEq, ↓reduceIte]
    refine Safe.rg rfl ?_
    simp only [b0a, hidx, c5M r (by omega), a1r _ a _ i hi, hx2, hwx, c7O r x0 (by omega) hx, E2, Nat.reduceLeDiff, Nat.reduceSub, Nat.reduceAdd, Nat.reduceEqDiff, reduceCtorEq, ↓reduceIte]
    refine Safe.rg rfl ?_
    simp only [a9Z, hidx, hwd, c5S _ d hd ht, hwq, c2h hi, b6a H _ (List.replicate (i + 1) 0 ++ qs) i ((r * LB + x0) / d) (by simp; omega), c5P, E2, Nat.reduceLeDiff, Nat.reduceSub, Nat.reduceAdd, Nat.reduceEqDiff, reduceCtorEq, ↓reduceIte]
    refine Safe.rg rfl ?_
    simp only [a9Y, hwd, c5Q _ d hd, E2, Nat.reduceLeDiff, Nat.reduceSub, Nat.reduceAdd, Nat.reduceEqDiff, reduceCtorEq, ↓reduceIte]
    refine Safe.rg rfl ?_
    simp only [a9X, hidx, hw1, E2, Nat.reduceLeDiff, Nat.reduceSub, Nat.reduceAdd, Nat.reduceEqDiff, reduceCtorEq, ↓reduceIte]
    refine Safe.keep [0, 1, 6, 7, 8] ?_
    simp only [E2, Nat.reduceLeDiff, Nat.reduceSub, Nat.reduceAdd, Nat.reduceEqDiff, reduceCtorEq, ↓reduceIte]
    exact ih
  · refine Safe.inLoop ?_
    refine Safe.rg rfl ?_
    simp only [a6k, Int.natCast_zero, Int.zero_sub, show ¬ (-1 : Int) ≥ 0 by decide, show ¬ (0 : Int) ≤ -1 by decide, E2, Nat.reduceLeDiff, Nat.reduceSub, Nat.reduceAdd, Nat.reduceEqDiff, reduceCtorEq, ↓reduceIte]
    refine Safe.cd rfl ?_
    simp only [E2, Nat.reduceLeDiff, Nat.reduceSub, Nat.reduceAdd, Nat.reduceEqDiff, reduceCtorEq, ↓reduceIte]
    have hl : ((sdiv d a).1).length = a.length := b4X d a
    have hfm : frz (lid H 0) ⟨1, u32s (sdiv d a).1⟩ (.mu (lid H 0) 0 a.length (some a.length)) = natV (sdiv d a).1 := by
      have := a9j H 0 (sdiv d a).1 (some a.length)
      rwa [hl] at this
    simp only [List.replicate_zero, List.nil_append, List.drop_zero]
    refine Safe.freeze 0 hH rfl rfl (a4f _) ?_
    refine Safe.keep [6, 7] ?_
    simp only [hfm, E2, Nat.reduceLeDiff, Nat.reduceSub, Nat.reduceAdd, Nat.reduceEqDiff, reduceCtorEq, ↓reduceIte]
    have htr := a1L (sdiv d a).1 (b8G hd hla) (by rw [hl]; exact hal)
    rw [c3t hd] at htr
    have hm : val a % d < 4294967296 := Nat.lt_trans (Nat.mod_lt _ hd) hd2
    have hwm : IntKind.wrap .u32 ((val a % d : Nat) : Int) = ((val a % d : Nat) : Int) := a4K (by omega) (by omega)
    rw [c3s hd]
    refine Safe.rg rfl ?_
    simp only [a9W, E2, Nat.reduceLeDiff, Nat.reduceSub, Nat.reduceAdd, Nat.reduceEqDiff, reduceCtorEq, ↓reduceIte]
    first | refine (htr).acall ?_ | refine (htr).dcall ?_ | refine (htr).dgcall ?_
    try simp only [E2, Nat.reduceLeDiff, Nat.reduceSub, Nat.reduceAdd, Nat.reduceEqDiff, reduceCtorEq, ↓reduceIte]
    simp only [hwm, E2, Nat.reduceLeDiff, Nat.reduceSub, Nat.reduceAdd, Nat.reduceEqDiff, reduceCtorEq, ↓reduceIte]
    refine Safe.rt rfl ?_
    simp only [E2, Nat.reduceLeDiff, Nat.reduceSub, Nat.reduceAdd, Nat.reduceEqDiff, reduceCtorEq, ↓reduceIte]
    first | exact ⟨rfl, _, rfl⟩ | exact ⟨_, rfl⟩ | exact ⟨trivial, _, rfl⟩
section
variable {H L : Heap} {env : Env} {n0 : Nat}
/-- One byte, or many, behind a row of bytes. -/
theorem c7t (hH : a0N H) (hn : n0 ≤ lid H 0) (hL : RC L) (l m : List UInt8) (len : Nat) (y : AV) (str : Bool) (hy : a0t (hap H (some ⟨1, byts l⟩ :: L)) 1 str y = some (byts m)) (hlen : len = l.length) (hb : l.length + m.length ≤ 140737488355328) :
    appV n0 1 1 str (.mu (lid H 0) 0 len none) y env (hap H (some ⟨1, byts l⟩ :: L)) = some (.mu (lid H 0) 0 (len + m.length) none, scrub (lid H 0) env, hap H (some ⟨1, byts (l ++ m)⟩ :: L)) := by
  have := b9n n0 env H (some ⟨1, byts l⟩ :: L) 1 1 str 0 len none y (byts l) (byts m) hH rfl (by rw [a4a]; exact hlen) hn hy (b9m (RC.byts hL)) (by
    intro a ha
    rw [b6O] at ha
    obtain ⟨b, _, rfl⟩ := List.mem_map.1 ha
    exact .int _ _) (by rw [a4a]; omega) (by rw [a4a]; omega) rfl
  rw [a4a] at this
  simpa only [a0G, Option.bind_none, List.set_cons_zero, ← b8t] using this
theorem c5u {l : List UInt8} {j : Nat} (h : j < l.length) : atV (hap H (some ⟨1, byts l⟩ :: L)) (.loc (lid H 0) j 0) = some [.int .u8 ((l.getD j 0).toNat : Int)] := by
  rw [b8P H _ 0 j rfl (by rw [a4a]; exact h)]
  have : (byts l).getD j .top = .int .u8 ((l.getD j 0).toNat : Int) := by simp [byts, h]
  rw [this]; rfl
theorem c5j {l : List UInt8} {j : Nat} {b : UInt8} (h : j < l.length) : a8p 1 (.loc (lid H 0) j 0) (.int .u8 (b.toNat : Int)) env (hap H (some ⟨1, byts l⟩ :: L)) = some (.top, env, hap H (some ⟨1, byts (l.set j b)⟩ :: L)) := by
  rw [a6Z env H _ 1 0 j 0 _ rfl (by rw [a4a]; exact h) rfl rfl (Nat.le_refl 1)]
  have : (byts l).set j (.int .u8 (b.toNat : Int)) = byts (l.set j b) := by simp [byts, List.map_set]
  simp only [a8m, this, List.set_cons_zero]
theorem c8l (l : List UInt8) (len : Nat) (h : len = l.length) : b2sV (hap H (some ⟨1, byts l⟩ :: L)) (.mu (lid H 0) 0 len none) = some (strU l) := by
  subst h
  rw [c7n, a1y]
  simp only [List.getElem?_cons_zero, Option.join_some, Option.bind_some]
  rw [if_pos ⟨trivial, by rw [a4a]; omega⟩, List.drop_zero, ← a4a, List.take_length, c1a]
end
theorem c4D (k : Nat) (h : k < 10) : IntKind.wrap .u8 ((48 : Int) + (k : Int)) = ((cdig k).toNat : Int) := by
  rw [b5v h]
  simp [IntKind.wrap, IntKind.bits, IntKind.signed]; omega
/-- The bytes turned about from both ends, i of them done. -/
def rvl (i : Nat) (l : List UInt8) : List UInt8 := (List.range l.length).map fun j => if j < i ∨ l.length - i ≤ j then l.getD (l.length - 1 - j) 0 else l.getD j 0
theorem b7h (i : Nat) (l : List UInt8) : (rvl i l).length = l.length := by simp [rvl]
theorem c3v (l : List UInt8) : rvl 0 l = l := by
  apply List.ext_getElem
  · simp [rvl]
  · intro j h1 h2
    simp only [rvl, List.getElem_map, List.getElem_range]
    rw [if_neg (by omega), List.getD_eq_getElem?_getD, List.getElem?_eq_getElem h2]; rfl
theorem b8J (i j : Nat) (l : List UInt8) (h : j < l.length) : (rvl i l).getD j 0 = if j < i ∨ l.length - i ≤ j then l.getD (l.length - 1 - j) 0 else l.getD j 0 := by
  rw [List.getD_eq_getElem?_getD, List.getElem?_eq_getElem (by rw [b7h]; exact h)]
  simp [rvl]
theorem c3x (l : List UInt8) : rvl (l.length / 2) l = l.reverse := by
  apply List.ext_getElem
  · simp [rvl]
  · intro j h1 h2
    have hj : j < l.length := by simpa [rvl] using h1
    simp only [rvl, List.getElem_map, List.getElem_range, List.getElem_reverse]
    split
    · rw [List.getD_eq_getElem?_getD, List.getElem?_eq_getElem (by omega)]; rfl
    · rename_i h
      have e : l.length - 1 - j = j := by omega
      simp only [e]
      rw [List.getD_eq_getElem?_getD, List.getElem?_eq_getElem hj]; rfl
theorem c3w (i : Nat) (l : List UInt8) (h : i < l.length / 2) : ((rvl i l).set i (l.getD (l.length - 1 - i) 0)).set (l.length - 1 - i) (l.getD i 0) = rvl (i + 1) l := by
  apply List.ext_getElem
  · simp [rvl]
  · intro j h1 h2
    have hj : j < l.length := by simpa [rvl] using h2
    rw [List.getElem_set, List.getElem_set]
    simp only [rvl, List.getElem_map, List.getElem_range]
    by_cases e1 : l.length - 1 - i = j
    · rw [if_pos e1, if_pos (by omega)]
      congr 1; omega
    · rw [if_neg e1]
      by_cases e2 : i = j
      · subst e2
        rw [if_pos rfl, if_pos (by omega)]
      · rw [if_neg e2]
        by_cases e3 : j < i ∨ l.length - i ≤ j
        · rw [if_pos e3, if_pos (by omega)]
        · rw [if_neg e3, if_neg (by omega)]
theorem c6u {q r k : Nat} (hk : k < 9) : (q * 10 ^ (9 - k) + r) % 10 = r % 10 := by
  rw [show 9 - k = (8 - k) + 1 by omega, Nat.pow_succ, ← Nat.mul_assoc]; omega
theorem c6v {q r k : Nat} (hk : k < 9) : (q * 10 ^ (9 - k) + r) / 10 = q * 10 ^ (9 - (k + 1)) + r / 10 := by
  rw [show 9 - k = (9 - (k + 1)) + 1 by omega, Nat.pow_succ, ← Nat.mul_assoc]; omega
theorem c7V {r k : Nat} (hk : k < 9) (h : r < 10 ^ (9 - k)) : r / 10 < 10 ^ (9 - (k + 1)) := by
  rw [show 9 - k = (9 - (k + 1)) + 1 by omega, Nat.pow_succ] at h; omega
theorem c4m {q k : Nat} (h : q * 10 ^ (9 - k) + 0 = 0) : q = 0 := by
  rcases Nat.eq_zero_or_pos q with h0 | h0
  · exact h0
  · have : 0 < q * 10 ^ (9 - k) := Nat.mul_pos h0 (Nat.pow_pos (by decide))
    omega
theorem b3i {m : Nat} (h : m ≠ 0) : ((limbs m).length : Int) > 0 := by
  rw [a3z h, List.length_cons]; omega
theorem b5j : ¬ ((limbs 0).length : Int) > 0 := by rw [a0v]; decide
theorem b6b (a : List Nat) (ha : Nt a) (hs : a.length ≤ 8796093022208) : a0c Pr a3i [natV a] (strU (dec (val a))) := by
  have hal := ha.len
  have hla := ha.lim
  generalize hn : val a = n
  have hlm : ∀ m, m ≤ n → Nt (limbs m) := fun m hm => ⟨a1Y m, Nat.le_trans (a1I (Nat.lt_of_le_of_lt hm (by rw [← hn]; exact a8l hla))) hal⟩
  have hdl : (digs n).length ≤ 87960930222080 := Nat.le_trans (b5u (10 * a.length) n (Nat.lt_of_lt_of_le (by rw [← hn]; exact a8l hla) (c5m _))) (by omega)
  have hnorm := c1B a ha
  rw [hn] at hnorm
  refine a0c.intro b7t b7s (Nat.le_of_ble_eq_true rfl) (a0J _) fun H hH => ?_
  refine Safe.rg rfl ?_
  simp only [b2g, E2, seval]
  refine Safe.rg rfl ?_
  simp only [b2f, E2, seval]
  first | refine (hnorm).acall ?_ | refine (hnorm).dcall ?_ | refine (hnorm).dgcall ?_
  try simp only [E2, seval]
  refine Safe.rg rfl ?_
  simp only [b2e, E2, seval]
  refine Safe.cd rfl ?_
  simp only [E2, seval]
  by_cases h0 : n = 0
  · subst h0
    have hz : ((limbs 0).length : Int) = 0 := by rw [a0v]; rfl
    simp only [hz, E2, seval]
    refine Safe.rg rfl ?_
    simp only [b2d, E2, seval]
    refine Safe.rt rfl ?_
    simp only [E2, seval]
    exact ⟨rfl, _, rfl⟩
  · have hz : ¬ ((limbs n).length : Int) = 0 := by have := b3i h0; omega
    have hdec : dec n = (digs n).reverse := by simp [dec, h0]
    simp only [hz, E2, seval]
    refine Safe.rg rfl ?_
    simp only [b2c, E2, seval]
    refine Safe.nilrow 3 1 (by decide) (by simp only [E2, seval]) ?_
    refine Safe.lp rfl ?_
    refine Safe.keep [0, 3] ?_
    simp only [E2, seval]
    refine Safe.loopW (α := Nat × List UInt8) (fun p => p.1) (fun p => [(0, natV (limbs p.1)), (3, .mu (lid H 0) 0 p.2.length none)]) (fun p => hap H [some ⟨1, byts p.2⟩]) (fun p => p.1 ≤ n ∧ p.2 ++ digs p.1 = digs n) (n, []) rfl rfl ⟨Nat.le_refl _, rfl⟩ ?_
    rintro ⟨m, bs⟩ ⟨hm, hinv⟩ ih
    simp only at hm hinv ih ⊢
    refine Safe.inLoop ?_
    by_cases hm0 : m = 0
    · subst hm0
      rw [a3A, List.append_nil] at hinv
      subst hinv
      generalize hbs : digs n = bs at *
      have hb1 : 0 < bs.length := by
        rcases Nat.eq_zero_or_pos bs.length with h | h
        · rw [a5l h0] at hbs
          rw [← hbs] at h; simp at h
        · exact h
      refine Safe.rg rfl ?_
      simp only [a7F, b5j, E2, seval]
      refine Safe.cd rfl ?_
      simp only [E2, seval]
      have hw1 : IntKind.wrap .i64 ((bs.length : Int) - 1) = (bs.length : Int) - 1 := by rw [a0b] <;> omega
      refine Safe.rg rfl ?_
      simp only [a3Q, hw1, E2, seval]
      refine Safe.lp rfl ?_
      refine Safe.keep [3, 7, 8] ?_
      simp only [E2, seval]
      refine Safe.loopN (bs.length / 2) (fun i => [(3, .mu (lid H 0) 0 bs.length none), (7, .int .i64 i), (8, .int .i64 ((bs.length : Int) - 1 - (i : Int)))]) (fun i => hap H [some ⟨1, byts (rvl i bs)⟩]) (by simp) (by rw [c3v]) (fun i hi ih3 => ?_) ?_
      · have hlt : (i : Int) < (bs.length : Int) - 1 - (i : Int) := by omega
        have hk : (bs.length : Int) - 1 - (i : Int) = ((bs.length - 1 - i : Nat) : Int) := by omega
        have hk2 : IntKind.wrap .i64 (((bs.length - 1 - i : Nat) : Int) - 1) = (bs.length : Int) - 1 - ((i + 1 : Nat) : Int) := by rw [a0b] <;> omega
        have l1 : i < (rvl i bs).length := by rw [b7h]; omega
        have l2 : bs.length - 1 - i < (rvl i bs).length := by rw [b7h]; omega
        have g1 := b8J i i bs (by omega)
        rw [if_neg (by omega)] at g1
        have g2 := b8J i (bs.length - 1 - i) bs (by omega)
        rw [if_neg (by omega)] at g2
        have hlt' : (i : Int) < ((bs.length - 1 - i : Nat) : Int) := by omega
        have hiw : IntKind.wrap .i64 ((i : Int) + 1) = ((i + 1 : Nat) : Int) := by rw [a0b] <;> omega
        refine Safe.inLoop ?_
        refine Safe.rg rfl ?_
        simp only [a6l, hk, hlt', E2, seval]
        refine Safe.cd rfl ?_
        simp only [E2, seval]
        refine Safe.rg rfl ?_
        simp only [b0g, hk, c2h (show bs.length - 1 - i < bs.length by omega), c2h (show i < bs.length by omega), c5u l1, c5u l2, g1, g2, c5j l1, c5j (show bs.length - 1 - i < ((rvl i bs).set i (bs.getD (bs.length - 1 - i) 0)).length by rw [List.length_set]; exact l2), c3w i bs hi, E2, seval]
        refine Safe.rg rfl ?_
        simp only [b0f, hk, hk2, hiw, E2, seval]
        refine Safe.keep [3, 7, 8] ?_
        simp only [E2, seval]
        exact ih3
      · have hlt : ¬ ((bs.length / 2 : Nat) : Int) < (bs.length : Int) - 1 - ((bs.length / 2 : Nat) : Int) := by omega
        refine Safe.inLoop ?_
        refine Safe.rg rfl ?_
        simp only [a6l, hlt, E2, seval]
        refine Safe.cd rfl ?_
        simp only [E2, seval]
        rw [c3x]
        refine Safe.rg rfl ?_
        simp only [a3P, c8l bs.reverse bs.length (List.length_reverse).symm, E2, seval]
        refine Safe.rt rfl ?_
        simp only [E2, seval]
        rw [hdec]
        exact ⟨rfl, _, rfl⟩
    · have hsh := b9J (limbs m) 1000000000 (hlm m hm) (by decide) (by decide)
      rw [a0H] at hsh
      refine Safe.rg rfl ?_
      simp only [a7F, b3i hm0, E2, seval]
      refine Safe.cd rfl ?_
      simp only [E2, seval]
      refine Safe.rg rfl ?_
      simp only [b2b, E2, seval]
      first | refine (hsh).acall ?_ | refine (hsh).dcall ?_ | refine (hsh).dgcall ?_
      try simp only [E2, seval]
      refine Safe.rg rfl ?_
      simp only [b2a, E2, seval]
      refine Safe.lp rfl ?_
      refine Safe.keep [3, 4, 5, 6] ?_
      simp only [E2, seval]
      refine Safe.loopW (α := Nat × Nat × List UInt8) (fun p => 9 - p.1) (fun p => [(3, .mu (lid H 0) 0 p.2.2.length none), (4, natV (limbs (m / 1000000000))), (5, .int .u32 p.2.1), (6, .int .i64 p.1)]) (fun p => hap H [some ⟨1, byts p.2.2⟩])
        (fun p => p.1 ≤ 9 ∧ p.2.1 < 10 ^ (9 - p.1) ∧ p.2.2 ++ digs (m / 1000000000 * 10 ^ (9 - p.1) + p.2.1) = digs n) (0, m % 1000000000, bs) rfl rfl ⟨Nat.zero_le _, by show m % 1000000000 < 10 ^ 9; omega, by
          show bs ++ digs (m / 1000000000 * 10 ^ 9 + m % 1000000000) = digs n
          rw [show m / 1000000000 * 10 ^ 9 + m % 1000000000 = m by omega]; exact hinv⟩ ?_
      rintro ⟨k, r, cs⟩ ⟨hk9, hr, hinv2⟩ ih2
      simp only at hk9 hr hinv2 ih2 ⊢
      have hfin : m / 1000000000 * 10 ^ (9 - k) + r = m / 1000000000 → Safe ⟨Pr, fun _ _ => false, a3i, 71, [.tmp 2], H.length⟩ [.code (.region a3R false), .inBlock 1, .inLoop a7H, .inBlock 0, .code (.seq (.seq (.region a3Q false) (.block 4 (.loop a7G))) (.seq (.region a3P false) (.ret)))]
          [(3, .mu (lid H 0) 0 cs.length none), (4, natV (limbs (m / 1000000000))), (5, .int .u32 r), (6, .int .i64 k)] (hap H [some ⟨1, byts cs⟩]) fun r' H' => r' = strU (dec n) ∧ ∃ L, H' = hap H L := by
        intro e
        rw [e] at hinv2
        refine Safe.rg rfl ?_
        simp only [a3R, E2, seval]
        repeat (first | refine Safe.seq ?_ | refine Safe.skip ?_ | refine Safe.inBlock ?_ | refine Safe.block ?_ | refine Safe.exit rfl ?_)
        refine Safe.keep [0, 3] ?_
        simp only [E2, seval]
        exact ih (m / 1000000000, cs) ⟨by omega, hinv2⟩ (by show m / 1000000000 < m; omega)
      refine Safe.inLoop ?_
      by_cases hk : k < 9
      · have hki : (k : Int) < 9 := by omega
        by_cases hv : m / 1000000000 * 10 ^ (9 - k) + r = 0
        · have hr0 : r = 0 := by omega
          subst hr0
          have hq0 := c4m hv
          have hri : ¬ ((0 : Nat) : Int) > 0 := by decide
          rw [hq0] at hfin ⊢
          refine Safe.rg rfl ?_
          simp only [a3u, hki, b5j, hri, E2, seval]
          refine Safe.cd rfl ?_
          simp only [E2, seval]
          repeat (first | refine Safe.seq ?_ | refine Safe.skip ?_ | refine Safe.inBlock ?_ | refine Safe.block ?_ | refine Safe.exit rfl ?_)
          refine Safe.keep [3, 4, 5, 6] ?_
          simp only [E2, seval]
          exact hfin (by simp)
        · have hbody : Safe ⟨Pr, fun _ _ => false, a3i, 71, [.tmp 2], H.length⟩ [.code (.block 3 (.seq (.region a7E false) (.region a6n false))), .code (.region a6m false), .inLoop b2h, .inBlock 2, .code (.region a3R false), .inBlock 1, .inLoop a7H, .inBlock 0, .code (.seq (.seq (.region a3Q false) (.block 4 (.loop a7G))) (.seq (.region a3P false) (.ret)))]
              [(3, .mu (lid H 0) 0 cs.length none), (4, natV (limbs (m / 1000000000))), (5, .int .u32 r), (6, .int .i64 k)] (hap H [some ⟨1, byts cs⟩]) fun r' H' => r' = strU (dec n) ∧ ∃ L, H' = hap H L := by
            have hr9 : r < 4294967296 := Nat.lt_of_lt_of_le hr (Nat.le_trans (Nat.pow_le_pow_right (by decide) (show 9 - k ≤ 9 by omega)) (by decide))
            have hm10 : r % 10 < 10 := Nat.mod_lt _ (by decide)
            have hw48 : IntKind.wrap .u32 ((48 : Int) + ((r % 10 : Nat) : Int)) = (48 : Int) + ((r % 10 : Nat) : Int) := a4K (by omega) (by omega)
            rw [a5l hv, c6u hk, c6v hk] at hinv2
            have hcl : cs.length < (digs n).length := by rw [← hinv2]; simp
            have happ := fun env => c7t (H := H) (L := []) (env := env) (n0 := H.length) hH (a8y H 0) RC.nil cs [cdig (r % 10)] cs.length (.sl 1 [.int .u8 ((cdig (r % 10)).toNat : Int)]) false (a4o _ 1 _) rfl (by simp only [List.length_cons, List.length_nil]; omega)
            have hkw : IntKind.wrap .i64 ((k : Int) + 1) = ((k + 1 : Nat) : Int) := by rw [a0b] <;> omega
            refine Safe.rg rfl ?_
            simp only [a7E, c5R, hw48, c4D _ hm10, happ, E2, seval]
            refine Safe.rg rfl ?_
            simp only [a6n, c5T .u32 (fun n h => b5M h) r hr9, E2, seval]
            refine Safe.rg rfl ?_
            simp only [a6m, hkw, E2, seval]
            refine Safe.keep [3, 4, 5, 6] ?_
            simp only [E2, seval]
            have := ih2 (k + 1, r / 10, cs ++ [cdig (r % 10)]) ⟨by show k + 1 ≤ 9; omega, c7V hk hr, by rw [← hinv2]; simp⟩ (by show 9 - (k + 1) < 9 - k; omega)
            simpa only [List.length_append, List.length_cons, List.length_nil, Nat.zero_add] using this
          by_cases hq : m / 1000000000 = 0
          · have hri : (r : Int) > 0 := by rw [hq] at hv; omega
            rw [hq] at hbody ⊢
            refine Safe.rg rfl ?_
            simp only [a3u, hki, b5j, hri, E2, seval]
            refine Safe.cd rfl ?_
            simp only [E2, seval]
            refine Safe.skip (Safe.seq ?_)
            refine Safe.keep [3, 4, 5, 6] ?_
            simp only [E2, seval]
            exact hbody
          · refine Safe.rg rfl ?_
            simp only [a3u, hki, b3i hq, E2, seval]
            refine Safe.cd rfl ?_
            simp only [E2, seval]
            refine Safe.skip (Safe.seq ?_)
            refine Safe.keep [3, 4, 5, 6] ?_
            simp only [E2, seval]
            exact hbody
      · have hki : ¬ (k : Int) < 9 := by omega
        have hk' : k = 9 := by omega
        subst hk'
        have hr0 : r = 0 := by simpa using hr
        subst hr0
        refine Safe.rg rfl ?_
        simp only [a3u, hki, E2, seval]
        refine Safe.cd rfl ?_
        simp only [E2, seval]
        repeat (first | refine Safe.seq ?_ | refine Safe.skip ?_ | refine Safe.inBlock ?_ | refine Safe.block ?_ | refine Safe.exit rfl ?_)
        refine Safe.keep [3, 4, 5, 6] ?_
        simp only [E2, seval]
        exact hfin (by simp)
end Go.Abs
namespace Go.Proofs
open Go.Shelf
def Tryd.lays156_ren : Go.Shelf.Ren := ⟨fun | 156 => 26 | 165 => 47 | 166 => 48 | 169 => 49 | 240 => 66 | 241 => 67 | 276 => 81 | 277 => 82 | n => n, fun | 31 => 44 | 9 => 9 | 3 => 3 | 4 => 4 | 0 => 0 | 20 => 20 | 72 => 84 | 76 => 88 | 70 => 81 | 37 => 82 | 75 => 87 | 127 => 107 | 164 => 116 | 5 => 5 | 80 => 90 | n => n, fun | n => n⟩
theorem Tryd.lays156 : Go.Proofs.Lays.n156 Tryd.prog Tryd.lays156_ren := {
  mixed := by kernel_rfl
  f156 := Tryd.func26.trans (congrArg some (by kernel_rfl))
  f165 := Tryd.func47.trans (congrArg some (by kernel_rfl))
  f166 := Tryd.func48.trans (congrArg some (by kernel_rfl))
  f169 := Tryd.func49.trans (congrArg some (by kernel_rfl))
  f240 := Tryd.func66.trans (congrArg some (by kernel_rfl))
  f241 := Tryd.func67.trans (congrArg some (by kernel_rfl))
  f276 := Tryd.func81.trans (congrArg some (by kernel_rfl))
  f277 := Tryd.func82.trans (congrArg some (by kernel_rfl))
  t0 := Tryd.underlying0
  a0 := Tryd.isAgg0
  z0 := Tryd.sizeOf0
  v0 := Tryd.zeroValue0
  t3 := Tryd.underlying3
  a3 := Tryd.isAgg3
  z3 := Tryd.sizeOf3
  v3 := Tryd.zeroValue3
  t4 := Tryd.underlying4
  a4 := Tryd.isAgg4
  z4 := Tryd.sizeOf4
  v4 := Tryd.zeroValue4
  t9 := Tryd.underlying9
  a9 := Tryd.isAgg9
  z9 := Tryd.sizeOf9
  v9 := Tryd.zeroValue9
  t20 := Tryd.underlying20
  a20 := Tryd.isAgg20
  z20 := Tryd.sizeOf20
  v20 := Tryd.zeroValue20
  t31 := Tryd.underlying44
  a31 := Tryd.isAgg44
  z31 := Tryd.sizeOf44
  v31 := Tryd.zeroValue44
  t37 := Tryd.underlying82
  a37 := Tryd.isAgg82
  z37 := Tryd.sizeOf82
  v37 := Tryd.zeroValue82
  t70 := Tryd.underlying81
  a70 := Tryd.isAgg81
  z70 := Tryd.sizeOf81
  v70 := Tryd.zeroValue81
  t72 := Tryd.underlying84
  a72 := Tryd.isAgg84
  z72 := Tryd.sizeOf84
  v72 := Tryd.zeroValue84
  t75 := Tryd.underlying87
  a75 := Tryd.isAgg87
  z75 := Tryd.sizeOf87
  v75 := Tryd.zeroValue87
  t76 := Tryd.underlying88
  a76 := Tryd.isAgg88
  z76 := Tryd.sizeOf88
  v76 := Tryd.zeroValue88
  t127 := Tryd.underlying107
  a127 := Tryd.isAgg107
  z127 := Tryd.sizeOf107
  v127 := Tryd.zeroValue107
  t164 := Tryd.underlying116
  a164 := Tryd.isAgg116
  z164 := Tryd.sizeOf116
  v164 := Tryd.zeroValue116 }
theorem Tryd.Builder_Extra_156 : Builder.Extra Tryd.prog Tryd.lays156_ren := {
  sizeBuilder := by kernel_rfl
  liesBuilder := by kernel_rfl
  t5 := Tryd.underlying5
  a5 := Tryd.isAgg5
  z5 := Tryd.sizeOf5
  v5 := Tryd.zeroValue5
  infoByte := by kernel_rfl
  cellsByte := by kernel_rfl
  sizeByte := by kernel_rfl
  neB5 := by decide }
open Go.RowKit in
theorem Tryd.strings_Join_none (a : Option Addr) (c : Nat) (sep : ByteArray) (w : World) :
    Calls Tryd.prog 26 #[.slice a 0 c, .string sep] w fun e w' => e = .returned (.string ⟨#[]⟩) ∧ w' = w := Any.strings_Join_none Tryd.lays156 Tryd.Builder_Extra_156 a c sep w
open Go.RowKit in
theorem Tryd.strings_Join (bk o c : Nat) (xs : List ByteArray) (sep : ByteArray) (w : World) (hcells : ∀ (j : Nat) x, xs[j]? = some x → w.cell? ⟨bk, o + j, none⟩ = some (.string x)) (hbk : bk < w.heap.size) (hN : xs.length ≤ 140737488355328) (hcap : xs.length ≤ c) (hlen : (Lib.join (xs.map (·.data.toList)) sep.data.toList).length ≤ 140737488355328) :
    Calls Tryd.prog 26 #[.slice (some ⟨bk, o, none⟩) xs.length c, .string sep] w fun e w' => e = .returned (.string ⟨(Lib.join (xs.map (·.data.toList)) sep.data.toList).toArray⟩) ∧ Below w.heap.size w w' := Any.strings_Join Tryd.lays156 Tryd.Builder_Extra_156 bk o c xs sep w hcells hbk hN hcap hlen
def Tryd.lays217_ren : Go.Shelf.Ren := ⟨fun | 217 => 90 | 266 => 95 | n => n, fun | 9 => 9 | 5 => 5 | 3 => 3 | n => n, fun | n => n⟩
theorem Tryd.lays217 : Go.Proofs.Lays.n217 Tryd.prog Tryd.lays217_ren := {
  mixed := by kernel_rfl
  f217 := Tryd.func90.trans (congrArg some (by kernel_rfl))
  f266 := Tryd.func95.trans (congrArg some (by kernel_rfl))
  t3 := Tryd.underlying3
  a3 := Tryd.isAgg3
  z3 := Tryd.sizeOf3
  v3 := Tryd.zeroValue3
  t5 := Tryd.underlying5
  a5 := Tryd.isAgg5
  z5 := Tryd.sizeOf5
  v5 := Tryd.zeroValue5
  t9 := Tryd.underlying9
  a9 := Tryd.isAgg9
  z9 := Tryd.sizeOf9
  v9 := Tryd.zeroValue9 }
open Go.RowKit Go.Lib in
theorem Tryd.stringslite_IndexByte (s : ByteArray) (c : Int) (w : World) :
    Calls Tryd.prog 90 #[.string s, .int .u8 c] w fun e w' => e = .returned (.int .i64 (Lib.indexByte s.data.toList c.toNat.toUInt8)) ∧ w' = w := Any.stringslite_IndexByte Tryd.lays217 s c w
def Tryd.lays138_ren : Go.Shelf.Ren := ⟨fun | 138 => 59 | 195 => 74 | 218 => 75 | 143 => 60 | 219 => 76 | 217 => 90 | 225 => 89 | 224 => 88 | 267 => 91 | 266 => 95 | 314 => 96 | n => n, fun | 9 => 9 | 3 => 3 | 4 => 4 | 5 => 5 | 0 => 0 | 46 => 106 | 146 => 131 | 51 => 79 | n => n, fun | 1 => 2 | n => n⟩
theorem Tryd.lays138 : Go.Proofs.Lays.n138 Tryd.prog Tryd.lays138_ren := {
  mixed := by kernel_rfl
  f138 := Tryd.func59.trans (congrArg some (by kernel_rfl))
  f143 := Tryd.func60.trans (congrArg some (by kernel_rfl))
  f195 := Tryd.func74.trans (congrArg some (by kernel_rfl))
  f217 := Tryd.func90.trans (congrArg some (by kernel_rfl))
  f218 := Tryd.func75.trans (congrArg some (by kernel_rfl))
  f219 := Tryd.func76.trans (congrArg some (by kernel_rfl))
  f224 := Tryd.func88.trans (congrArg some (by kernel_rfl))
  f225 := Tryd.func89.trans (congrArg some (by kernel_rfl))
  f266 := Tryd.func95.trans (congrArg some (by kernel_rfl))
  f267 := Tryd.func91.trans (congrArg some (by kernel_rfl))
  f314 := Tryd.func96.trans (congrArg some (by kernel_rfl))
  t0 := Tryd.underlying0
  a0 := Tryd.isAgg0
  z0 := Tryd.sizeOf0
  v0 := Tryd.zeroValue0
  t3 := Tryd.underlying3
  a3 := Tryd.isAgg3
  z3 := Tryd.sizeOf3
  v3 := Tryd.zeroValue3
  t4 := Tryd.underlying4
  a4 := Tryd.isAgg4
  z4 := Tryd.sizeOf4
  v4 := Tryd.zeroValue4
  t5 := Tryd.underlying5
  a5 := Tryd.isAgg5
  z5 := Tryd.sizeOf5
  v5 := Tryd.zeroValue5
  t9 := Tryd.underlying9
  a9 := Tryd.isAgg9
  z9 := Tryd.sizeOf9
  v9 := Tryd.zeroValue9
  t46 := Tryd.underlying106
  a46 := Tryd.isAgg106
  z46 := Tryd.sizeOf106
  v46 := Tryd.zeroValue106
  t51 := Tryd.underlying79
  a51 := Tryd.isAgg79
  z51 := Tryd.sizeOf79
  v51 := Tryd.zeroValue79
  t146 := Tryd.underlying131
  a146 := Tryd.isAgg131
  z146 := Tryd.sizeOf131
  v146 := Tryd.zeroValue131
  g1 := by kernel_rfl }
open Go.RowKit Go.Lib in
theorem Tryd.strings_Count_one (s : ByteArray) (c : UInt8) (w : World) :
    Calls Tryd.prog 59 #[.string s, .string ⟨#[c]⟩] w fun e w' => e = .returned (.int .i64 (Lib.countByte s.data.toList c)) ∧ w' = w := Any.strings_Count_one Tryd.lays138 s c w
end Go.Proofs
namespace Go.Abs
theorem c2s (xs : List (List UInt8)) : (xs.map strU).flatMap AV.cells = xs.map strU := by
  induction xs with
  | nil => rfl
  | cons x xs ih => rw [List.map_cons, List.flatMap_cons, ih]; rfl
theorem c7g {w : World} {b o : Nat} {v : Value} (h : w.cell? ⟨b, o, none⟩ = some v) : b < w.heap.size := by
  simp only [World.cell?] at h
  cases hb : w.heap[b]? with
  | none => simp [hb] at h
  | some o => exact (Array.getElem?_eq_some_iff.1 hb).1
theorem b6C (xs : List (List UInt8)) (sep : List UInt8) (hN : xs.length ≤ 140737488355328) (hlen : (Lib.join xs sep).length ≤ 140737488355328) : a0c Pr a1f [.sl 1 (xs.map strU), strU sep] (strU (Lib.join xs sep)) := by
  refine a0c.ofBelow (fn := Go.Proofs.Tryd.f26) Go.Proofs.Tryd.func26 (by kernel_rfl) (by kernel_rfl) ?_
  intro E vs hok hl hrep
  match vs, hl with
  | [v0, v1], _ =>
  have h0 := hrep 0 v0 _ rfl rfl
  have h1 := a0U (hrep 1 v1 _ rfl rfl)
  subst h1
  have key : ∀ (base : Option Addr) (cap : Nat), xs.length ≤ cap → (xs = [] ∨ ∃ b o, base = some ⟨b, o, none⟩ ∧ ∀ (j : Nat) l, xs[j]? = some l → E.w.cell? ⟨b, o + j, none⟩ = some (.string ⟨l.toArray⟩)) →
      Calls Pr a1f [.slice base xs.length cap, .string ⟨sep.toArray⟩].toArray E.w fun e w' => (∃ v, e = .returned v ∧ ∀ E', Rep E' v (strU (Lib.join xs sep))) ∧ Go.RowKit.Below E.w.heap.size E.w w' := by
    intro base cap hcap hb
    rcases hb with rfl | ⟨b, o, rfl, hc⟩
    · refine (Go.Proofs.Tryd.strings_Join_none base cap ⟨sep.toArray⟩ E.w).mono ?_
      rintro e w' ⟨rfl, rfl⟩
      exact ⟨⟨_, rfl, fun _ => .str _⟩, Go.RowKit.Below.refl _ _⟩
    · by_cases hx : xs = []
      · subst hx
        refine (Go.Proofs.Tryd.strings_Join_none (some ⟨b, o, none⟩) cap ⟨sep.toArray⟩ E.w).mono ?_
        rintro e w' ⟨rfl, rfl⟩
        exact ⟨⟨_, rfl, fun _ => .str _⟩, Go.RowKit.Below.refl _ _⟩
      have hpos : 0 < xs.length := List.length_pos_iff.2 hx
      have hmm : (xs.map fun l => ByteArray.mk l.toArray).map (·.data.toList) = xs := by
        rw [List.map_map]
        conv => rhs; rw [← List.map_id xs]
        exact List.map_congr_left fun l _ => rfl
      have := Go.Proofs.Tryd.strings_Join b o cap (xs.map fun l => ByteArray.mk l.toArray) ⟨sep.toArray⟩ E.w (by
        intro j x hj
        rw [List.getElem?_map, Option.map_eq_some_iff] at hj
        obtain ⟨l, hl, rfl⟩ := hj
        exact hc j l hl) (c7g (hc 0 _ (List.getElem?_eq_getElem hpos))) (by rw [List.length_map]; exact hN) (by rw [List.length_map]; exact hcap) (by rw [hmm]; exact hlen)
      rw [List.length_map, hmm] at this
      refine this.mono ?_
      rintro e w' ⟨rfl, hbl⟩
      exact ⟨⟨_, rfl, fun _ => .str _⟩, hbl⟩
  generalize hx : xs.map strU = ys at h0
  cases h0 with
  | sl base cap wd _ vs' b o hcap hpos hw hcl hbase hlen2 hcell hrep2 =>
    subst hx
    rw [List.length_map] at hcap ⊢
    refine key base cap hcap ?_
    rcases hbase with h | ⟨h, _⟩
    · exact .inl (List.map_eq_nil_iff.1 h)
    · refine .inr ⟨b, o, h, fun j l hj => ?_⟩
      rw [c2s] at hlen2 hrep2
      have hjl := (List.getElem?_eq_some_iff.1 hj).1
      have hv : vs'[j]? = some (vs'[j]'(by rw [hlen2, List.length_map]; exact hjl)) := List.getElem?_eq_getElem _
      have hr := hrep2 j _ (strU l) hv (by rw [List.getElem?_map, hj]; rfl)
      have := (hcell j _ hv).1
      rw [a0U hr] at this
      exact this
  | dead _ _ i hr hd h1 => simp [AV.ref] at hr
theorem b9q (x : ZI) (hx : Zok 8796093022208 x) : a0c Pr a5n [x.av] (strU (decI x.z)) := by
  have hx' := hx.mono (show 8796093022208 ≤ 17592186044416 by omega)
  have hs := a8I x hx'
  have ht := b6b x.mag ⟨hx'.lim, hx'.len⟩ hx.len
  have hab : x.z.natAbs = val x.mag := by unfold ZI.z; rw [b7e]
  have hdl : (dec (val x.mag)).length ≤ 10 * x.mag.length + 1 := c2A (a8l hx.lim)
  have hxl := hx.len
  have hadd : binV .add (.str ⟨#[45]⟩) (strU (dec (val x.mag))) = some (strU (45 :: dec (val x.mag))) := c1p [45] _ (by simp only [List.length_cons, List.length_nil]; omega)
  by_cases hn : x.z < 0
  · have hd : decI x.z = 45 :: dec (val x.mag) := by rw [decI, if_pos hn, hab]
    rw [hd]
    obtain ⟨n, m⟩ := x
    simp only [ZI.av] at hs ht hadd ⊢
    refine a0c.intro a9C a9B (Nat.le_of_ble_eq_true rfl) (a0J _) fun H hH => ?_
    refine Safe.rg rfl ?_
    simp only [a5H, E3, seval]
    refine Safe.rg rfl ?_
    simp only [a5G, E3, seval]
    first | refine (hs).acall ?_ | refine (hs).dcall ?_ | refine (hs).dgcall ?_
    try simp only [E3, seval]
    refine Safe.cd rfl ?_
    simp only [c1g, hn, E3, seval]
    refine Safe.rg rfl ?_
    simp only [a9A, E3, seval]
    first | refine (ht).acall ?_ | refine (ht).dcall ?_ | refine (ht).dgcall ?_
    try simp only [E3, seval]
    simp only [hadd, E3, seval]
    refine Safe.rt rfl ?_
    simp only [E3, seval]
    first | exact ⟨rfl, _, rfl⟩ | exact ⟨_, rfl⟩ | exact ⟨trivial, _, rfl⟩
  · have hd : decI x.z = dec (val x.mag) := by rw [decI, if_neg hn, hab]
    rw [hd]
    obtain ⟨n, m⟩ := x
    simp only [ZI.av] at hs ht hadd ⊢
    refine a0c.intro a9C a9B (Nat.le_of_ble_eq_true rfl) (a0J _) fun H hH => ?_
    refine Safe.rg rfl ?_
    simp only [a5H, E3, seval]
    refine Safe.rg rfl ?_
    simp only [a5G, E3, seval]
    first | refine (hs).acall ?_ | refine (hs).dcall ?_ | refine (hs).dgcall ?_
    try simp only [E3, seval]
    refine Safe.cd rfl ?_
    simp only [c1g, hn, E3, seval]
    refine Safe.rg rfl ?_
    simp only [a9z, E3, seval]
    first | refine (ht).acall ?_ | refine (ht).dcall ?_ | refine (ht).dgcall ?_
    try simp only [E3, seval]
    refine Safe.rt rfl ?_
    simp only [E3, seval]
    first | exact ⟨rfl, _, rfl⟩ | exact ⟨_, rfl⟩ | exact ⟨trivial, _, rfl⟩
theorem c6S (g : FuncId) (caps : List AV) (v : List ZI) (f : Nat → List UInt8) (hv : v.length ≤ 2097152) (hc : ∀ c ∈ caps, Cl c) (hf : ∀ (i : Nat) (h : i < v.length), a0c Pr g (v[i].av :: caps) (strU (f i))) : a0c Pr a1D [vecV v, .fn g caps] (.sl 1 ((tx v.length f).map strU)) := by
  have hcl : ∀ id, caps.all (nref id) = true := fun id => List.all_eq_true.2 fun c h => a0V (hc c h)
  refine a0c.intro a7j a7h (Nat.le_of_ble_eq_true rfl) (c4J 1 strU _ a0J) fun H hH => ?_
  refine Safe.rg rfl ?_
  simp only [a3d, E3, seval]
  refine Safe.rg rfl ?_
  simp only [a3c, b1l _ _ 1 16 _ _ _ v.length (by decide) (by omega) (by omega), E3, seval]
  refine Safe.rg rfl ?_
  simp only [a3b, E3, seval]
  refine Safe.lp rfl ?_
  refine Safe.keep [1, 5, 11, 12, 13] ?_
  try simp only [E3, seval]
  refine Safe.loopN (v.length) (fun i => [(1, .fn g caps), (5, .mu (lid H 0) 0 i (some v.length)), (11, vecV v), (12, .int .i64 v.length), (13, .int .i64 i)]) (fun i => hap H [some ⟨1, (tx i f).map strU⟩]) rfl rfl (fun i hi ih => ?_) ?_
  · have hlt : (i : Int) < (v.length : Int) := by omega
    have hiw : IntKind.wrap .i64 ((i : Int) + 1) = ((i + 1 : Nat) : Int) := by rw [a0b] <;> omega
    refine Safe.inLoop ?_
    refine Safe.rg rfl ?_
    simp only [a1v, hlt, E3, seval]
    refine Safe.cd rfl ?_
    simp only [E3, seval]
    refine Safe.rg rfl ?_
    simp only [a3a, b1C _ v _ i (by omega), E3, seval]
    refine Safe.rg rfl ?_
    simp only [a2Z, E3, seval]
    first | refine (hf i hi).acall ?_ | refine (hf i hi).dcall ?_ | refine (hf i hi).dgcall ?_
    try simp only [E3, seval]
    simp only [ES, E3, seval]
    rw [b1u (H := H) 0 (a8y H 0) (f := strU) (tx i f) (f i) (tx (i + 1) f) (a4k _ _).symm rfl rfl (b1E _ _) (by omega)]
    simp only [hcl, E3, seval]
    refine Safe.rg rfl ?_
    simp only [a2Y, hiw, E3, seval]
    refine Safe.keep [1, 5, 11, 12, 13] ?_
    simp only [E3, seval]
    refine Safe.drop1 hH rfl (by simp only [List.all_cons, List.all_nil, hcl, E3, seval]) (RC.row a0J RC.nil) ?_
    exact ih
  · refine Safe.inLoop ?_
    refine Safe.rg rfl ?_
    simp only [a1v, Int.lt_irrefl, E3, seval]
    refine Safe.cd rfl ?_
    simp only [E3, seval]
    refine Safe.freeze 0 hH rfl rfl (a5m 1 strU _ a0J) ?_
    refine Safe.keep [5] ?_
    simp only [a5j 0 1 strU (tx v.length f) v.length (some v.length) (a4k _ _).symm, E3, seval]
    refine Safe.rg rfl ?_
    simp only [a2X, E3, seval]
    refine Safe.rt rfl ?_
    simp only [E3, seval]
    first | exact ⟨rfl, _, rfl⟩ | exact ⟨_, rfl⟩ | exact ⟨trivial, _, rfl⟩
theorem c6R (g : FuncId) (caps : List AV) (v : List (List ZI)) (f : Nat → List UInt8) (hv : v.length ≤ 2097152) (hc : ∀ c ∈ caps, Cl c) (hf : ∀ (i : Nat) (h : i < v.length), a0c Pr g (vecV v[i] :: caps) (strU (f i))) : a0c Pr a1C [matV v, .fn g caps] (.sl 1 ((tx v.length f).map strU)) := by
  have hcl : ∀ id, caps.all (nref id) = true := fun id => List.all_eq_true.2 fun c h => a0V (hc c h)
  refine a0c.intro a7g a7e (Nat.le_of_ble_eq_true rfl) (c4J 1 strU _ a0J) fun H hH => ?_
  refine Safe.rg rfl ?_
  simp only [a2W, E3, seval]
  refine Safe.rg rfl ?_
  simp only [a2V, b1l _ _ 1 16 _ _ _ v.length (by decide) (by omega) (by omega), E3, seval]
  refine Safe.rg rfl ?_
  simp only [a2U, E3, seval]
  refine Safe.lp rfl ?_
  refine Safe.keep [1, 5, 11, 12, 13] ?_
  try simp only [E3, seval]
  refine Safe.loopN (v.length) (fun i => [(1, .fn g caps), (5, .mu (lid H 0) 0 i (some v.length)), (11, matV v), (12, .int .i64 v.length), (13, .int .i64 i)]) (fun i => hap H [some ⟨1, (tx i f).map strU⟩]) rfl rfl (fun i hi ih => ?_) ?_
  · have hlt : (i : Int) < (v.length : Int) := by omega
    have hiw : IntKind.wrap .i64 ((i : Int) + 1) = ((i + 1 : Nat) : Int) := by rw [a0b] <;> omega
    refine Safe.inLoop ?_
    refine Safe.rg rfl ?_
    simp only [a1u, hlt, E3, seval]
    refine Safe.cd rfl ?_
    simp only [E3, seval]
    refine Safe.rg rfl ?_
    simp only [a2T, a4Z _ v _ i (by omega), E3, seval]
    refine Safe.rg rfl ?_
    simp only [a2S, E3, seval]
    first | refine (hf i hi).acall ?_ | refine (hf i hi).dcall ?_ | refine (hf i hi).dgcall ?_
    try simp only [E3, seval]
    simp only [ES, E3, seval]
    rw [b1u (H := H) 0 (a8y H 0) (f := strU) (tx i f) (f i) (tx (i + 1) f) (a4k _ _).symm rfl rfl (b1E _ _) (by omega)]
    simp only [hcl, E3, seval]
    refine Safe.rg rfl ?_
    simp only [a2R, hiw, E3, seval]
    refine Safe.keep [1, 5, 11, 12, 13] ?_
    simp only [E3, seval]
    exact ih
  · refine Safe.inLoop ?_
    refine Safe.rg rfl ?_
    simp only [a1u, Int.lt_irrefl, E3, seval]
    refine Safe.cd rfl ?_
    simp only [E3, seval]
    refine Safe.freeze 0 hH rfl rfl (a5m 1 strU _ a0J) ?_
    refine Safe.keep [5] ?_
    simp only [a5j 0 1 strU (tx v.length f) v.length (some v.length) (a4k _ _).symm, E3, seval]
    refine Safe.rg rfl ?_
    simp only [a2Q, E3, seval]
    refine Safe.rt rfl ?_
    simp only [E3, seval]
    first | exact ⟨rfl, _, rfl⟩ | exact ⟨_, rfl⟩ | exact ⟨trivial, _, rfl⟩
theorem c0V (v : List ZI) (hv : Vok 8796093022208 v) (hs : (txV v).length ≤ 70368744177664) : a0c Pr a1z [vecV v] (strU (txV v)) := by
  have hvl := hv.len
  have he := c6S a5n [] v (fun i => decI (zg v i)) hv.len (by simp) fun i h => by
    have := b9q v[i] (hv.get h)
    rwa [← b9u h] at this
  have hj : a0c Pr a1f [.sl 1 ((tx v.length fun i => decI (zg v i)).map strU), .str ⟨#[32]⟩] (strU (txV v)) := b6C _ [32] (by rw [a4k]; omega) (Nat.le_trans hs (by decide))
  refine a0c.intro a9e a9d (Nat.le_of_ble_eq_true rfl) (a0J _) fun H hH => ?_
  refine Safe.rg rfl ?_
  simp only [a4t, E3, seval]
  refine Safe.rg rfl ?_
  simp only [a4s, E3, seval]
  first | refine (he).acall ?_ | refine (he).dcall ?_ | refine (he).dgcall ?_
  try simp only [E3, seval]
  first | refine (hj).acall ?_ | refine (hj).dcall ?_ | refine (hj).dgcall ?_
  try simp only [E3, seval]
  refine Safe.rt rfl ?_
  simp only [E3, seval]
  first | exact ⟨rfl, _, rfl⟩ | exact ⟨_, rfl⟩ | exact ⟨trivial, _, rfl⟩
theorem b5Q (b : List (List ZI)) (hb : Mok 8796093022208 b) (hs : (txM b).length ≤ 70368744177664) (hv : ∀ i, i < b.length → (txV (mg b i)).length ≤ 70368744177664) : a0c Pr a3j [matV b] (strU (txM b)) := by
  have hvl := hb.len
  have he := c6R a1z [] b (fun i => txV (mg b i)) hb.len (by simp) fun i h => by
    have hvi := hv i h
    rw [b6g h] at hvi ⊢
    exact c0V b[i] (hb.get h) hvi
  have hj : a0c Pr a1f [.sl 1 ((tx b.length fun i => txV (mg b i)).map strU), .str ⟨#[59, 32]⟩] (strU (txM b)) := b6C _ [59, 32] (by rw [a4k]; omega) (Nat.le_trans hs (by decide))
  refine a0c.intro b7H b7G (Nat.le_of_ble_eq_true rfl) (a0J _) fun H hH => ?_
  refine Safe.rg rfl ?_
  simp only [b2O, E3, seval]
  refine Safe.rg rfl ?_
  simp only [b2N, E3, seval]
  first | refine (he).acall ?_ | refine (he).dcall ?_ | refine (he).dgcall ?_
  try simp only [E3, seval]
  first | refine (hj).acall ?_ | refine (hj).dcall ?_ | refine (hj).dgcall ?_
  try simp only [E3, seval]
  refine Safe.rt rfl ?_
  simp only [E3, seval]
  first | exact ⟨rfl, _, rfl⟩ | exact ⟨_, rfl⟩ | exact ⟨trivial, _, rfl⟩
def sumL (v : List ZI) : Nat := (v.map fun z => z.mag.length).sum
structure TotV (v : List ZI) : Prop where
  len : v.length ≤ 1048576
  sum : sumL v ≤ 1048576
structure TotM (b : List (List ZI)) : Prop where
  len : b.length ≤ 1048576
  cells : (b.map fun v => v.length).sum ≤ 1048576
  sum : (b.map sumL).sum ≤ 1048576
theorem c5l {α : Type} (l : List α) (g : Nat → List UInt8) (W : List UInt8 → Nat) (B : α → Nat) (h : ∀ i (hi : i < l.length), W (g i) ≤ B l[i]) : ((tx l.length g).map W).sum ≤ (l.map B).sum := by
  suffices ∀ n, n ≤ l.length → ((tx n g).map W).sum ≤ ((l.take n).map B).sum by
    have := this l.length (Nat.le_refl _)
    rwa [List.take_length] at this
  intro n
  induction n with
  | zero => intro _; simp [tx]
  | succ n ih =>
    intro hn
    rw [b1E, List.take_succ_eq_append_getElem (by omega)]
    simp only [List.map_append, List.sum_append, List.map_cons, List.map_nil, List.sum_cons, List.sum_nil]
    have := ih (by omega)
    have := h n (by omega)
    omega
theorem c5J (v : List ZI) : (v.map fun z => 10 * z.mag.length + 3).sum = 10 * sumL v + 3 * v.length := by
  induction v with
  | nil => rfl
  | cons z v ih => simp only [List.map_cons, List.sum_cons, ih, sumL, List.length_cons]; simp only [sumL] at ih; omega
theorem b4S {k : Nat} (v : List ZI) (hv : Vok k v) : (txV v).length ≤ 10 * sumL v + 3 * v.length := by
  rw [← c5J]
  refine Nat.le_trans (b5l _ _ _) (c5l v _ _ _ fun i hi => ?_)
  have h := c4F (k := v[i].mag.length) (z := v[i].z) (by unfold ZI.z; rw [b7e]; exact a8l (hv.get hi).lim)
  rw [b9u hi]
  simp only [List.length_cons, List.length_nil]
  omega
theorem c3l (b : List (List ZI)) : (b.map fun v => 10 * sumL v + 3 * v.length + 2).sum = 10 * (b.map sumL).sum + 3 * (b.map fun v => v.length).sum + 2 * b.length := by
  induction b with
  | nil => rfl
  | cons z v ih => simp only [List.map_cons, List.sum_cons, ih, List.length_cons]; omega
theorem c5F {k : Nat} (b : List (List ZI)) (hb : Mok k b) : (txM b).length ≤ 10 * (b.map sumL).sum + 3 * (b.map fun v => v.length).sum + 2 * b.length := by
  rw [← c3l]
  refine Nat.le_trans (b5l _ _ _) (c5l b _ _ _ fun i hi => ?_)
  have := b4S b[i] (hb.get hi)
  rw [b6g hi]
  simp only [List.length_cons, List.length_nil]
  omega
theorem a9b {α : Type} (f : α → Nat) : ∀ {l : List α} {x : α}, x ∈ l → f x ≤ (l.map f).sum
  | a :: l, x, h => by
    rcases List.mem_cons.1 h with e | e
    · subst e; simp
    · have := a9b f e
      simp only [List.map_cons, List.sum_cons]; omega
theorem TotM.row {b : List (List ZI)} (h : TotM b) {i : Nat} (hi : i < b.length) : sumL (mg b i) ≤ 1048576 ∧ (mg b i).length ≤ 1048576 := by
  rw [b6g hi]
  exact ⟨Nat.le_trans (a9b sumL (List.getElem_mem hi)) h.sum, Nat.le_trans (a9b (fun v : List ZI => v.length) (List.getElem_mem hi)) h.cells⟩
theorem TotM.txt {b : List (List ZI)} {k : Nat} (h : TotM b) (hb : Mok k b) : (txM b).length ≤ 70368744177664 := by
  have := c5F b hb
  have := h.len; have := h.cells; have := h.sum
  omega
theorem TotM.txr {b : List (List ZI)} {k : Nat} (h : TotM b) (hb : Mok k b) (i : Nat) (hi : i < b.length) : (txV (mg b i)).length ≤ 70368744177664 := by
  have := b4S (mg b i) (hb.row i)
  have := h.row hi
  omega
theorem TotV.txt {v : List ZI} {k : Nat} (h : TotV v) (hv : Vok k v) : (txV v).length ≤ 70368744177664 := by
  have := b4S v hv
  have := h.len; have := h.sum
  omega
theorem c4C : digs 1 = [49] := by rw [a5l (by decide)]; rw [show 1 / 10 = 0 by decide, a3A]; rfl
theorem b4J : txM (b1D 2) = [49, 32, 48, 59, 32, 48, 32, 49] := by
  have h0 : decI 0 = [48] := rfl
  have h1 : decI 1 = [49] := by
    show (if (1 : Nat) = 0 then [48] else (digs 1).reverse) = _
    rw [if_neg (by decide), c4C]; rfl
  have e : b1D 2 = [[canZ 1, canZ 0], [canZ 0, canZ 1]] := rfl
  rw [e]
  simp only [txM, txV, tx, List.length_cons, List.length_nil, List.range_succ, List.range_zero, List.map_append, List.map_cons, List.map_nil, List.nil_append, mg, zg, List.getD_cons_zero, List.getD_cons_succ, Nat.zero_add, c5s, h0, h1, List.cons_append]
  rfl
theorem a9o : a0c Pr a5r [] (.bool true) := by
  have hu := c3X 2 (by decide)
  have ht := b5Q (b1D 2) (hu.mono (by decide)) (by rw [b4J]; decide) (fun i hi => by
    have h2 : i < 2 := by simpa [b1D, a0C] using hi
    have hl := b4S (mg (b1D 2) i) (hu.row i)
    have h1 : (mg (b1D 2) i).length = 2 := by rw [b1D, c7T h2, a0r]
    have h3 : sumL (mg (b1D 2) i) ≤ (mg (b1D 2) i).length := by
      have : ∀ v : List ZI, (∀ z ∈ v, z.mag.length ≤ 1) → sumL v ≤ v.length := by
        intro v
        induction v with
        | nil => intro _; exact Nat.le_refl _
        | cons z v ih =>
          intro h
          have a1 := h z (by simp)
          have a2 := ih fun y hy => h y (by simp [hy])
          simp only [sumL, List.map_cons, List.sum_cons, List.length_cons] at a2 ⊢
          omega
      exact this _ fun z hz => ((hu.row i).el z hz).len
    omega)
  rw [b4J] at ht
  have heq : binV .eql (strU [49, 32, 48, 59, 32, 48, 32, 49]) (.str ⟨#[49, 32, 48, 59, 32, 48, 32, 49]⟩) = some (.bool true) := by
    have := a1X [49, 32, 48, 59, 32, 48, 32, 49] [49, 32, 48, 59, 32, 48, 32, 49]
    rw [beq_self_eq_true] at this
    exact this
  refine a0c.intro b3N b3M (Nat.le_of_ble_eq_true rfl) (.bool _) fun H hH => ?_
  refine Safe.rg rfl ?_
  simp only [a7p, E3, Nat.reduceLeDiff, Nat.reduceSub, Nat.reduceAdd, Nat.reduceEqDiff, reduceCtorEq, ↓reduceIte]
  refine Safe.rg rfl ?_
  simp only [a7o, E3, Nat.reduceLeDiff, Nat.reduceSub, Nat.reduceAdd, Nat.reduceEqDiff, reduceCtorEq, ↓reduceIte]
  first | refine (b5b 2 (by decide)).acall ?_ | refine (b5b 2 (by decide)).dcall ?_ | refine (b5b 2 (by decide)).dgcall ?_
  try simp only [E3, Nat.reduceLeDiff, Nat.reduceSub, Nat.reduceAdd, Nat.reduceEqDiff, reduceCtorEq, ↓reduceIte]
  refine Safe.rg rfl ?_
  simp only [a7n, E3, Nat.reduceLeDiff, Nat.reduceSub, Nat.reduceAdd, Nat.reduceEqDiff, reduceCtorEq, ↓reduceIte]
  first | refine (ht).acall ?_ | refine (ht).dcall ?_ | refine (ht).dgcall ?_
  try simp only [E3, Nat.reduceLeDiff, Nat.reduceSub, Nat.reduceAdd, Nat.reduceEqDiff, reduceCtorEq, ↓reduceIte]
  simp only [heq, E3, Nat.reduceLeDiff, Nat.reduceSub, Nat.reduceAdd, Nat.reduceEqDiff, reduceCtorEq, ↓reduceIte]
  refine Safe.rt rfl ?_
  simp only [E3, Nat.reduceLeDiff, Nat.reduceSub, Nat.reduceAdd, Nat.reduceEqDiff, reduceCtorEq, ↓reduceIte]
  first | exact ⟨rfl, _, rfl⟩ | exact ⟨_, rfl⟩ | exact ⟨trivial, _, rfl⟩
end Go.Abs
namespace Go.Abs
def decV (l : List UInt8) : Nat := l.foldl (fun a c => 10 * a + (c.toNat - 48)) 0
theorem b8Y : decV [] = 0 := rfl
theorem b6J (l : List UInt8) (c : UInt8) : decV (l ++ [c]) = 10 * decV l + (c.toNat - 48) := by simp [decV]
theorem b3x : ∀ (b : List UInt8) (a : Nat), b.foldl (fun a c => 10 * a + (c.toNat - 48)) a = a * 10 ^ b.length + decV b
  | [], a => by simp [b8Y]
  | c :: b, a => by
    unfold decV
    rw [List.foldl_cons, List.foldl_cons, b3x b, b3x b (10 * 0 + (c.toNat - 48)), List.length_cons, Nat.pow_succ, Nat.add_mul, Nat.mul_zero, Nat.zero_add, Nat.add_assoc]
    congr 1
    rw [Nat.mul_comm 10 a, Nat.mul_assoc, Nat.mul_comm 10]
theorem b8Z (a b : List UInt8) : decV (a ++ b) = decV a * 10 ^ b.length + decV b := by
  show (a ++ b).foldl _ 0 = _
  rw [List.foldl_append, b3x]
  rfl
theorem c2B (c : UInt8) (l : List UInt8) : decV (c :: l) = (c.toNat - 48) * 10 ^ l.length + decV l := by
  have := b8Z [c] l
  simpa [decV] using this
def isDg (c : UInt8) : Prop := 48 ≤ c.toNat ∧ c.toNat ≤ 57
theorem c7h (d : Nat) (h : d < 10) : isDg (cdig d) := by unfold isDg; rw [b5v h]; omega
theorem c6Y : ∀ n, ∀ c ∈ digs n, isDg c := by
  intro n
  induction n using Nat.strongRecOn with
  | _ n ih =>
    by_cases h : n = 0
    · rw [h, a3A]; intro c hc; cases hc
    · rw [a5l h]
      intro c hc
      rcases List.mem_cons.1 hc with rfl | hc
      · exact c7h _ (Nat.mod_lt _ (by decide))
      · exact ih (n / 10) (by omega) c hc
theorem c4B : ∀ n, decV (digs n).reverse = n := by
  intro n
  induction n using Nat.strongRecOn with
  | _ n ih =>
    by_cases h : n = 0
    · rw [h, a3A]; rfl
    · rw [a5l h, List.reverse_cons, b6J, ih (n / 10) (by omega), b5v (Nat.mod_lt _ (by decide))]
      omega
theorem c2y : ∀ n, n ≠ 0 → ∃ c l, (digs n).reverse = c :: l ∧ c.toNat ≠ 48 := by
  intro n
  induction n using Nat.strongRecOn with
  | _ n ih =>
    intro h
    rw [a5l h, List.reverse_cons]
    by_cases h1 : n / 10 = 0
    · refine ⟨cdig (n % 10), [], by rw [h1, a3A]; rfl, ?_⟩
      rw [b5v (Nat.mod_lt _ (by decide))]
      omega
    · obtain ⟨c, l, e, hc⟩ := ih (n / 10) (by omega) h1
      exact ⟨c, l ++ [cdig (n % 10)], by rw [e]; rfl, hc⟩
/-- The digits of a number, aXs they are written. -/
structure Dgs (D : List UInt8) (n : Nat) : Prop where
  pos : 0 < D.length
  dg : ∀ c ∈ D, isDg c
  head : (1 < D.length ∨ n ≠ 0) → (D.getD 0 0).toNat ≠ 48
  val : decV D = n
theorem b8o (n : Nat) : Dgs (dec n) n := by
  unfold dec
  by_cases h : n = 0
  · rw [if_pos h]
    subst h
    exact ⟨by decide, fun c hc => by simp at hc; subst hc; exact ⟨by decide, by decide⟩, fun h => by simp at h, by decide⟩
  · rw [if_neg h]
    obtain ⟨c, l, e, hc⟩ := c2y n h
    refine ⟨by rw [e]; simp, fun c hc => c6Y n c (List.mem_reverse.1 hc), fun _ => by rw [e]; simpa using hc, c4B n⟩
theorem b3w : ∀ {l : List UInt8}, (∀ c ∈ l, isDg c) → decV l < 10 ^ l.length
  | [], _ => by decide
  | c :: l, h => by
    have h1 := b3w fun d hd => h d (List.mem_cons_of_mem _ hd)
    have h2 := h c (by simp)
    unfold isDg at h2
    rw [c2B, List.length_cons, Nat.pow_succ]
    have h3 : (c.toNat - 48) * 10 ^ l.length ≤ 9 * 10 ^ l.length := Nat.mul_le_mul_right _ (by omega)
    omega
theorem b4U {α : Type} (l : List α) (k n : Nat) : l.take (k + n) = l.take k ++ (l.drop k).take n := List.take_add
theorem b8i {D : List UInt8} (h : ∀ c ∈ D, isDg c) {i : Nat} (hi : i < D.length) : isDg (D.getD i 0) := by
  rw [List.getD_eq_getElem?_getD, List.getElem?_eq_getElem hi]
  exact h _ (List.getElem_mem _)
theorem b1q (P D : List UInt8) (j : Nat) : (P ++ D).getD (P.length + j) 0 = D.getD j 0 := by
  rw [List.getD_eq_getElem?_getD, List.getD_eq_getElem?_getD, List.getElem?_append_right (by omega), Nat.add_sub_cancel_left]
theorem b3H {D : List UInt8} {k j : Nat} (h : k + j < D.length) : (D.drop k).take (j + 1) = (D.drop k).take j ++ [D.getD (k + j) 0] := by
  rw [List.take_succ_eq_append_getElem (by rw [List.length_drop]; omega), List.getElem_drop, List.getD_eq_getElem?_getD, List.getElem?_eq_getElem h]
  rfl
theorem a8A (l : List UInt8) (k : IntKind) {i : Nat} (h : i < l.length) : idxS (strU l) (.int k i) = some (.int .u8 ((l.getD i 0).toNat : Int)) := by
  unfold strU
  rw [b8U, if_pos ⟨by omega, by rw [a3s]; omega⟩]
  simp
theorem a0f (l : List UInt8) : lenS (strU l) = some (.int .i64 l.length) := by
  unfold strU; rw [b8R, a3s]
/-- A number's sign and its digits. -/
def sgT (z : Int) : List UInt8 := if z < 0 then [45] else []
theorem b8p (z : Int) : decI z = sgT z ++ dec z.natAbs := by
  unfold decI sgT; split <;> rfl
end Go.Abs
namespace Go.Abs
theorem c0Q (x : Nat) : val [x] = x := by simp [val]
theorem c1t (k : Nat) : 10 ^ k ≤ LB ^ k := Nat.pow_le_pow_left (by decide) k
theorem b3j {M k : Nat} (h : M < 10 ^ k) (hk : k ≤ 65536) : Nt (limbs M) := ⟨a1Y _, Nat.le_trans (a1I (Nat.lt_of_lt_of_le h (c1t k))) (by omega)⟩
theorem b1B {n : Nat} (h : n < 4294967296) : IntKind.wrap .u32 (n : Int) = (n : Int) := a4K (Int.natCast_nonneg _) (by omega)
theorem c3d {n : Nat} (h : n < 256) : IntKind.wrap .u8 (n : Int) = (n : Int) := by
  unfold IntKind.wrap
  simp [IntKind.signed, IntKind.bits]
  omega
noncomputable def zrCx (H : Heap) : Cx := ⟨Pr, fun _ _ => false, a5o, 109, [.cell 2 (some 2), .tmp 3, .tmp 4], H.length⟩
def b8z : ACode := .seq (.seq (.region a4H false) (.cond (.t 70) (.seq (.region a8g false) (.ret)) (.skip))) (.seq (.region a4G false) (.seq (.seq (.region a4F false) (.block 2 (.loop a9L))) (.seq (.region a4C false) (.ret))))
theorem b3R {P D : List UInt8} {m : Nat} (hD : Dgs D m) (hP : P.length ≤ 1) (hlen : (P ++ D).length ≤ 65536) {H : Heap} (hH : a0N H) : Safe (zrCx H) [.code (.region a5J false), .code (.block 0 (.loop a9M)), .code b8z]
    [(0, strU (P ++ D)), (2, .loc (lid H 0) 0 0), (5, .int .i64 P.length)] (hap H [some ⟨2, [.agg [.bool false, .nil]]⟩]) fun r' H' => r' = .tup [Z (sgn (decide (P.length = 1)) m), .int .i64 0, .int .i64 0] ∧ ∃ L, H' = hap H L := by
  have hl : (P ++ D).length = P.length + D.length := List.length_append
  have hDp := hD.pos
  have hix : ∀ i, i < D.length → idxS (strU (P ++ D)) (.int .i64 ((P.length + i : Nat) : Int)) = some (.int .u8 ((D.getD i 0).toNat : Int)) := fun i hi => by
    rw [a8A _ _ (by omega), b1q]
  unfold b8z zrCx
  refine Safe.rg rfl ?_
  simp only [a5J, E3, seval]
  refine Safe.lp rfl ?_
  refine Safe.keep [0, 2, 5, 6] ?_
  simp only [E3, seval]
  refine Safe.loopN D.length (fun i => [(0, strU (P ++ D)), (2, .loc (lid H 0) 0 0), (5, .int .i64 P.length), (6, .int .i64 ((P.length + i : Nat) : Int))]) (fun _ => hap H [some ⟨2, [.agg [.bool false, .nil]]⟩]) rfl rfl (fun i hi ih => ?_) ?_
  · have hlt : (((P.length + i : Nat) : Int) < ((P ++ D).length : Int)) = True := eq_true (by omega)
    have hdg := b8i hD.dg hi
    unfold isDg at hdg
    have h48 : (((D.getD i 0).toNat : Int) < 48) = False := eq_false (by omega)
    have h57 : (((D.getD i 0).toNat : Int) > 57) = False := eq_false (by omega)
    have hw1 : IntKind.wrap .i64 ((P.length : Int) + 1) = ((P.length + 1 : Nat) : Int) := by rw [a0b] <;> omega
    have hiw : IntKind.wrap .i64 (((P.length + i : Nat) : Int) + 1) = ((P.length + (i + 1) : Nat) : Int) := by rw [a0b] <;> omega
    refine Safe.inLoop ?_
    refine Safe.rg rfl ?_
    simp only [a5I, a0f, hlt, E3, seval]
    refine Safe.cd rfl ?_
    simp only [E3, seval]
    by_cases h1 : i = 1
    · subst h1
      have h0 := hix 0 hDp
      rw [Nat.add_zero] at h0
      have hh := hD.head (.inl (by omega))
      have h00 : (((D.getD 0 0).toNat : Int) = 48) = False := eq_false (by omega)
      refine Safe.rg rfl ?_
      simp only [a4J, hix 1 hi, h48, h57, hw1, h0, h00, E3, seval]
      refine Safe.cd rfl ?_
      simp only [E3, seval]
      refine Safe.rg rfl ?_
      simp only [a4I, hiw, E3, seval]
      refine Safe.keep [0, 2, 5, 6] ?_
      simp only [E3, seval]
      exact ih
    · have h11 : (((P.length + i : Nat) : Int) = ((P.length + 1 : Nat) : Int)) = False := eq_false (by omega)
      refine Safe.rg rfl ?_
      simp only [a4J, hix i hi, h48, h57, hw1, h11, E3, seval]
      refine Safe.cd rfl ?_
      simp only [E3, seval]
      refine Safe.rg rfl ?_
      simp only [a4I, hiw, E3, seval]
      refine Safe.keep [0, 2, 5, 6] ?_
      simp only [E3, seval]
      exact ih
  · refine Safe.inLoop ?_
    have hlt : (((P.length + D.length : Nat) : Int) < ((P ++ D).length : Int)) = False := eq_false (by omega)
    refine Safe.rg rfl ?_
    simp only [a5I, a0f, hlt, E3, seval]
    refine Safe.cd rfl ?_
    simp only [E3, seval]
    have hne : ((P.length : Int) = ((P ++ D).length : Int)) = False := eq_false (by omega)
    refine Safe.rg rfl ?_
    simp only [a4H, a0f, hne, E3, seval]
    refine Safe.cd rfl ?_
    simp only [E3, seval]
    refine Safe.rg rfl ?_
    simp only [a4G, E3, seval]
    refine Safe.nilsl 7 1 (by decide) (by simp only [E3, seval]) ?_
    refine Safe.rg rfl ?_
    simp only [a4F, E3, seval]
    refine Safe.lp rfl ?_
    refine Safe.keep [0, 2, 5, 7, 8] ?_
    simp only [E3, seval]
    refine Safe.loopW (fun k : Nat => D.length - k) (fun k => [(0, strU (P ++ D)), (2, .loc (lid H 0) 0 0), (5, .int .i64 P.length), (7, natV (limbs (decV (D.take k)))), (8, .int .i64 ((P.length + k : Nat) : Int))]) (fun _ => hap H [some ⟨2, [.agg [.bool false, .nil]]⟩])
      (fun k => k ≤ D.length) 0 (by rw [List.take_zero, b8Y, a0v]; rfl) rfl (Nat.zero_le _) ?_
    intro k hk ih
    refine Safe.inLoop ?_
    by_cases hkd : k < D.length
    · have hlt : (((P.length + k : Nat) : Int) < ((P ++ D).length : Int)) = True := eq_true (by omega)
      have hsub : IntKind.wrap .i64 (((P ++ D).length : Int) - ((P.length + k : Nat) : Int)) = ((D.length - k : Nat) : Int) := by rw [a0b] <;> omega
      have hmn : (if ((D.length - k : Nat) : Int) < 9 then ((D.length - k : Nat) : Int) else 9) = ((min 9 (D.length - k) : Nat) : Int) := by split <;> omega
      have hn9 : min 9 (D.length - k) ≤ 9 := Nat.min_le_left _ _
      have hnk : k + min 9 (D.length - k) ≤ D.length := by omega
      have hn0 : 0 < min 9 (D.length - k) := by omega
      refine Safe.rg rfl ?_
      simp only [a4E, a0f, hlt, E3, seval]
      refine Safe.cd rfl ?_
      simp only [E3, seval]
      refine Safe.rg rfl ?_
      simp only [a8f, a0f, hsub, hmn, E3, seval]
      generalize min 9 (D.length - k) = n at *
      refine Safe.rg rfl ?_
      simp only [a8e, E3, seval]
      refine Safe.rg rfl ?_
      simp only [a8d, E3, seval]
      refine Safe.lp rfl ?_
      refine Safe.keep [0, 2, 5, 7, 8, 9, 10, 83, 84] ?_
      simp only [E3, seval]
      refine Safe.loopN n (fun j => [(0, strU (P ++ D)), (2, .loc (lid H 0) 0 0), (5, .int .i64 P.length), (7, natV (limbs (decV (D.take k)))), (8, .int .i64 ((P.length + (k + j) : Nat) : Int)), (9, .int .i64 n), (10, .int .u32 (decV ((D.drop k).take j) : Nat)), (83, .int .i64 n), (84, .int .i64 j)]) (fun _ => hap H [some ⟨2, [.agg [.bool false, .nil]]⟩]) rfl rfl (fun j hj ih2 => ?_) ?_
      · have hltj : ((j : Int) < (n : Int)) = True := eq_true (by omega)
        have hdg := b8i hD.dg (i := k + j) (by omega)
        unfold isDg at hdg
        have hv : decV ((D.drop k).take j) < 10 ^ j := by
          have := b3w (l := (D.drop k).take j) fun c hc => hD.dg c (List.mem_of_mem_drop (List.mem_of_mem_take hc))
          rwa [List.length_take, List.length_drop, Nat.min_eq_left (by omega)] at this
        have hp : 10 ^ j ≤ 10 ^ 8 := Nat.pow_le_pow_right (by decide) (by omega)
        have hw10 : IntKind.wrap .u32 (10 * (decV ((D.drop k).take j) : Int)) = ((10 * decV ((D.drop k).take j) : Nat) : Int) := by
          rw [show (10 * (decV ((D.drop k).take j) : Int)) = ((10 * decV ((D.drop k).take j) : Nat) : Int) by omega]
          exact b1B (by omega)
        have hw8 : IntKind.wrap .u8 (((D.getD (k + j) 0).toNat : Int) - 48) = (((D.getD (k + j) 0).toNat - 48 : Nat) : Int) := by
          rw [show (((D.getD (k + j) 0).toNat : Int) - 48) = (((D.getD (k + j) 0).toNat - 48 : Nat) : Int) by omega]
          exact c3d (by omega)
        have hwc : IntKind.wrap .u32 (((D.getD (k + j) 0).toNat - 48 : Nat) : Int) = (((D.getD (k + j) 0).toNat - 48 : Nat) : Int) := b1B (by omega)
        have hwa : IntKind.wrap .u32 (((10 * decV ((D.drop k).take j) : Nat) : Int) + (((D.getD (k + j) 0).toNat - 48 : Nat) : Int)) = (decV ((D.drop k).take (j + 1)) : Nat) := by
          rw [b3H (by omega), b6J, ← Int.natCast_add]
          exact b1B (by omega)
        have hjw : IntKind.wrap .i64 ((j : Int) + 1) = ((j + 1 : Nat) : Int) := by rw [a0b] <;> omega
        have hiw : IntKind.wrap .i64 (((P.length + (k + j) : Nat) : Int) + 1) = ((P.length + (k + (j + 1)) : Nat) : Int) := by rw [a0b] <;> omega
        refine Safe.inLoop ?_
        refine Safe.rg rfl ?_
        simp only [a4D, hltj, E3, seval]
        refine Safe.cd rfl ?_
        simp only [E3, seval]
        refine Safe.rg rfl ?_
        simp only [a8c, hix (k + j) (by omega), hw10, hw8, hwc, hwa, E3, seval]
        refine Safe.rg rfl ?_
        simp only [a8b, hiw, E3, seval]
        refine Safe.rg rfl ?_
        simp only [a8a, hjw, E3, seval]
        refine Safe.keep [0, 2, 5, 7, 8, 9, 10, 83, 84] ?_
        simp only [E3, seval]
        exact ih2
      · refine Safe.inLoop ?_
        refine Safe.rg rfl ?_
        simp only [a4D, Int.lt_irrefl, E3, seval]
        refine Safe.cd rfl ?_
        simp only [E3, seval]
        have hM : decV (D.take k) < 10 ^ k := by
          have := b3w (l := D.take k) fun c hc => hD.dg c (List.mem_of_mem_take hc)
          rwa [List.length_take, Nat.min_eq_left (by omega)] at this
        have hv : decV ((D.drop k).take n) < 10 ^ n := by
          have := b3w (l := (D.drop k).take n) fun c hc => hD.dg c (List.mem_of_mem_drop (List.mem_of_mem_take hc))
          rwa [List.length_take, List.length_drop, Nat.min_eq_left (by omega)] at this
        have hp9 : 10 ^ n ≤ 10 ^ 9 := Nat.pow_le_pow_right (by decide) hn9
        have hLB : LB = 4294967296 := rfl
        have hmul := b7l (limbs (decV (D.take k))) [10 ^ n] (b3j hM (by omega)) ⟨by intro d hd; simp at hd; omega, by simp⟩ (by have := (b3j hM (by omega)).len; have := a1I (Nat.lt_of_lt_of_le hM (c1t k)); simp; omega)
        rw [a0H, c0Q] at hmul
        have hMn : decV (D.take k) * 10 ^ n < 10 ^ (k + n) := by
          rw [Nat.pow_add]
          exact Nat.mul_lt_mul_of_pos_right hM (Nat.pow_pos (by decide))
        have hadd := b7n (limbs (decV (D.take k) * 10 ^ n)) [decV ((D.drop k).take n)] (a1Y _) (by intro d hd; simp at hd; omega) (by have := a1I (Nat.lt_of_lt_of_le hMn (c1t (k + n))); omega) (by simp)
        have happ : decV (D.take k) * 10 ^ n + decV ((D.drop k).take n) = decV (D.take (k + n)) := by
          rw [b4U, b8Z, List.length_take, List.length_drop, Nat.min_eq_left (by omega)]
        rw [a0H, c0Q, happ] at hadd
        refine Safe.rg rfl ?_
        simp only [a7Z, E3, seval]
        first | refine (a8S n hn9).acall ?_ | refine (a8S n hn9).dcall ?_ | refine (a8S n hn9).dgcall ?_
        try simp only [E3, seval]
        first | refine (hmul).acall ?_ | refine (hmul).dcall ?_ | refine (hmul).dgcall ?_
        try simp only [E3, seval]
        first | refine (hadd).acall ?_ | refine (hadd).dcall ?_ | refine (hadd).dgcall ?_
        try simp only [E3, seval]
        refine Safe.keep [0, 2, 5, 7, 8] ?_
        simp only [E3, seval]
        repeat (first | refine Safe.seq ?_ | refine Safe.skip ?_ | refine Safe.inBlock ?_ | refine Safe.block ?_ | refine Safe.exit rfl ?_)
        exact ih (k + n) (by omega) (by omega)
    · have hkk : k = D.length := by omega
      subst hkk
      have hlt : (((P.length + D.length : Nat) : Int) < ((P ++ D).length : Int)) = False := eq_false (by omega)
      have hM := b3w hD.dg
      have hmd := b3f (decide (P.length = 1)) (limbs (decV D)) (b3j hM (by omega))
      rw [a0H, hD.val] at hmd
      have hdec : decide ((P.length : Int) = 1) = decide (P.length = 1) := decide_eq_decide.2 (by omega)
      refine Safe.rg rfl ?_
      simp only [a4E, a0f, hlt, E3, seval]
      refine Safe.cd rfl ?_
      simp only [E3, seval]
      refine Safe.rg rfl ?_
      simp only [a4C, hdec, List.take_length, hD.val, E3, seval]
      first | refine (hmd).acall ?_ | refine (hmd).dcall ?_ | refine (hmd).dgcall ?_
      try simp only [E3, seval]
      refine Safe.rt rfl ?_
      simp only [one3, E3, seval]
      exact ⟨rfl, _, rfl⟩
theorem a6L (l : List UInt8) (k : IntKind) (h : 0 < l.length) : idxS (strU l) (.int k 0) = some (.int .u8 ((l.getD 0 0).toNat : Int)) := a8A l k (i := 0) h
theorem c2f (l : List UInt8) (k : IntKind) (h : 1 < l.length) : idxS (strU l) (.int k 1) = some (.int .u8 ((l.getD 1 0).toNat : Int)) := a8A l k (i := 1) h
theorem b9r (z : Int) (hlen : (decI z).length ≤ 65536) : a0c Pr a5o [strU (decI z)] (.tup [Z z, .int .i64 0, .int .i64 0]) := by
  have hD := b8o z.natAbs
  have hDp := hD.pos
  rw [b8p] at hlen ⊢
  have hbig : (((sgT z ++ dec z.natAbs).length : Int) > 65536) = False := eq_false (by omega)
  have hgt0 : (((sgT z ++ dec z.natAbs).length : Int) > 0) = True := eq_true (by rw [List.length_append]; omega)
  have hcl : Cl (.tup [Z z, .int .i64 0, .int .i64 0]) := c2E (Z_cl _) (.int _ _) (.int _ _)
  by_cases hz : z < 0
  · have hs : sgT z = [45] := by unfold sgT; rw [if_pos hz]
    rw [hs] at hlen hbig hgt0 ⊢
    have hi0 := a6L ([45] ++ dec z.natAbs) .i64 (by simp)
    have hi1 := c2f ([45] ++ dec z.natAbs) .i64 (by simp; omega)
    rw [show (([45] : List UInt8) ++ dec z.natAbs).getD 1 0 = (dec z.natAbs).getD 0 0 from rfl] at hi1
    have h1 : (((([45] : List UInt8) ++ dec z.natAbs).length : Int) > 1) = True := eq_true (by simp; omega)
    have hh := hD.head (.inr (by omega))
    have h00 : ((((dec z.natAbs).getD 0 0).toNat : Int) = 48) = False := eq_false (by omega)
    have h45 : (((([45] : List UInt8) ++ dec z.natAbs).getD 0 0).toNat : Int) = 45 := rfl
    rw [h45] at hi0
    refine a0c.intro a9N a9K (Nat.le_of_ble_eq_true rfl) hcl fun H hH => ?_
    have ht := b3R (P := [45]) hD (by simp) hlen hH
    unfold zrCx b8z at ht
    rw [show sgn (decide (([45] : List UInt8).length = 1)) z.natAbs = z by simp [sgn]; omega] at ht
    simp only [List.cons_append, List.nil_append, List.length_cons] at hbig hgt0 hi0 hi1 h1 ht
    refine Safe.rg rfl ?_
    simp only [a5O, E3, seval]
    refine Safe.rg rfl ?_
    simp only [a5N, a0f, hbig, E3, seval]
    refine Safe.cd rfl ?_
    simp only [E3, seval]
    refine Safe.rg rfl ?_
    simp only [a5M, E3, seval]
    refine Safe.rg rfl ?_
    simp only [a5L, a0f, hgt0, hi0, E3, seval]
    refine Safe.cd rfl ?_
    simp only [E3, seval]
    refine Safe.rg rfl ?_
    simp only [a9J, E3, seval]
    refine Safe.rg rfl ?_
    simp only [a5K, a0f, h1, hi1, h00, E3, seval]
    refine Safe.cd rfl ?_
    simp only [E3, seval]
    refine Safe.keep [0, 2, 5] ?_
    simp only [E3, seval]
    repeat (first | refine Safe.seq ?_ | refine Safe.skip ?_ | refine Safe.inBlock ?_ | refine Safe.block ?_ | refine Safe.exit rfl ?_)
    exact ht
  · have hs : sgT z = [] := by unfold sgT; rw [if_neg hz]
    rw [hs, List.nil_append] at hlen hbig hgt0 ⊢
    have hi0 := a6L (dec z.natAbs) .i64 hDp
    have hdg := b8i hD.dg hDp
    unfold isDg at hdg
    have h45' : ((((dec z.natAbs).getD 0 0).toNat : Int) = 45) = False := eq_false (by omega)
    refine a0c.intro a9N a9K (Nat.le_of_ble_eq_true rfl) hcl fun H hH => ?_
    have ht := b3R (P := []) hD (by simp) (by simpa using hlen) hH
    unfold zrCx b8z at ht
    rw [List.nil_append] at ht
    rw [show sgn (decide (([] : List UInt8).length = 1)) z.natAbs = z by simp [sgn]; omega] at ht
    refine Safe.rg rfl ?_
    simp only [a5O, E3, seval]
    refine Safe.rg rfl ?_
    simp only [a5N, a0f, hbig, E3, seval]
    refine Safe.cd rfl ?_
    simp only [E3, seval]
    refine Safe.rg rfl ?_
    simp only [a5M, E3, seval]
    refine Safe.rg rfl ?_
    simp only [a5L, a0f, hgt0, hi0, h45', E3, seval]
    refine Safe.cd rfl ?_
    simp only [E3, seval]
    refine Safe.rg rfl ?_
    simp only [a5K, E3, seval]
    refine Safe.cd rfl ?_
    simp only [E3, seval]
    refine Safe.keep [0, 2, 5] ?_
    simp only [E3, seval]
    repeat (first | refine Safe.seq ?_ | refine Safe.skip ?_ | refine Safe.inBlock ?_ | refine Safe.block ?_ | refine Safe.exit rfl ?_)
    exact ht
end Go.Abs
namespace Go.Abs
def a0P (c : UInt8) : List UInt8 → List (List UInt8)
  | [] => [[]]
  | b :: l => if b = c then [] :: a0P c l else match a0P c l with
    | [] => [[b]]
    | p :: ps => (b :: p) :: ps
theorem a7a (c : UInt8) : ∀ l, (a0P c l).length = l.count c + 1
  | [] => rfl
  | b :: l => by
    have ih := a7a c l
    unfold a0P
    by_cases h : b = c
    · rw [if_pos h, List.length_cons, ih, List.count_cons, h]; simp
    · rw [if_neg h, List.count_cons]
      have hb : (b == c) = false := by simpa using h
      rw [hb]
      match hs : a0P c l with
      | [] => rw [hs] at ih; simp at ih
      | p :: ps => rw [hs] at ih; simp at ih ⊢; omega
theorem a7z (c : UInt8) : ∀ l, l.count c = 0 → a0P c l = [l]
  | [], _ => rfl
  | b :: l, h => by
    rw [List.count_cons] at h
    have hb : b ≠ c := fun e => by subst e; simp at h
    have ih := a7z c l (by omega)
    unfold a0P
    rw [if_neg hb, ih]
theorem a8L (c : UInt8) : ∀ (p r : List UInt8), p.count c = 0 → a0P c (p ++ c :: r) = p :: a0P c r
  | [], r, _ => by simp [a0P]
  | b :: p, r, h => by
    rw [List.count_cons] at h
    have hb : b ≠ c := fun e => by subst e; simp at h
    have ih := a8L c p r (by omega)
    have e : a0P c (b :: (p ++ c :: r)) = if b = c then [] :: a0P c (p ++ c :: r) else match a0P c (p ++ c :: r) with
      | [] => [[b]]
      | q :: ps => (b :: q) :: ps := by rw [a0P]
    rw [List.cons_append, e, if_neg hb, ih]
theorem b6D (c : UInt8) : ∀ l, 0 < l.count c → ∃ m : Nat, Lib.indexByte l c = (m : Int) ∧ m < l.length ∧ (l.take m).count c = 0 ∧ l = l.take m ++ c :: l.drop (m + 1)
  | [], h => by simp at h
  | b :: l, h => by
    unfold Lib.indexByte
    by_cases hb : b = c
    · subst hb
      exact ⟨0, by simp, by simp, by simp, by simp⟩
    · have hb' : (b == c) = false := by simpa using hb
      rw [List.count_cons, hb'] at h
      obtain ⟨m, h1, h2, h3, h4⟩ := b6D c l (by simpa using h)
      refine ⟨m + 1, ?_, by simpa using h2, ?_, ?_⟩
      · rw [hb', h1]
        have : ((m : Int) == -1) = false := by
          rw [beq_eq_false_iff_ne]; omega
        simp [this]
      · rw [List.take_succ_cons, List.count_cons, h3, hb']; simp
      · rw [List.take_succ_cons, List.drop_succ_cons, List.cons_append, ← h4]
theorem b7c (l : List UInt8) (lo hi : Nat) (h1 : lo ≤ hi) (h2 : hi ≤ l.length) : slcS (strU l) (some (.int .i64 lo)) (some (.int .i64 hi)) = some (strU ((l.drop lo).take (hi - lo))) := by
  unfold strU
  simp only [slcS, a3e, Option.bind_some, a3s]
  rw [if_pos ⟨by omega, by omega, by omega⟩]
  congr 2
  apply ByteArray.ext
  simp [ByteArray.data_extract]
theorem b8D (l : List UInt8) (lo : Nat) (h : lo ≤ l.length) : slcS (strU l) (some (.int .i64 lo)) none = some (strU (l.drop lo)) := by
  have := b7c l lo l.length h (Nat.le_refl _)
  unfold strU at this ⊢
  simp only [slcS, a3e, Option.bind_some, a3s] at this ⊢
  rw [this, List.take_of_length_le (by rw [List.length_drop]; omega)]
theorem b8E (l : List UInt8) (hi : Nat) (h : hi ≤ l.length) : slcS (strU l) none (some (.int .i64 hi)) = some (strU (l.take hi)) := by
  have := b7c l 0 hi (Nat.zero_le _) h
  rw [List.drop_zero, Nat.sub_zero] at this
  unfold strU at this ⊢
  simp only [slcS, a3e, Option.bind_some, a3s] at this ⊢
  exact this
end Go.Abs
namespace Go.Abs
open Go.Proofs
def b0R (c : UInt8) (l : List UInt8) : List UInt8 := l.dropWhile (· == c)
def b3G (c : UInt8) (l : List UInt8) : List UInt8 := (l.reverse.dropWhile (· == c)).reverse
theorem c5E (a b : UInt8) : ((a.toNat : Int) = (b.toNat : Int)) = (a = b) := by
  refine propext ⟨fun h => UInt8.toNat_inj.1 (by omega), fun h => by rw [h]⟩
theorem b4T (c : UInt8) (l : List UInt8) (hl : l.length ≤ 4294967296) : a0c Pr a1g [strU l, .int .u8 (c.toNat : Int)] (strU (b0R c l)) := by
  refine a0c.intro a4Q a4O (Nat.le_of_ble_eq_true rfl) (a0J _) fun H hH => ?_
  refine Safe.rg rfl ?_
  simp only [a1N, E3, seval]
  refine Safe.lp rfl ?_
  refine Safe.keep [0, 1] ?_
  simp only [E3, seval]
  refine Safe.loopW (fun a : List UInt8 => a.length) (fun a => [(0, strU a), (1, .int .u8 (c.toNat : Int))]) (fun _ => hap H []) (fun a => b0R c a = b0R c l ∧ a.length ≤ 4294967296) l rfl rfl ⟨rfl, hl⟩ ?_
  rintro a ⟨ha, hal⟩ ih
  refine Safe.inLoop ?_
  match a, ha, hal, ih with
  | [], ha, hal, ih =>
    refine Safe.rg rfl ?_
    simp only [a0A, a0f, E3, seval]
    refine Safe.cd rfl ?_
    simp only [E3, seval]
    refine Safe.rg rfl ?_
    simp only [a0T, E3, seval]
    refine Safe.rt rfl ?_
    simp only [E3, seval]
    rw [← ha]
    exact ⟨rfl, _, rfl⟩
  | b :: a, ha, hal, ih =>
    have hg : (((b :: a).length : Int) > 0) = True := eq_true (by rw [List.length_cons]; omega)
    simp only [List.length_cons] at hg hal
    have hi := a6L (b :: a) .i64 (by simp)
    rw [show (b :: a).getD 0 0 = b from rfl] at hi
    by_cases hb : b = c
    · have hb' : ((b.toNat : Int) = (c.toNat : Int)) = True := eq_true (by rw [hb])
      have hs := b8D (b :: a) 1 (by simp)
      rw [List.drop_succ_cons, List.drop_zero] at hs
      refine Safe.rg rfl ?_
      simp only [a0A, a0f, hg, hi, hb', E3, seval]
      refine Safe.cd rfl ?_
      simp only [E3, seval]
      refine Safe.rg rfl ?_
      simp only [a1M, E3, seval]
      rw [show (1 : Int) = ((1 : Nat) : Int) from rfl, hs]
      simp only [E3, seval]
      refine Safe.keep [0, 1] ?_
      simp only [E3, seval]
      repeat (first | refine Safe.seq ?_ | refine Safe.skip ?_ | refine Safe.inBlock ?_ | refine Safe.block ?_ | refine Safe.exit rfl ?_)
      refine ih a ⟨?_, by omega⟩ (by simp)
      rw [← ha]
      unfold b0R
      rw [List.dropWhile_cons_of_pos (by simpa using hb)]
    · have hb' : ((b.toNat : Int) = (c.toNat : Int)) = False := eq_false fun h => hb (by rw [c5E] at h; exact h)
      refine Safe.rg rfl ?_
      simp only [a0A, a0f, hg, hi, hb', E3, seval]
      refine Safe.cd rfl ?_
      simp only [E3, seval]
      refine Safe.rg rfl ?_
      simp only [a0T, E3, seval]
      refine Safe.rt rfl ?_
      simp only [E3, seval]
      rw [← ha]
      unfold b0R
      rw [List.dropWhile_cons_of_neg (by simpa using hb)]
      exact ⟨rfl, _, rfl⟩
theorem b3F (c : UInt8) (l : List UInt8) (hl : l.length ≤ 4294967296) : a0c Pr a0W [strU l, .int .u8 (c.toNat : Int)] (strU (b3G c l)) := by
  refine a0c.intro a4n a4l (Nat.le_of_ble_eq_true rfl) (a0J _) fun H hH => ?_
  refine Safe.rg rfl ?_
  simp only [a1G, E3, seval]
  refine Safe.lp rfl ?_
  refine Safe.keep [0, 1] ?_
  simp only [E3, seval]
  refine Safe.loopW (fun a : List UInt8 => a.length) (fun a => [(0, strU a.reverse), (1, .int .u8 (c.toNat : Int))]) (fun _ => hap H []) (fun a => (b0R c a).reverse = b3G c l ∧ a.length ≤ 4294967296) l.reverse (by rw [List.reverse_reverse]) rfl ⟨rfl, by rw [List.length_reverse]; exact hl⟩ ?_
  rintro a ⟨ha, hal⟩ ih
  refine Safe.inLoop ?_
  match a, ha, hal, ih with
  | [], ha, hal, ih =>
    refine Safe.rg rfl ?_
    simp only [a0u, a0f, List.reverse_nil, E3, seval]
    refine Safe.cd rfl ?_
    simp only [E3, seval]
    refine Safe.rg rfl ?_
    simp only [a0I, E3, seval]
    refine Safe.rt rfl ?_
    simp only [E3, seval]
    rw [← ha]
    exact ⟨rfl, _, rfl⟩
  | b :: a, ha, hal, ih =>
    have hlr : (a.reverse ++ [b]).length = a.length + 1 := by simp
    rw [List.length_cons] at hal
    have hg : (((a.reverse ++ [b]).length : Int) > 0) = True := eq_true (by omega)
    have hi := a8A (a.reverse ++ [b]) .i64 (i := a.length) (by omega)
    have hgd : (a.reverse ++ [b]).getD a.length 0 = b := by
      have := b1q a.reverse [b] 0
      rw [List.length_reverse] at this
      exact this
    rw [hgd] at hi
    have hw : IntKind.wrap .i64 (((a.reverse ++ [b]).length : Int) - 1) = ((a.length : Nat) : Int) := by rw [a0b] <;> omega
    rw [List.reverse_cons]
    by_cases hb : b = c
    · have hb' : ((b.toNat : Int) = (c.toNat : Int)) = True := eq_true (by rw [hb])
      have hs := b8E (a.reverse ++ [b]) a.length (by omega)
      rw [show (a.reverse ++ [b]).take a.length = a.reverse by rw [List.take_append_of_le_length (by simp), List.take_of_length_le (by simp)]] at hs
      refine Safe.rg rfl ?_
      simp only [a0u, a0f, hg, hw, hi, hb', E3, seval]
      refine Safe.cd rfl ?_
      simp only [E3, seval]
      refine Safe.rg rfl ?_
      simp only [a1F, a0f, hw, hs, E3, seval]
      refine Safe.keep [0, 1] ?_
      simp only [E3, seval]
      repeat (first | refine Safe.seq ?_ | refine Safe.skip ?_ | refine Safe.inBlock ?_ | refine Safe.block ?_ | refine Safe.exit rfl ?_)
      refine ih a ⟨?_, by omega⟩ (by simp)
      rw [← ha]
      unfold b0R
      rw [List.dropWhile_cons_of_pos (by simpa using hb)]
    · have hb' : ((b.toNat : Int) = (c.toNat : Int)) = False := eq_false fun h => hb (by rw [c5E] at h; exact h)
      refine Safe.rg rfl ?_
      simp only [a0u, a0f, hg, hw, hi, hb', E3, seval]
      refine Safe.cd rfl ?_
      simp only [E3, seval]
      refine Safe.rg rfl ?_
      simp only [a0I, E3, seval]
      refine Safe.rt rfl ?_
      simp only [E3, seval]
      rw [← ha]
      unfold b0R
      rw [List.dropWhile_cons_of_neg (by simpa using hb), List.reverse_cons]
      exact ⟨rfl, _, rfl⟩
theorem strE : AV.str ⟨#[]⟩ = strU [] := rfl
theorem b8C (c : UInt8) : AV.str ⟨#[c]⟩ = strU [c] := rfl
theorem b5R (l : List UInt8) (hl : l.length ≤ 4294967296) (h0 : l ≠ []) : a0c Pr a4i [strU l, strU [32]] (strU (b0R 32 (b3G 32 l))) := by
  have hr : (b3G 32 l).length ≤ l.length := by
    unfold b3G
    rw [List.length_reverse]
    have := (List.dropWhile_sublist (· == (32 : UInt8)) (l := l.reverse)).length_le
    rwa [List.length_reverse] at this
  have e1 : binV .eql (strU l) (strU []) = some (.bool false) := by rw [a1X]; simp [h0]
  have e2 : binV .eql (strU [32]) (strU []) = some (.bool false) := by rw [a1X]; rfl
  have hi := a6L [32] .i64 (by simp)
  rw [show (([32] : List UInt8).getD 0 0).toNat = 32 from rfl] at hi
  have ht1 := b3F 32 l hl
  have ht2 := b4T 32 (b3G 32 l) (by omega)
  rw [show ((32 : UInt8).toNat : Int) = ((32 : Nat) : Int) from rfl] at ht1 ht2
  refine a0c.intro b1N b1M (Nat.le_of_ble_eq_true rfl) (a0J _) fun H hH => ?_
  refine Safe.rg rfl ?_
  simp only [a6c, E3, seval]
  refine Safe.rg rfl ?_
  simp only [a6b, strE, e1, e2, E3, seval]
  refine Safe.cd rfl ?_
  simp only [E3, seval]
  refine Safe.rg rfl ?_
  simp only [a6a, a0f, hi, E3, seval]
  refine Safe.cd rfl ?_
  simp only [E3, seval]
  refine Safe.rg rfl ?_
  simp only [a5Z, hi, E3, seval]
  first | refine (ht1).acall ?_ | refine (ht1).dcall ?_ | refine (ht1).dgcall ?_
  try simp only [E3, seval]
  simp only [hi, E3, seval]
  first | refine (ht2).acall ?_ | refine (ht2).dcall ?_ | refine (ht2).dgcall ?_
  try simp only [E3, seval]
  refine Safe.rt rfl ?_
  simp only [E3, seval]
  exact ⟨_, rfl⟩
theorem b7d (l : List UInt8) (c : UInt8) : a0c Pr a3F [strU l, strU [c]] (.int .i64 (Lib.indexByte l c)) := by
  have hb : a0c Pr a0o [strU l, .int .u8 (c.toNat : Int)] (.int .i64 (Lib.indexByte l c)) := by
    refine a0c.ofBelow Tryd.func90 (by decide +kernel) (by kernel_rfl) fun E vs hok hl hr => ?_
    obtain ⟨v0, v1, rfl⟩ : ∃ v0 v1, vs = [v0, v1] := by
      match vs, hl with
      | [v0, v1], _ => exact ⟨v0, v1, rfl⟩
    have h0 := a0U (hr 0 v0 _ rfl rfl)
    have h1 := a0j (hr 1 v1 _ rfl rfl)
    subst h0; subst h1
    refine (Tryd.stringslite_IndexByte ⟨l.toArray⟩ (c.toNat : Int) E.w).mono ?_
    rintro e w' ⟨rfl, rfl⟩
    refine ⟨⟨_, rfl, fun E' => ?_⟩, Go.RowKit.Below.refl _ _⟩
    have : ((c.toNat : Int)).toNat.toUInt8 = c := by simp
    rw [this]
    exact .int _ _
  have hi := a6L [c] .i64 (by simp)
  rw [show ([c] : List UInt8).getD 0 0 = c from rfl] at hi
  have hli : a0c Pr a0B [strU l, strU [c]] (.int .i64 (Lib.indexByte l c)) := by
    have hl1 : lenS (strU [c]) = some (.int .i64 1) := by rw [a0f]; rfl
    have h10 : ((1 : Int) = 0) = False := eq_false (by omega)
    by_cases hq : [c] = l
    · have he : binV .eql (strU [c]) (strU l) = some (.bool true) := by rw [a1X, hq]; simp
      have hz : Lib.indexByte l c = 0 := by rw [← hq]; simp [Lib.indexByte]
      rw [hz]
      refine a0c.intro a1b a1a (Nat.le_of_ble_eq_true rfl) (.int _ _) fun H hH => ?_
      refine Safe.rg rfl ?_
      simp only [a0z, E3, seval]
      refine Safe.rg rfl ?_
      simp only [a0y, hl1, E3, seval]
      refine Safe.rg rfl ?_
      simp only [a0x, h10, he, E3, seval]
      refine Safe.cd rfl ?_
      simp only [E3, seval]
      refine Safe.rg rfl ?_
      simp only [a0Z, E3, seval]
      refine Safe.rt rfl ?_
      simp only [E3, seval]
      exact ⟨_, rfl⟩
    · have he : binV .eql (strU [c]) (strU l) = some (.bool false) := by
        rw [a1X]
        have : ([c] == l) = false := by rw [beq_eq_false_iff_ne]; exact hq
        rw [this]
      refine a0c.intro a1b a1a (Nat.le_of_ble_eq_true rfl) (.int _ _) fun H hH => ?_
      refine Safe.rg rfl ?_
      simp only [a0z, E3, seval]
      refine Safe.rg rfl ?_
      simp only [a0y, hl1, E3, seval]
      refine Safe.rg rfl ?_
      simp only [a0x, h10, he, E3, seval]
      refine Safe.cd rfl ?_
      simp only [E3, seval]
      refine Safe.rg rfl ?_
      simp only [a0Y, E3, seval]
      refine Safe.cd rfl ?_
      simp only [E3, seval]
      refine Safe.rg rfl ?_
      simp only [a0X, hi, E3, seval]
      first | refine (hb).acall ?_ | refine (hb).dcall ?_ | refine (hb).dgcall ?_
      try simp only [E3, seval]
      refine Safe.rt rfl ?_
      simp only [E3, seval]
      exact ⟨_, rfl⟩
  refine a0c.intro b0V b0U (Nat.le_of_ble_eq_true rfl) (.int _ _) fun H hH => ?_
  refine Safe.rg rfl ?_
  simp only [a5v, E3, seval]
  refine Safe.rg rfl ?_
  simp only [a5u, E3, seval]
  first | refine (hli).acall ?_ | refine (hli).dcall ?_ | refine (hli).dgcall ?_
  try simp only [E3, seval]
  refine Safe.rt rfl ?_
  simp only [E3, seval]
  exact ⟨_, rfl⟩
theorem a7A (l : List UInt8) (c : UInt8) : a0c Pr a6V [strU l, strU [c]] (.int .i64 (l.count c : Nat)) := by
  refine a0c.ofBelow Tryd.func59 (by decide +kernel) (by kernel_rfl) fun E vs hok hl hr => ?_
  obtain ⟨v0, v1, rfl⟩ : ∃ v0 v1, vs = [v0, v1] := by
    match vs, hl with
    | [v0, v1], _ => exact ⟨v0, v1, rfl⟩
  have h0 := a0U (hr 0 v0 _ rfl rfl)
  have h1 := a0U (hr 1 v1 _ rfl rfl)
  subst h0; subst h1
  refine (Tryd.strings_Count_one ⟨l.toArray⟩ c E.w).mono ?_
  rintro e w' ⟨rfl, rfl⟩
  exact ⟨⟨_, rfl, fun E' => .int _ _⟩, Go.RowKit.Below.refl _ _⟩
theorem a5i (l : List UInt8) (c : UInt8) (hl : l.length ≤ 65536) : a0c Pr a1S [strU l, strU [c], .int .i64 0, .int .i64 (-1)] (.sl 1 ((a0P c l).map strU)) := by
  have hcl : Cl (.sl 1 ((a0P c l).map strU)) := .sl _ _ fun a ha => by
    obtain ⟨x, hx, ha⟩ := List.mem_flatMap.1 ha
    obtain ⟨y, _, rfl⟩ := List.mem_map.1 hx
    simp only [a6Y, List.mem_cons, List.not_mem_nil, or_false] at ha
    subst ha; exact a0J y
  have hcn : l.count c ≤ l.length := List.count_le_length
  have e1 : binV .eql (strU [c]) (strU []) = some (.bool false) := by rw [a1X]; rfl
  have hm1 : ((-1 : Int) = 0) = False := eq_false (by omega)
  have hm2 : ((-1 : Int) < 0) = True := eq_true (by omega)
  have hw1 : IntKind.wrap .i64 (((l.count c : Nat) : Int) + 1) = ((l.count c + 1 : Nat) : Int) := by rw [a0b] <;> omega
  have hw2 : IntKind.wrap .i64 ((l.length : Int) + 1) = ((l.length + 1 : Nat) : Int) := by rw [a0b] <;> omega
  have hmn : (if ((l.length + 1 : Nat) : Int) < ((l.count c + 1 : Nat) : Int) then ((l.length + 1 : Nat) : Int) else ((l.count c + 1 : Nat) : Int)) = ((l.count c + 1 : Nat) : Int) := if_neg (by omega)
  have hw3 : IntKind.wrap .i64 (((l.count c + 1 : Nat) : Int) - 1) = ((l.count c : Nat) : Int) := by rw [a0b] <;> omega
  have hl1 : lenS (strU [c]) = some (.int .i64 1) := by rw [a0f]; rfl
  refine a0c.intro a7y a7w (Nat.le_of_ble_eq_true rfl) hcl fun H hH => ?_
  refine Safe.rg rfl ?_
  simp only [a3r, E3, seval]
  refine Safe.rg rfl ?_
  simp only [a3q, hm1, E3, seval]
  refine Safe.cd rfl ?_
  simp only [E3, seval]
  refine Safe.rg rfl ?_
  simp only [a3p, strE, e1, E3, seval]
  refine Safe.cd rfl ?_
  simp only [E3, seval]
  refine Safe.rg rfl ?_
  simp only [a3o, hm2, E3, seval]
  refine Safe.cd rfl ?_
  simp only [E3, seval]
  refine Safe.rg rfl ?_
  simp only [a3n, E3, seval]
  first | refine (a7A l c).acall ?_ | refine (a7A l c).dcall ?_ | refine (a7A l c).dgcall ?_
  try simp only [E3, seval]
  simp only [hw1, E3, seval]
  refine Safe.rg rfl ?_
  simp only [a3m, a0f, hw2, hmn, E3, seval]
  refine Safe.rg rfl ?_
  simp only [a3l, fun env => a8q env H [] 1 16 (strU []) .i64 .i64 (l.count c + 1) (l.count c + 1) (by decide) (Nat.le_refl _) (by omega) (by omega), strE, E3, seval]
  refine Safe.rg rfl ?_
  simp only [a3k, hw3, E3, seval]
  refine Safe.rg rfl ?_
  simp only [a2O, E3, seval]
  refine Safe.lp rfl ?_
  refine Safe.keep [0, 1, 2, 3, 9, 10] ?_
  simp only [E3, seval]
  have hst : ∀ (xs : List AV) (i : Nat) (p : List UInt8) (env : Env), i < xs.length → a8p 1 (.loc (lid H 0) i 0) (strU p) env (hap H [some ⟨1, xs⟩]) = some (.top, env, hap H [some ⟨1, xs.set i (strU p)⟩]) := fun xs i p env h => by
    rw [a6Z env H [some ⟨1, xs⟩] 1 0 i 0 (strU p) rfl h rfl rfl (Nat.le_refl _), a8m]; rfl
  have hix : ∀ (xs : List AV) (i : Nat), i < l.count c + 1 → idxV (hap H [some ⟨1, xs⟩]) 1 (.mu (lid H 0) 0 (l.count c + 1) (some (l.count c + 1))) (.int .i64 i) = some (.loc (lid H 0) i 0) := fun xs i h => by
    rw [c2j _ _ _ _ _ _ _ _ (by omega) (by omega), a1y]; simp
  refine Safe.loopW (fun a : List (List UInt8) × List UInt8 => a.2.count c) (fun a => [(0, strU a.2), (1, strU [c]), (2, .int .i64 0), (3, .int .i64 (l.count c : Nat)), (9, .mu (lid H 0) 0 (l.count c + 1) (some (l.count c + 1))), (10, .int .i64 a.1.length)])
    (fun a => hap H [some ⟨1, a.1.map strU ++ List.replicate (l.count c + 1 - a.1.length) (strU [])⟩]) (fun a => a0P c l = a.1 ++ a0P c a.2 ∧ a.1.length + a.2.count c = l.count c ∧ a.2.length ≤ 65536) ([], l) rfl rfl ⟨rfl, by simp, hl⟩ ?_
  rintro ⟨ps, r⟩ ⟨h1, h2, h3⟩ ih
  simp only at h1 h2 h3
  have hxl : (ps.map strU ++ List.replicate (l.count c + 1 - ps.length) (strU [])).length = l.count c + 1 := by simp; omega
  have hset : ∀ p : List UInt8, (ps.map strU ++ List.replicate (l.count c + 1 - ps.length) (strU [])).set ps.length (strU p) = (ps ++ [p]).map strU ++ List.replicate (l.count c + 1 - (ps ++ [p]).length) (strU []) := fun p => by
    rw [List.set_append_right _ _ (by simp), List.length_map, Nat.sub_self, show l.count c + 1 - ps.length = (l.count c + 1 - (ps ++ [p]).length) + 1 by simp; omega, List.replicate_succ, List.set_cons_zero]
    simp
  refine Safe.inLoop ?_
  by_cases hlt' : ps.length < l.count c
  · have hlt : ((ps.length : Int) < ((l.count c : Nat) : Int)) = True := eq_true (by omega)
    obtain ⟨m, g1, g2, g3, g4⟩ := b6D c r (by omega)
    have hix' := b7d r c
    rw [g1] at hix'
    have hm0 : ((m : Int) < 0) = False := eq_false (by omega)
    have hwm : IntKind.wrap .i64 ((m : Int) + 0) = ((m : Nat) : Int) := by rw [a0b] <;> omega
    have hwm1 : IntKind.wrap .i64 ((m : Int) + 1) = ((m + 1 : Nat) : Int) := by rw [a0b] <;> omega
    have hwi : IntKind.wrap .i64 ((ps.length : Int) + 1) = ((ps.length + 1 : Nat) : Int) := by rw [a0b] <;> omega
    refine Safe.rg rfl ?_
    simp only [a1t, hlt, E3, seval]
    refine Safe.cd rfl ?_
    simp only [E3, seval]
    refine Safe.rg rfl ?_
    simp only [a2N, E3, seval]
    first | refine (hix').acall ?_ | refine (hix').dcall ?_ | refine (hix').dgcall ?_
    try simp only [E3, seval]
    refine Safe.rg rfl ?_
    simp only [a2M, hm0, E3, seval]
    refine Safe.cd rfl ?_
    simp only [E3, seval]
    refine Safe.rg rfl ?_
    simp only [a2L, hwm, b8E r m (by omega), hix _ ps.length (by omega), fun env => hst _ ps.length (r.take m) env (by rw [hxl]; omega), hset, E3, seval]
    refine Safe.rg rfl ?_
    simp only [a2K, hl1, hwm1, b8D r (m + 1) (by omega), E3, seval]
    refine Safe.rg rfl ?_
    simp only [a2J, hwi, E3, seval]
    refine Safe.keep [0, 1, 2, 3, 9, 10] ?_
    simp only [E3, seval]
    repeat (first | refine Safe.seq ?_ | refine Safe.skip ?_ | refine Safe.inBlock ?_ | refine Safe.block ?_ | refine Safe.exit rfl ?_)
    have hdc : r.count c = (r.drop (m + 1)).count c + 1 := by
      conv => lhs; rw [g4]
      rw [List.count_append, g3, List.count_cons]; simp
    have hn := ih (ps ++ [r.take m], r.drop (m + 1)) ⟨?_, by simp; omega, by simp; omega⟩ (by simp only; omega)
    · simp only [List.length_append, List.length_cons, List.length_nil, Nat.zero_add] at hn ⊢
      exact hn
    · rw [h1]
      conv => lhs; rw [g4, a8L c _ _ g3]
      simp
  · have hpe : ps.length = l.count c := by omega
    have hlt : ((ps.length : Int) < ((l.count c : Nat) : Int)) = False := eq_false (by omega)
    have hwi : IntKind.wrap .i64 ((ps.length : Int) + 1) = ((ps.length + 1 : Nat) : Int) := by rw [a0b] <;> omega
    rw [a7z c r (by omega)] at h1
    have hfin : (ps ++ [r]).map strU ++ List.replicate (l.count c + 1 - (ps ++ [r]).length) (strU []) = (a0P c l).map strU := by
      rw [h1, show l.count c + 1 - (ps ++ [r]).length = 0 by simp; omega]; simp
    have hslc : ∀ xs : List AV, slcV (hap H [some ⟨1, xs⟩]) 1 (.mu (lid H 0) 0 (l.count c + 1) (some (l.count c + 1))) none (some (.int .i64 ((ps.length + 1 : Nat) : Int))) none = some (.mu (lid H 0) 0 (l.count c + 1) (some (l.count c + 1))) := fun xs => by
      simp only [slcV, a1y, a3e, List.getElem?_cons_zero, Option.join_some, Option.bind_some]
      rw [if_pos ⟨trivial, by omega, by omega, by omega⟩]
      simp
      omega
    refine Safe.rg rfl ?_
    simp only [a1t, hlt, E3, seval]
    refine Safe.cd rfl ?_
    simp only [E3, seval]
    refine Safe.rg rfl ?_
    simp only [a2I, hix _ ps.length (by omega), fun env => hst _ ps.length r env (by rw [hxl]; omega), hset, hfin, E3, seval]
    refine Safe.rg rfl ?_
    simp only [a2H, hwi, hslc, E3, seval]
    refine Safe.freeze 0 hH rfl rfl (b := ⟨1, (a0P c l).map strU⟩) (fun a ha => by
      obtain ⟨x, hx, ha⟩ := List.mem_flatMap.1 ha
      obtain ⟨y, _, rfl⟩ := List.mem_map.1 hx
      simp only [a6Y, List.mem_cons, List.not_mem_nil, or_false] at ha
      subst ha; exact a0J y) ?_
    refine Safe.keep [8] ?_
    simp only [a5j 0 1 strU (a0P c l) (l.count c + 1) (some (l.count c + 1)) (a7a c l).symm, E3, seval]
    refine Safe.rt rfl ?_
    simp only [E3, seval]
    exact ⟨_, rfl⟩
theorem b9G (l : List UInt8) (c : UInt8) (hl : l.length ≤ 65536) : a0c Pr a3E [strU l, strU [c]] (.sl 1 ((a0P c l).map strU)) := by
  have hcl : Cl (.sl 1 ((a0P c l).map strU)) := .sl _ _ fun a ha => by
    obtain ⟨x, hx, ha⟩ := List.mem_flatMap.1 ha
    obtain ⟨y, _, rfl⟩ := List.mem_map.1 hx
    simp only [a6Y, List.mem_cons, List.not_mem_nil, or_false] at ha
    subst ha; exact a0J y
  refine a0c.intro b0T b0S (Nat.le_of_ble_eq_true rfl) hcl fun H hH => ?_
  refine Safe.rg rfl ?_
  simp only [a5t, E3, seval]
  refine Safe.rg rfl ?_
  simp only [a5s, E3, seval]
  first | refine (a5i l c hl).acall ?_ | refine (a5i l c hl).dcall ?_ | refine (a5i l c hl).dgcall ?_
  try simp only [E3, seval]
  refine Safe.rt rfl ?_
  simp only [E3, seval]
  exact ⟨_, rfl⟩
end Go.Abs
namespace Go.Abs
def tokR (zs : List Int) : List UInt8 := zs.flatMap fun z => 32 :: decI z
def suf (o : Option Int) (rs : List Int) : List UInt8 := match o with
  | none => tokR rs
  | some z => decI z ++ tokR rs
theorem a8n (z : Int) (zs : List Int) : tokR (z :: zs) = 32 :: (decI z ++ tokR zs) := by simp [tokR]
theorem b5w (z : Int) : ∀ c ∈ decI z, c ≠ 32 ∧ c ≠ 59 := fun c hc => by
  rw [b8p] at hc
  rcases List.mem_append.1 hc with hc | hc
  · unfold sgT at hc
    split at hc
    · have : c = 45 := by simpa using hc
      subst this; decide
    · cases hc
  · have := (b8o z.natAbs).dg c hc
    unfold isDg at this
    refine ⟨fun e => ?_, fun e => ?_⟩
    · subst e; have h : (32 : UInt8).toNat = 32 := rfl; omega
    · subst e; have h : (59 : UInt8).toNat = 59 := rfl; omega
theorem b9a (z : Int) : 0 < (decI z).length := by
  rw [b8p, List.length_append]
  have := (b8o z.natAbs).pos
  omega
theorem c8p (a b : UInt8) (h : a ≠ b) : ((a.toNat : Int) = (b.toNat : Int)) = False := eq_false fun e => h (by rw [c5E] at e; exact e)
theorem b3W (s : List UInt8) (o : Option Int) (rs : List Int) (hs : s = suf o rs) (hl : s.length ≤ 65536) (k : Int) : a0c Pr a1V [strU s, .int .i64 k] (vecV ((o.toList ++ rs).map canZ)) := by
  refine a0c.intro b6k b6i (Nat.le_of_ble_eq_true rfl) (a0s _) fun H hH => ?_
  refine Safe.rg rfl ?_
  simp only [b0m, E3, seval]
  refine Safe.rg rfl ?_
  simp only [b0l, E3, seval]
  refine Safe.nilrow 5 2 (by decide) (by simp only [E3, seval]) ?_
  refine Safe.rg rfl ?_
  simp only [b0k, E3, seval]
  refine Safe.lp rfl ?_
  refine Safe.keep [0, 5, 6] ?_
  simp only [E3, seval]
  refine Safe.loopW (fun a : List UInt8 × List Int × Option Int × List Int => (suf a.2.2.1 a.2.2.2).length) (fun a => [(0, strU s), (5, .mu (lid H 0) 0 a.2.1.length none), (6, .int .i64 a.1.length)]) (fun a => hap H [some ⟨2, (a.2.1.map canZ).map ZI.av⟩])
    (fun a => s = a.1 ++ suf a.2.2.1 a.2.2.2 ∧ a.2.1 ++ (a.2.2.1.toList ++ a.2.2.2) = o.toList ++ rs ∧ a.2.1.length ≤ a.1.length) ([], [], o, rs) rfl rfl ⟨by simpa using hs, rfl, Nat.le_refl _⟩ ?_
  rintro ⟨P, ds, o', rs'⟩ ⟨h1, h2, h3⟩ ih
  simp only at h1 h2 h3
  have hsl : s.length = P.length + (suf o' rs').length := by rw [h1, List.length_append]
  have hat : ∀ j, j < (suf o' rs').length → idxS (strU s) (.int .i64 ((P.length + j : Nat) : Int)) = some (.int .u8 (((suf o' rs').getD j 0).toNat : Int)) := fun j hj => by
    rw [a8A s .i64 (by omega)]
    conv => lhs; rw [h1]
    rw [b1q]
  refine Safe.inLoop ?_
  match o', rs', h1, h2, hsl, hat, ih with
  | none, [], h1, h2, hsl, hat, ih =>
    have hs0 : (suf none []).length = 0 := rfl
    have hlt : ((P.length : Int) < (s.length : Int)) = False := eq_false (by omega)
    refine Safe.rg rfl ?_
    simp only [a3X, a0f, hlt, E3, seval]
    refine Safe.cd rfl ?_
    simp only [E3, seval]
    refine Safe.freeze 0 hH rfl rfl (a5m 2 ZI.av _ ZI.cl) ?_
    refine Safe.keep [5] ?_
    simp only [a5j 0 2 ZI.av (ds.map canZ) ds.length none (by rw [List.length_map]), E3, seval]
    refine Safe.rg rfl ?_
    simp only [a4V, E3, seval]
    refine Safe.rt rfl ?_
    simp only [E3, seval]
    have e : ds = o.toList ++ rs := by simpa using h2
    rw [← e]
    exact ⟨rfl, _, rfl⟩
  | none, z :: rs', h1, h2, hsl, hat, ih =>
    have e0 : suf none (z :: rs') = 32 :: suf (some z) rs' := a8n z rs'
    have hl0 : (suf none (z :: rs')).length = (suf (some z) rs').length + 1 := by rw [e0]; rfl
    have hlt : ((P.length : Int) < (s.length : Int)) = True := eq_true (by omega)
    have hi := hat 0 (by omega)
    rw [Nat.add_zero, e0, show ((32 :: suf (some z) rs').getD 0 0).toNat = 32 from rfl] at hi
    have h32 : (((32 : Nat) : Int) = 32) = True := eq_true (by omega)
    have hiw : IntKind.wrap .i64 ((P.length : Int) + 1) = ((P.length + 1 : Nat) : Int) := by rw [a0b] <;> omega
    refine Safe.rg rfl ?_
    simp only [a3X, a0f, hlt, E3, seval]
    refine Safe.cd rfl ?_
    simp only [E3, seval]
    refine Safe.rg rfl ?_
    simp only [a6p, hi, h32, E3, seval]
    refine Safe.cd rfl ?_
    simp only [E3, seval]
    refine Safe.rg rfl ?_
    simp only [b0j, hiw, E3, seval]
    refine Safe.keep [0, 5, 6] ?_
    simp only [E3, seval]
    repeat (first | refine Safe.seq ?_ | refine Safe.skip ?_ | refine Safe.inBlock ?_ | refine Safe.block ?_ | refine Safe.exit rfl ?_)
    have hn := ih (P ++ [32], ds, some z, rs') ⟨by rw [h1, e0]; simp, by simpa using h2, by simp; omega⟩ (by simp only; omega)
    simp only [List.length_append, List.length_cons, List.length_nil, Nat.zero_add] at hn
    exact hn
  | some z, rs', h1, h2, hsl, hat, ih =>
    have e0 : suf (some z) rs' = decI z ++ tokR rs' := rfl
    have hzp := b9a z
    have hl0 : (suf (some z) rs').length = (decI z).length + (tokR rs').length := by rw [e0, List.length_append]
    have hlt : ((P.length : Int) < (s.length : Int)) = True := eq_true (by omega)
    have hti : ∀ j, j < (decI z).length → idxS (strU s) (.int .i64 ((P.length + j : Nat) : Int)) = some (.int .u8 (((decI z).getD j 0).toNat : Int)) ∧ ((((decI z).getD j 0).toNat : Int) = 32) = False := fun j hj => by
      have hg : (suf (some z) rs').getD j 0 = (decI z).getD j 0 := by
        rw [e0, List.getD_eq_getElem?_getD, List.getD_eq_getElem?_getD, List.getElem?_append_left hj]
      refine ⟨by rw [hat j (by omega), hg], ?_⟩
      have hm : (decI z).getD j 0 ∈ decI z := by rw [List.getD_eq_getElem?_getD, List.getElem?_eq_getElem hj]; exact List.getElem_mem _
      exact c8p _ 32 (b5w z _ hm).1
    obtain ⟨ht0, ht1⟩ := hti 0 hzp
    rw [Nat.add_zero] at ht0
    refine Safe.rg rfl ?_
    simp only [a3X, a0f, hlt, E3, seval]
    refine Safe.cd rfl ?_
    simp only [E3, seval]
    refine Safe.rg rfl ?_
    simp only [a6p, ht0, ht1, E3, seval]
    refine Safe.cd rfl ?_
    simp only [E3, seval]
    refine Safe.rg rfl ?_
    simp only [b0i, E3, seval]
    refine Safe.lp rfl ?_
    refine Safe.keep [0, 5, 6, 7] ?_
    simp only [E3, seval]
    refine Safe.loopN (decI z).length (fun j => [(0, strU s), (5, .mu (lid H 0) 0 ds.length none), (6, .int .i64 P.length), (7, .int .i64 ((P.length + j : Nat) : Int))]) (fun _ => hap H [some ⟨2, (ds.map canZ).map ZI.av⟩]) rfl rfl (fun j hj ih2 => ?_) ?_
    · obtain ⟨g1, g2⟩ := hti j hj
      have hltj : (((P.length + j : Nat) : Int) < (s.length : Int)) = True := eq_true (by omega)
      have hiw : IntKind.wrap .i64 (((P.length + j : Nat) : Int) + 1) = ((P.length + (j + 1) : Nat) : Int) := by rw [a0b] <;> omega
      refine Safe.inLoop ?_
      refine Safe.rg rfl ?_
      simp only [a3W, a0f, hltj, g1, g2, E3, seval]
      refine Safe.cd rfl ?_
      simp only [E3, seval]
      refine Safe.rg rfl ?_
      simp only [b0h, hiw, E3, seval]
      refine Safe.keep [0, 5, 6, 7] ?_
      simp only [E3, seval]
      repeat (first | refine Safe.seq ?_ | refine Safe.skip ?_ | refine Safe.inBlock ?_ | refine Safe.block ?_ | refine Safe.exit rfl ?_)
      exact ih2
    · have hrest : Safe ⟨Pr, fun _ _ => false, a1V, 56, [.tmp 4], H.length⟩ [.code (.region a6o false), .code (.seq (.seq (.region a4Y false) (.cond (.t 44) (.bad) (.skip))) (.seq (.region a4X false) (.region a4W false))), .inBlock 1, .inLoop b0n, .inBlock 0, .code (.seq (.region a4V false) (.ret))]
          [(0, strU s), (5, .mu (lid H 0) 0 ds.length none), (6, .int .i64 P.length), (7, .int .i64 ((P.length + (decI z).length : Nat) : Int))] (hap H [some ⟨2, (ds.map canZ).map ZI.av⟩]) fun r' H' => r' = vecV ((o.toList ++ rs).map canZ) ∧ ∃ L, H' = hap H L := by
        have hsc := b7c s P.length (P.length + (decI z).length) (by omega) (by omega)
        have htk : (s.drop P.length).take (P.length + (decI z).length - P.length) = decI z := by
          rw [h1, e0, List.drop_left', Nat.add_sub_cancel_left, List.take_left']
          · rfl
          · rfl
        rw [htk] at hsc
        have hrd := b9r z (by omega)
        refine Safe.rg rfl ?_
        simp only [a6o, hsc, E3, seval]
        first | refine (hrd).acall ?_ | refine (hrd).dcall ?_ | refine (hrd).dgcall ?_
        try simp only [E3, seval]
        refine Safe.rg rfl ?_
        simp only [a4Y, E3, seval]
        refine Safe.cd rfl ?_
        simp only [E3, seval]
        refine Safe.rg rfl ?_
        simp only [a4X, E3, seval]
        rw [c2W (y := .agg [.bool (decide (z < 0)), natV (limbs z.natAbs)]) hH 0 (a8y H 0) ZI.cl (ds.map canZ) (canZ z) ((ds ++ [z]).map canZ) (by rw [List.length_map]) rfl (by repeat (first | exact RC.nil | refine RC.none ?_ | refine RC.mo ?_ | refine RC.io ?_ | refine RC.row ZI.cl ?_ | refine RC.cons (a4f _) ?_ | refine RC.row a0s ?_ | refine RC.emp ?_ | refine RC.zero ?_ | refine RC.one (Z_cl _) ?_ | refine RC.one (ZI.cl _) ?_ | refine RC.one (a0s _) ?_)) rfl (by simp) (by omega) (by omega)]
        simp only [E3, seval]
        refine Safe.rg rfl ?_
        simp only [a4W, E3, seval]
        refine Safe.keep [0, 5, 6] ?_
        simp only [ES, E3, seval]
        refine Safe.drop1 hH rfl (by simp only [List.all_cons, List.all_nil, ES, E3, seval]) (by repeat (first | exact RC.nil | refine RC.none ?_ | refine RC.mo ?_ | refine RC.io ?_ | refine RC.row ZI.cl ?_ | refine RC.cons (a4f _) ?_ | refine RC.row a0s ?_ | refine RC.emp ?_ | refine RC.zero ?_ | refine RC.one (Z_cl _) ?_ | refine RC.one (ZI.cl _) ?_ | refine RC.one (a0s _) ?_)) ?_
        repeat (first | refine Safe.seq ?_ | refine Safe.skip ?_ | refine Safe.inBlock ?_ | refine Safe.block ?_ | refine Safe.exit rfl ?_)
        have hn := ih (P ++ decI z, ds ++ [z], none, rs') ⟨by rw [h1, e0]; show _ = (P ++ decI z) ++ tokR rs'; rw [List.append_assoc], by simpa using h2, by simp; omega⟩ (by simp only; rw [hl0]; show (tokR rs').length < _; omega)
        simp only [List.length_append, List.length_cons, List.length_nil, Nat.zero_add] at hn
        exact hn
      refine Safe.inLoop ?_
      match rs', hl0, e0, hat, hrest with
      | [], hl0, e0, hat, hrest =>
        have hltj : (((P.length + (decI z).length : Nat) : Int) < (s.length : Int)) = False := eq_false (by rw [hsl, hl0]; simp [tokR])
        refine Safe.rg rfl ?_
        simp only [a3W, a0f, hltj, E3, seval]
        refine Safe.cd rfl ?_
        simp only [E3, seval]
        refine Safe.keep [0, 5, 6, 7] ?_
        simp only [E3, seval]
        repeat (first | refine Safe.seq ?_ | refine Safe.skip ?_ | refine Safe.inBlock ?_ | refine Safe.block ?_ | refine Safe.exit rfl ?_)
        exact hrest
      | y :: rs', hl0, e0, hat, hrest =>
        have hly : 0 < (tokR (y :: rs')).length := by rw [a8n]; simp
        have hltj : (((P.length + (decI z).length : Nat) : Int) < (s.length : Int)) = True := eq_true (by omega)
        have hi := hat (decI z).length (by omega)
        have hg : ((suf (some z) (y :: rs')).getD (decI z).length 0).toNat = 32 := by
          rw [e0]
          have := b1q (decI z) (tokR (y :: rs')) 0
          rw [Nat.add_zero] at this
          rw [this, a8n]; rfl
        rw [hg] at hi
        have h32 : (((32 : Nat) : Int) = 32) = True := eq_true (by omega)
        refine Safe.rg rfl ?_
        simp only [a3W, a0f, hltj, hi, h32, E3, seval]
        refine Safe.cd rfl ?_
        simp only [E3, seval]
        refine Safe.keep [0, 5, 6, 7] ?_
        simp only [E3, seval]
        repeat (first | refine Safe.seq ?_ | refine Safe.skip ?_ | refine Safe.inBlock ?_ | refine Safe.block ?_ | refine Safe.exit rfl ?_)
        exact hrest
end Go.Abs
namespace Go.Abs
theorem c0Z (H : Heap) (ps : List (List UInt8)) (k : IntKind) (i : Nat) (h : i < ps.length) : idxV H 1 (.sl 1 (ps.map strU)) (.int k i) = some (.ro (strU ps[i]) 0) := c1f H 1 _ ps k i h
noncomputable def rdB (H : Heap) (s : List UInt8) (x : AV) : Heap := hap H [some ⟨1, [strU s]⟩, some ⟨1, [x]⟩]
theorem b7i (H : Heap) (hH : a0N H) (s : List UInt8) (ps : List (List UInt8)) (X : List (List ZI)) (hs : s.length ≤ 65536) (hps : a0P 59 s = ps) (hX : ps.length = X.length) (hw : ∀ i (h : i < ps.length) (h' : i < X.length) (k : Int), a0c Pr a1V [strU ps[i], .int .i64 k] (vecV X[i])) :
    a0i Pr a1J [.loc (lid H 0) 0 0, .loc (lid H 1) 0 0] (hap (rdB H s .nil) [row0, row0]) fun r' H' => r' = .tup [] ∧ ∃ M, H' = hap (rdB H s (matV X)) ([row0, row0] ++ M) := by
  have hsp := b9G s 59 hs
  rw [hps] at hsp
  have hpl : ps.length ≤ 65537 := by rw [← hps, a7a]; have := List.count_le_length (a := (59 : UInt8)) (l := s); omega
  have hp0 : 0 < ps.length := by rw [← hps, a7a]; omega
  refine a0i.open b5f b5d (Nat.le_of_ble_eq_true rfl) fun hH2 => ?_
  unfold rdB row0
  simp only [c4l, List.cons_append, List.nil_append, List.append_nil]
  refine Safe.rg rfl ?_
  simp only [a8u, E3, Nat.reduceLeDiff, Nat.reduceSub, Nat.reduceAdd, Nat.reduceEqDiff, reduceCtorEq, ↓reduceIte]
  have hlen : ∀ G : Heap, lenV G (.sl 1 (ps.map strU)) = some (.int .i64 ps.length) := fun G => by simp [lenV]
  refine Safe.rg rfl ?_
  simp only [a8t, b8C, ES, E3, Nat.reduceLeDiff, Nat.reduceSub, Nat.reduceAdd, Nat.reduceEqDiff, reduceCtorEq, ↓reduceIte]
  first | refine (hsp).acall ?_ | refine (hsp).dcall ?_ | refine (hsp).dgcall ?_
  try simp only [E3, Nat.reduceLeDiff, Nat.reduceSub, Nat.reduceAdd, Nat.reduceEqDiff, reduceCtorEq, ↓reduceIte]
  simp only [List.length_map]
  refine Safe.lp rfl ?_
  refine Safe.keep [0, 1, 2, 6, 7, 8] ?_
  simp only [E3, Nat.reduceLeDiff, Nat.reduceSub, Nat.reduceAdd, Nat.reduceEqDiff, reduceCtorEq, ↓reduceIte]
  refine Safe.loopW (fun a : Nat × Int => ps.length - a.1) (fun a => [(0, .loc (lid H 0) 0 0), (1, .loc (lid H 1) 0 0), (2, .int .i64 a.2), (6, .sl 1 (ps.map strU)), (7, .int .i64 ps.length), (8, .int .i64 a.1)])
    (fun a => if a.1 = 0 then hap H [some ⟨1, [strU s]⟩, some ⟨1, [.nil]⟩, some ⟨1, [.int .i64 0]⟩, some ⟨1, [.int .i64 0]⟩] else hap H [some ⟨1, [strU s]⟩, some ⟨1, [.mu (lid H 4) 0 a.1 none]⟩, some ⟨1, [.int .i64 0]⟩, some ⟨1, [.int .i64 0]⟩, some ⟨1, (X.take a.1).map vecV⟩])
    (fun a => a.1 ≤ ps.length) (0, 0) rfl rfl (Nat.zero_le _) ?_
  rintro ⟨i, f⟩ hi ih
  simp only at hi
  refine Safe.inLoop ?_
  by_cases hlt' : i < ps.length
  · have hlt : ((i : Int) < (ps.length : Int)) = True := eq_true (by omega)
    have hiw : IntKind.wrap .i64 ((i : Int) + 1) = ((i + 1 : Nat) : Int) := by rw [a0b] <;> omega
    have hiX : i < X.length := by omega
    have hwi := hw i hlt' hiX f
    have hcb : clb (vecV X[i]) = true := b8q.2 (a0s _)
    have htk : X.take (i + 1) = X.take i ++ [X[i]] := List.take_succ_eq_append_getElem hiX
    by_cases h0 : i = 0
    · subst h0
      have happ := fun env => b9o (lid H 4) env H [some ⟨1, [strU s]⟩, some ⟨1, [.nil]⟩, some ⟨1, [.int .i64 0]⟩, some ⟨1, [.int .i64 0]⟩] 1 24 false (.sl 1 [vecV X[0]]) [vecV X[0]] (a4o _ 1 _) (by decide) (by simp) (by simp)
      simp only [List.length_cons, List.length_nil, Nat.zero_add, Nat.reduceAdd, List.cons_append, List.nil_append] at happ
      rw [if_pos rfl]
      refine Safe.rg rfl ?_
      simp only [a3f, hlt, E3, Nat.reduceLeDiff, Nat.reduceSub, Nat.reduceAdd, Nat.reduceEqDiff, reduceCtorEq, ↓reduceIte]
      refine Safe.cd rfl ?_
      simp only [E3, Nat.reduceLeDiff, Nat.reduceSub, Nat.reduceAdd, Nat.reduceEqDiff, reduceCtorEq, ↓reduceIte]
      refine Safe.rg rfl ?_
      simp only [a5d, c0Z _ ps .i64 0 hlt', ES, E3, Nat.reduceLeDiff, Nat.reduceSub, Nat.reduceAdd, Nat.reduceEqDiff, reduceCtorEq, ↓reduceIte]
      refine Safe.rg rfl ?_
      simp only [a5c, E3, Nat.reduceLeDiff, Nat.reduceSub, Nat.reduceAdd, Nat.reduceEqDiff, reduceCtorEq, ↓reduceIte]
      first | refine (hwi).acall ?_ | refine (hwi).dcall ?_ | refine (hwi).dgcall ?_
      try simp only [E3, Nat.reduceLeDiff, Nat.reduceSub, Nat.reduceAdd, Nat.reduceEqDiff, reduceCtorEq, ↓reduceIte]
      simp only [hcb, happ, ES, E3, Nat.reduceLeDiff, Nat.reduceSub, Nat.reduceAdd, Nat.reduceEqDiff, reduceCtorEq, ↓reduceIte]
      refine Safe.rg rfl ?_
      simp only [a5b, a0f, E3, Nat.reduceLeDiff, Nat.reduceSub, Nat.reduceAdd, Nat.reduceEqDiff, reduceCtorEq, ↓reduceIte]
      refine Safe.rg rfl ?_
      simp only [a5a, hiw, E3, Nat.reduceLeDiff, Nat.reduceSub, Nat.reduceAdd, Nat.reduceEqDiff, reduceCtorEq, ↓reduceIte]
      refine Safe.keep [0, 1, 2, 6, 7, 8] ?_
      simp only [E3, Nat.reduceLeDiff, Nat.reduceSub, Nat.reduceAdd, Nat.reduceEqDiff, reduceCtorEq, ↓reduceIte]
      have hn := fun f' => ih (1, f') (by simp only; omega) (by simp only; omega)
      simp only [htk] at hn
      exact hn _
    · have hxl : (X.take i).length = i := by rw [List.length_take]; omega
      have h1 : nref (lid H 4) (strU s) = true := b5S _ _
      have happ := fun env => c7s (L := [some ⟨1, [strU s]⟩, some ⟨1, [.mu (lid H 4) 0 i none]⟩, some ⟨1, [.int .i64 0]⟩, some ⟨1, [.int .i64 0]⟩, some ⟨1, (X.take i).map vecV⟩]) hH (i := 4) (n0 := lid H 4) (wd := 1) (bytes := 24) (len := i) (env := env) (y := .sl 1 [vecV X[i]]) (xs := (X.take i).map vecV) (ys := [vecV X[i]]) rfl (by rw [List.length_map, hxl]) (Nat.le_refl _) (a4o _ 1 _)
        (fun a ha => by simp [AV.cells, vecV] at ha; subst ha; exact a0V (a0s _)) (fun a ha => by obtain ⟨y, _, rfl⟩ := List.mem_map.1 ha; exact a0V (a0s _)) (by simp; omega) (by simp; omega)
      simp only [b7g, b9O, c1l, List.map_cons, List.map_nil, b8I h1, c1m, b8I (b8M (lid H 4) .i64 0), List.length_cons, List.length_nil, Nat.zero_add, List.set_cons_succ, List.set_cons_zero] at happ
      rw [if_neg h0]
      refine Safe.rg rfl ?_
      simp only [a3f, hlt, E3, Nat.reduceLeDiff, Nat.reduceSub, Nat.reduceAdd, Nat.reduceEqDiff, reduceCtorEq, ↓reduceIte]
      refine Safe.cd rfl ?_
      simp only [E3, Nat.reduceLeDiff, Nat.reduceSub, Nat.reduceAdd, Nat.reduceEqDiff, reduceCtorEq, ↓reduceIte]
      refine Safe.rg rfl ?_
      simp only [a5d, c0Z _ ps .i64 i hlt', ES, E3, Nat.reduceLeDiff, Nat.reduceSub, Nat.reduceAdd, Nat.reduceEqDiff, reduceCtorEq, ↓reduceIte]
      refine Safe.rg rfl ?_
      simp only [a5c, E3, Nat.reduceLeDiff, Nat.reduceSub, Nat.reduceAdd, Nat.reduceEqDiff, reduceCtorEq, ↓reduceIte]
      first | refine (hwi).acall ?_ | refine (hwi).dcall ?_ | refine (hwi).dgcall ?_
      try simp only [E3, Nat.reduceLeDiff, Nat.reduceSub, Nat.reduceAdd, Nat.reduceEqDiff, reduceCtorEq, ↓reduceIte]
      simp only [hcb, happ, ES, E3, Nat.reduceLeDiff, Nat.reduceSub, Nat.reduceAdd, Nat.reduceEqDiff, reduceCtorEq, ↓reduceIte]
      refine Safe.rg rfl ?_
      simp only [a5b, a0f, E3, Nat.reduceLeDiff, Nat.reduceSub, Nat.reduceAdd, Nat.reduceEqDiff, reduceCtorEq, ↓reduceIte]
      refine Safe.rg rfl ?_
      simp only [a5a, hiw, E3, Nat.reduceLeDiff, Nat.reduceSub, Nat.reduceAdd, Nat.reduceEqDiff, reduceCtorEq, ↓reduceIte]
      refine Safe.keep [0, 1, 2, 6, 7, 8] ?_
      simp only [E3, Nat.reduceLeDiff, Nat.reduceSub, Nat.reduceAdd, Nat.reduceEqDiff, reduceCtorEq, ↓reduceIte]
      have hn := fun f' => ih (i + 1, f') (by simp only; omega) (by simp only; omega)
      simp only [Nat.add_eq_zero_iff, h0, false_and, if_false, htk, List.map_append, List.map_cons, List.map_nil] at hn
      exact hn _
  · have hin : i = ps.length := by omega
    subst hin
    rw [if_neg (by omega), hX, List.take_length]
    refine Safe.rg rfl ?_
    simp only [a3f, hX, Int.lt_irrefl, E3, Nat.reduceLeDiff, Nat.reduceSub, Nat.reduceAdd, Nat.reduceEqDiff, reduceCtorEq, ↓reduceIte]
    refine Safe.cd rfl ?_
    simp only [E3, Nat.reduceLeDiff, Nat.reduceSub, Nat.reduceAdd, Nat.reduceEqDiff, reduceCtorEq, ↓reduceIte]
    refine Safe.freezeG (id := lid H 4) (b := ⟨1, X.map vecV⟩) (Nat.le_refl _) (by simp [hap, lid]) (a5m 1 vecV _ a0s) ?_
    rw [b8V hH]
    refine Safe.keep [8] ?_
    simp only [c6C H 4 X X.length none rfl, ES, E3, Nat.reduceLeDiff, Nat.reduceSub, Nat.reduceAdd, Nat.reduceEqDiff, reduceCtorEq, ↓reduceIte]
    refine Safe.stl 5 _ (Safe.donen ?_)
    simp only [E3, Nat.reduceLeDiff, Nat.reduceSub, Nat.reduceAdd, Nat.reduceEqDiff, reduceCtorEq, ↓reduceIte]
    exact ⟨_, rfl⟩
end Go.Abs
namespace Go.Abs
open Go.Proofs Go.Shelf
theorem c5f {α : Type} (l : List α) (g : Nat → List UInt8) (f : α → List UInt8) (h : ∀ i (hi : i < l.length), g i = f l[i]) : tx l.length g = l.map f := by
  refine List.ext_getElem (by simp [tx]) fun i h1 h2 => ?_
  have hi : i < l.length := by simpa using h2
  simp [tx, h i hi]
theorem c5g (v : List ZI) : txV v = Lib.join ((v.map ZI.z).map decI) [32] := by
  unfold txV
  rw [c5f v _ (fun x => decI x.z) fun i hi => by rw [b9u hi], List.map_map]
  rfl
theorem c7C (b : List (List ZI)) : txM b = Lib.join (b.map txV) [59, 32] := by
  unfold txM
  rw [c5f b _ txV fun i hi => by rw [b6g hi]]
theorem c2b (r : List Int) : Lib.joinTail [32] (r.map decI) = tokR r := by
  unfold Lib.joinTail tokR
  rw [List.map_map, List.flatMap_def]
  rfl
theorem b1g (x : ZI) (v : List ZI) : txV (x :: v) = decI x.z ++ tokR (v.map ZI.z) := by
  rw [c5g, List.map_cons, List.map_cons, Lib.join_cons, c2b]
theorem c5I : ∀ (r : List Int), ∀ c ∈ tokR r, c ≠ 59 := fun r c hc => by
  unfold tokR at hc
  obtain ⟨z, _, hc⟩ := List.mem_flatMap.1 hc
  rcases List.mem_cons.1 hc with rfl | hc
  · decide
  · exact (b5w z c hc).2
theorem c5h (v : List ZI) : ∀ c ∈ txV v, c ≠ 59 := fun c hc => by
  match v with
  | [] => rw [c5g] at hc; cases hc
  | x :: v =>
    rw [b1g] at hc
    rcases List.mem_append.1 hc with hc | hc
    · exact (b5w x.z c hc).2
    · exact c5I _ c hc
theorem b9c {l : List UInt8} {c : UInt8} (h : ∀ x ∈ l, x ≠ c) : l.count c = 0 := List.count_eq_zero.2 fun hc => h c hc rfl
theorem b3Z : ∀ (qs : List (List UInt8)) (p : List UInt8), (∀ x ∈ p, x ≠ 59) → (∀ q ∈ qs, ∀ x ∈ q, x ≠ 59) → a0P 59 (p ++ Lib.joinTail [59, 32] qs) = p :: qs.map (32 :: ·)
  | [], p, hp, _ => by
    have : Lib.joinTail [59, 32] [] = [] := rfl
    rw [this, List.append_nil, a7z 59 p (b9c hp)]; rfl
  | q :: qs, p, hp, hq => by
    have e : p ++ Lib.joinTail [59, 32] (q :: qs) = p ++ 59 :: ((32 :: q) ++ Lib.joinTail [59, 32] qs) := by simp [Lib.joinTail]
    rw [e, a8L 59 p _ (b9c hp), b3Z qs (32 :: q) (fun x hx => by
      rcases List.mem_cons.1 hx with rfl | hx
      · decide
      · exact hq q (by simp) x hx) fun r hr => hq r (by simp [hr])]
    rfl
theorem a9k : ∀ (l : List UInt8), (∃ c ∈ l, c ≠ 32) → ∃ c ∈ l.dropWhile (· == 32), c ≠ (32 : UInt8)
  | [], h => by obtain ⟨c, hc, _⟩ := h; cases hc
  | b :: l, ⟨c, hc, hn⟩ => by
    by_cases hb : b = 32
    · rw [List.dropWhile_cons_of_pos (by simpa using hb)]
      rcases List.mem_cons.1 hc with rfl | hc
      · exact absurd hb hn
      · exact a9k l ⟨c, hc, hn⟩
    · rw [List.dropWhile_cons_of_neg (by simpa using hb)]
      exact ⟨c, hc, hn⟩
theorem c5G {l : List UInt8} (h : ∃ c ∈ l, c ≠ 32) : b0R 32 (b3G 32 l) ≠ [] := by
  obtain ⟨c, hc, hn⟩ := h
  obtain ⟨d, hd, hdn⟩ := a9k l.reverse ⟨c, List.mem_reverse.2 hc, hn⟩
  obtain ⟨e, he, _⟩ := a9k (b3G 32 l) ⟨d, List.mem_reverse.2 hd, hdn⟩
  exact List.ne_nil_of_mem he
theorem c1s (s : List UInt8) (ps : List (List UInt8)) (X : List (List ZI)) (hs : s.length ≤ 65536) (hch : ∃ c ∈ s, c ≠ 32) (hps : a0P 59 s = ps) (hX : ps.length = X.length) (hw : ∀ i (h : i < ps.length) (h' : i < X.length) (k : Int), a0c Pr a1V [strU ps[i], .int .i64 k] (vecV X[i])) :
    a0c Pr a7d [strU s] (.tup [matV X, .int .i64 0, .int .i64 0]) := by
  have hne : s ≠ [] := by obtain ⟨c, hc, _⟩ := hch; exact List.ne_nil_of_mem hc
  have hbig : ((s.length : Int) > 65536) = False := eq_false (by omega)
  have htr := b5R s (by omega) hne
  have he1 : binV .eql (strU (b0R 32 (b3G 32 s))) (strU []) = some (.bool false) := by
    rw [a1X]
    have : (b0R 32 (b3G 32 s) == []) = false := by rw [beq_eq_false_iff_ne]; exact c5G hch
    rw [this]
  have hent : ∀ args w, (callFunc a1J args).run Pr w = .ok (.enter a1J args) w := enters_of Tryd.func18 (by kernel_rfl) rfl
  refine a0c.intro b7O b7N (Nat.le_of_ble_eq_true rfl) (c2E (a6H _) (.int _ _) (.int _ _)) fun H hH => ?_
  have hca := b6M a1J [.loc (lid H 0) 0 0, .loc (lid H 1) 0 0] (rdB H s .nil) (fun G => G = rdB H s (matV X)) hent ((b7i H hH s ps X hs hps hX hw).mono fun r' H' h => by
    obtain ⟨h1, M, h2⟩ := h
    exact ⟨h1, rdB H s (matV X), M, h2, by simp [rdB, hap], c6s hH (RC.one (a0J _) (RC.one (a6H _) RC.nil)), rfl⟩)
  unfold rdB at hca
  refine Safe.rg rfl ?_
  simp only [b3c, E3, seval]
  refine Safe.rg rfl ?_
  simp only [b3b, ES, a0f, hbig, E3, seval]
  refine Safe.cd rfl ?_
  simp only [E3, seval]
  refine Safe.rg rfl ?_
  simp only [b3a, ES, b8C, strE, E3, seval]
  first | refine (htr).acall ?_ | refine (htr).dcall ?_ | refine (htr).dgcall ?_
  try simp only [E3, seval]
  simp only [he1, E3, seval]
  refine Safe.cd rfl ?_
  simp only [E3, seval]
  refine Safe.rg rfl ?_
  simp only [b2Z, E3, seval]
  refine Safe.rg rfl ?_
  simp only [b2Y, E3, seval]
  refine hca.mono ?_
  rintro r' H' ⟨rfl, _, rfl⟩
  simp only [E3, seval]
  refine Safe.rg rfl ?_
  simp only [b2X, E3, seval]
  refine Safe.cd rfl ?_
  simp only [E3, seval]
  refine Safe.rg rfl ?_
  simp only [b2W, E3, seval]
  refine Safe.rt rfl ?_
  simp only [one3, E3, seval]
  exact ⟨_, rfl⟩
end Go.Abs
namespace Go.Abs
open Go.Proofs Go.Shelf
theorem a5C : ∀ (l : List (List UInt8)) (sep : List UInt8) (x : List UInt8), x ∈ l → sep.length + x.length ≤ (Lib.joinTail sep l).length
  | y :: l, sep, x, h => by
    have e : Lib.joinTail sep (y :: l) = sep ++ y ++ Lib.joinTail sep l := by simp [Lib.joinTail]
    rw [e, List.length_append, List.length_append]
    rcases List.mem_cons.1 h with rfl | h
    · omega
    · have := a5C l sep x h; omega
theorem c1r (b : List (List ZI)) (hb : b ≠ []) (hr : ∀ v ∈ b, v ≠ []) (hs : (txM b).length ≤ 65536) :
    a0c Pr a7d [strU (txM b)] (.tup [matV (b5r b), .int .i64 0, .int .i64 0]) := by
  match b, hb, hr, hs with
  | v0 :: rest, _, hr, hs =>
  match v0, hr with
  | [], hr => exact absurd rfl (hr [] (by simp))
  | x0 :: w0, hr =>
  have e : txM ((x0 :: w0) :: rest) = txV (x0 :: w0) ++ Lib.joinTail [59, 32] (rest.map txV) := by rw [c7C, List.map_cons, Lib.join_cons]
  have hsp := b3Z (rest.map txV) (txV (x0 :: w0)) (c5h _) (fun q hq x hx => by
    obtain ⟨v, _, rfl⟩ := List.mem_map.1 hq
    exact c5h v x hx)
  rw [← e, List.map_map] at hsp
  rw [← b5q]
  refine c1s (txM ((x0 :: w0) :: rest)) _ (((x0 :: w0) :: rest).map fun v => cans (v.map ZI.z)) hs ?_ hsp (by simp) ?_
  · have hp := b9a x0.z
    have hm : (decI x0.z)[0] ∈ decI x0.z := List.getElem_mem _
    refine ⟨_, ?_, (b5w x0.z _ hm).1⟩
    rw [e, b1g]
    exact List.mem_append_left _ (List.mem_append_left _ hm)
  · intro i h h' k
    match i, h, h' with
    | 0, h, h' => exact b3W (txV (x0 :: w0)) (some x0.z) (w0.map ZI.z) (b1g x0 w0) (by rw [e, List.length_append] at hs; omega) k
    | i + 1, h, h' =>
      have hi : i < rest.length := by simpa using h'
      have hv : rest[i] ≠ [] := hr rest[i] (List.mem_cons_of_mem _ (List.getElem_mem hi))
      have hl : (32 :: txV rest[i]).length ≤ 65536 := by
        have := a5C (rest.map txV) [59, 32] (txV rest[i]) (List.mem_map.2 ⟨_, List.getElem_mem hi, rfl⟩)
        rw [e, List.length_append] at hs
        simp only [List.length_cons, List.length_nil] at this ⊢
        omega
      have hw : 32 :: txV rest[i] = suf none (rest[i].map ZI.z) := by
        match hri : rest[i], hv with
        | y :: u, _ =>
          rw [b1g]
          exact (a8n y.z (u.map ZI.z)).symm
      have := b3W (32 :: txV rest[i]) none (rest[i].map ZI.z) hw hl k
      simpa [cans] using this
end Go.Abs

/- Part 5 of the proof of MatReads: C1, C2, C3, W1, W2, W3, W4, W5, W6, W8, Shelf, T2, C4, C5, C6, C7, C8, C9, C10, O1, O2, O3, E1, E2, E3, E4, E5, E6, V1, V4. -/
import Derived.Test.YtkehcnbnmjmpbaaDoorMatReadsK4
import Derived.WalkKit
import Derived.RowKit
import Derived.Defers
import Derived.Recover
import Derived.Shelf.Abstract
import Derived.Shelf.Strings.OnBuilder
import Derived.Shelf.Strings.Search1
import Derived.Shelf.Strings.Count
import Derived.Test.YtkehcnbnmjmpbaaDoorProg
import Derived.Test.YtkehcnbnmjmpbaaDoorRows
import Derived.OpenShut
import Derived.ChangeArms
import Derived.Carry
import Derived.ProofKit
import Derived.JoinedCond
import Derived.WalkSmall
namespace Go.Abs
open Go.Proofs Go.RowKit
set_option maxRecDepth 100000 in
theorem c1E (n : Nat) (hn : n ≤ 9) (w : World) : Calls Pr a8r #[.int .i64 n] w fun e w' => e = .returned (.int .u32 (10 ^ n : Nat)) ∧ w' = w := by
  have hix : ∀ w : World, (Instr.index 115 (Value.agg #[Value.int IntKind.u32 1, Value.int IntKind.u32 10, Value.int IntKind.u32 100, Value.int IntKind.u32 1000, Value.int IntKind.u32 10000, Value.int IntKind.u32 100000, Value.int IntKind.u32 1000000, Value.int IntKind.u32 10000000, Value.int IntKind.u32 100000000, Value.int IntKind.u32 1000000000]) (Value.int IntKind.i64 (n : Int))).run Pr w = .ok (.int .u32 (10 ^ n : Nat)) w := by
    intro w
    have h : n = 0 ∨ n = 1 ∨ n = 2 ∨ n = 3 ∨ n = 4 ∨ n = 5 ∨ n = 6 ∨ n = 7 ∨ n = 8 ∨ n = 9 := by omega
    rcases h with rfl | rfl | rfl | rfl | rfl | rfl | rfl | rfl | rfl | rfl <;> rfl
  go_enter Tryd.func63, Tryd.ntmps63
  go_wp2
  go_ret
  exact ⟨rfl, rfl⟩
theorem b0Z (n : Nat) (hn : n ≤ 9) : a0o Pr a8r [.int .i64 n] (.int .u32 (10 ^ n : Nat)) := by
  refine a0o.ofBelow (fn := Tryd.f63) Tryd.func63 (by kernel_rfl) (by kernel_rfl) ?_
  intro E vs hok hl hrep
  match vs, hl with
  | [v], _ =>
    have hv := hrep 0 v _ rfl rfl
    have e : v = .int .i64 n := a0n hv
    subst e
    refine (c1E n hn E.w).mono ?_
    rintro e w' ⟨rfl, rfl⟩
    exact ⟨⟨_, rfl, fun E' => .int _ _⟩, Below.refl _ _⟩
end Go.Abs
set_option linter.unusedSimpArgs false
namespace Go.Abs
open Go.Proofs Go.RowKit Go.Shelf
theorem b1K {w : World} {b : Nat} {c : Array Value} {e : TypeId} {fr : Nat × Nat} {v : Value} (h : w.heap[b]? = some (.cells c e fr)) (hc : c[0]? = some v) : w.setCell ⟨b, 0, none⟩ v = w := by
  have hm : (w.heap.modify b fun
      | .cells c elem frozen => .cells (if (Addr.mk b 0 none).spot.isSome then c else c.setIfInBounds 0 v) elem frozen
      | o => o) = w.heap := by
    apply Array.ext_getElem?
    intro i
    rw [Array.getElem?_modify]
    split
    · rename_i hi
      subst hi
      rw [h]
      simp only [Option.map_some, Option.isSome_none, Bool.false_eq_true, if_false]
      congr 2
      apply Array.ext_getElem?
      intro j
      rw [Array.getElem?_setIfInBounds]
      split
      · rename_i hj; subst hj; rw [hc]; rw [if_pos]; exact (Array.getElem?_eq_some_iff.1 hc).1
      · rfl
    · rfl
  unfold World.setCell
  exact congrArg (fun h => { w with heap := h }) hm
theorem c0N (p q : Addr) (w : World) :
    CallsD Pr 41 #[.pointer (some p), .pointer (some q)] .returning w fun e u' w' => e = .returned (.tuple #[]) ∧ u' = .returning ∧ w' = w := by
  refine callsD_of_wpS Tryd.func41 rfl fun c₀ cs hu => ?_
  apply wpS_seq
  apply wpS_region
  simp [wpOpsS, go_sem, recoverD, hu, Tryd.ntmps41, Exit.thenS]
  apply wpS_seq
  apply wpS_region
  simp [wpOpsS, go_sem, Exit.thenS]
  refine wpS_cond (t := false) (by simp [Act.eval, Array.replicate]) ?_
  simp only [Bool.false_eq_true, if_false]
  refine wpS_of_wp (wp_skip ?_)
  cases c₀
  simp_all [bodyPostS, results, Tryd.results41, Exit.thenS]
set_option maxRecDepth 100000 in
theorem b5D (f : FuncId) (caps : Array Value) (w : World) (he : ∀ args w, (callFunc f args).run Pr w = .ok (.enter f args) w) (Q : World → Prop)
    (hdo : Calls Pr f caps ((w.alloc (Obj.cells #[Value.int IntKind.i64 0] 3)).alloc (Obj.cells #[Value.int IntKind.i64 0] 23)) fun e w2 => e = .returned (.tuple #[]) ∧ Q w2)
    (hQ : ∀ w2, Q w2 → ∃ c1 e1 c2 e2, w2.heap[w.heap.size]? = some (.cells c1 e1 (0, 0)) ∧ c1[0]? = some (.int .i64 0) ∧ w2.heap[w.heap.size + 1]? = some (.cells c2 e2 (0, 0)) ∧ c2[0]? = some (.int .i64 0)) :
    Calls Pr a1B #[.func (.func f) #[] caps] w fun e w' => e = .returned (.tuple #[.int .i64 0, .int .i64 0]) ∧ Q w' := by
  have hmf : ∀ (fn : Fn) (first cap : Array Value) (w : World), (Instr.makeFunc fn first cap).run Pr w = .ok (.func fn first cap) w := fun _ _ _ _ => rfl
  have hQ' : ∀ w2, Q w2 → w2.cell? ⟨w.heap.size, 0, none⟩ = some (.int .i64 0) ∧ w2.cell? ⟨w.heap.size + 1, 0, none⟩ = some (.int .i64 0) ∧ w2.frozen? ⟨w.heap.size, 0, none⟩ = false ∧ w2.frozen? ⟨w.heap.size + 1, 0, none⟩ = false ∧
      w2.setCell ⟨w.heap.size, 0, none⟩ (.int .i64 0) = w2 ∧ w2.setCell ⟨w.heap.size + 1, 0, none⟩ (.int .i64 0) = w2 := fun w2 hq => by
    obtain ⟨c1, e1, c2, e2, g1, g2, g3, g4⟩ := hQ _ hq
    exact ⟨by simp [World.cell?, g1, g2], by simp [World.cell?, g3, g4], by simp [World.frozen?, g1], by simp [World.frozen?, g3], b1K g1 g2, b1K g3 g4⟩
  go_enter_defers Tryd.func17, Tryd.ntmps17
  go_wp2_with (go_at_fn f; refine hdo.mono ?_; rintro e w2 ⟨rfl, hq⟩; obtain ⟨hc1, hc2, hf1, hf2, hs1, hs2⟩ := hQ' _ hq)
  refine leaves_cons (f := 41) (args := #[.pointer (some ⟨w.heap.size, 0, none⟩), .pointer (some ⟨w.heap.size + 1, 0, none⟩)]) (by simp) (by simp [go_sem]) ?_
  refine (c0N ⟨w.heap.size, 0, none⟩ ⟨w.heap.size + 1, 0, none⟩ _).mono ?_
  rintro e u' w'' ⟨rfl, rfl, rfl⟩
  simp [Leaves, settle, results, Tryd.results17, go_sem, hc1, hc2, hq]
end Go.Abs
namespace Go.Abs
open Go.Proofs Go.RowKit Go.Shelf
def row0 : Option Blk := some ⟨1, [.int .i64 0]⟩
theorem a8x {H : Heap} {φ : Nat → Option Nat} {w : World} (hok : HOk ⟨φ, H, w⟩) (T : TypeId) : ∃ φ', HOk ⟨φ', H ++ [row0], w.alloc (.cells #[Value.int IntKind.i64 0] T)⟩ ∧ Ext (· < H.length) ⟨φ, H, w⟩ ⟨φ', H ++ [row0], w.alloc (.cells #[Value.int IntKind.i64 0] T)⟩ ∧ φ' H.length = some w.heap.size := by
  obtain ⟨φ', h1, h2, h3, h4, h5⟩ := b1a (env := []) (tmps := #[]) (n0 := H.length) (E := ⟨φ, H, w⟩) (Nat.le_refl _) hok (fun t => .top _) (w := w.alloc (.cells #[Value.int IntKind.i64 0] T)) rfl rfl rfl (by simp) (a0U _ _) w.heap.size (Nat.le_refl _) ⟨1, [.int .i64 0]⟩ (by decide)
    (by simp [AV.cells]) (c := #[Value.int IntKind.i64 0]) (e := T) (heap_alloc_new _ _) (by simp [Blk.flat, AV.cells])
    (fun k v b hv hb => by
      match k with
      | 0 =>
        simp [Blk.flat, AV.cells] at hv hb
        subst hv; subst hb
        exact ⟨rfl, .int _ _⟩
      | k + 1 => simp [Blk.flat, AV.cells] at hb)
  exact ⟨φ', h1, h3, h4⟩
theorem a7D {E : Emb} (hok : HOk E) {id b : Nat} (h : E.H[id]? = some row0) (hp : E.φ id = some b) : ∃ c e, E.w.heap[b]? = some (.cells c e (0, 0)) ∧ c[0]? = some (.int .i64 0) := by
  obtain ⟨c, e, r⟩ := hok.row id _ b h hp
  have hs : 0 < c.size := by have := r.fits; simp [Blk.flat, AV.cells] at this; omega
  have hc : c[0]? = some c[0] := by simp [hs]
  have hr := r.rep 0 _ (.int .i64 0) hc (by simp [Blk.flat, AV.cells])
  rw [a0n hr] at hc
  exact ⟨c, e, r.heap (by decide), hc⟩
theorem b7W (f : FuncId) (caps : List AV) (H : Heap) (R : Heap → Prop) (he : ∀ args w, (callFunc f args).run Pr w = .ok (.enter f args) w)
    (hdo : ACalls Pr f caps (hap H [row0, row0]) fun r' H' => r' = .tup [] ∧ ∃ G M, H' = hap G ([row0, row0] ++ M) ∧ G.length = H.length ∧ a0r G ∧ R G) : ACalls Pr a1B [.fn f caps] H fun r' H' => r' = .tup [.int .i64 0, .int .i64 0] ∧ H'.length = H.length ∧ R H' := by
  refine ⟨⟨_, Tryd.func17, by decide +kernel, by kernel_rfl⟩, fun φ w vs hok hl hrep => ?_⟩
  match vs, hl with
  | [v], _ =>
    have hv := hrep 0 v _ rfl rfl
    cases hv with
    | dead v a id hr hd h1 => simp [AV.ref] at hr
    | fn _ vs _ hlen hcap =>
      obtain ⟨φ1, k1, x1, p1⟩ := a8x hok 3
      obtain ⟨φ2, k2, x2, p2⟩ := a8x k1 23
      have hH2 : H ++ [row0] ++ [row0] = hap H [row0, row0] := by simp [hap]
      have hl1 : (H ++ [row0]).length = H.length + 1 := by simp
      have hl2 : (H ++ [row0] ++ [row0]).length = H.length + 2 := by simp
      have hs1 : (w.alloc (.cells #[Value.int IntKind.i64 0] 3)).heap.size = w.heap.size + 1 := by simp
      have x12 : Ext (· < H.length) ⟨φ, H, w⟩ ⟨φ2, H ++ [row0] ++ [row0], (w.alloc (.cells #[Value.int IntKind.i64 0] 3)).alloc (.cells #[Value.int IntKind.i64 0] 23)⟩ := x1.trans (x2.sub fun i hi => by rw [hl1]; have : i < H.length := hi; show i < _; omega)
      have q1 : φ2 H.length = some w.heap.size := by
        have := x2.phi H.length (by rw [hl1]; show _ < _; omega) (by rw [hl1]; show _ < _; omega)
        exact this.trans p1
      have q2 : φ2 (H.length + 1) = some (w.heap.size + 1) := by rw [hl1, hs1] at p2; exact p2
      rw [hH2] at k2 x12 hl2
      have hcall := hdo.2 φ2 _ vs k2 hlen fun k v a hk ha => (hcap k v a hk ha).mono' x12
      refine (b5D f vs.toArray w he (fun w2 => ∃ φ3 G M, HOk ⟨φ3, hap G ([row0, row0] ++ M), w2⟩ ∧ G.length = H.length ∧ a0r G ∧ R G ∧ Ext (· < (hap H [row0, row0]).length) ⟨φ2, hap H [row0, row0], (w.alloc (.cells #[Value.int IntKind.i64 0] 3)).alloc (.cells #[Value.int IntKind.i64 0] 23)⟩ ⟨φ3, hap G ([row0, row0] ++ M), w2⟩) (hcall.mono ?_) ?_).mono ?_
      · rintro e w2 ⟨v, r, φ3, H3, rfl, ⟨rfl, G, M, rfl, g1, g2, g3⟩, g4, g5, g6, g7⟩
        refine ⟨?_, φ3, G, M, g4, g1, g2, g3, g7⟩
        have := a7E g5
        rw [this]; rfl
      · rintro w2 ⟨φ3, G, M, g4, g1, g2, g3, g7⟩
        have e1 : φ3 H.length = some w.heap.size := (g7.phi H.length (by rw [hl2]; show _ < _; omega) (by rw [hl2]; show _ < _; omega)).trans q1
        have e2 : φ3 (H.length + 1) = some (w.heap.size + 1) := (g7.phi (H.length + 1) (by rw [hl2]; show _ < _; omega) (by rw [hl2]; show _ < _; omega)).trans q2
        obtain ⟨c1, t1, a1, b1⟩ := a7D (E := ⟨φ3, hap G ([row0, row0] ++ M), w2⟩) g4 (id := H.length) (by simp [hap, ← g1]) e1
        obtain ⟨c2, t2, a2, b2⟩ := a7D (E := ⟨φ3, hap G ([row0, row0] ++ M), w2⟩) g4 (id := H.length + 1) (by simp [hap, ← g1]) e2
        exact ⟨c1, t1, c2, t2, a1, b1, a2, b2⟩
      · rintro e w2 ⟨rfl, φ3, G, M, g4, g1, g2, g3, g7⟩
        have hfree : ∀ (j : Nat) bj, j < H.length → (hap G ([row0, row0] ++ M))[j]? = some (some bj) → ∀ a ∈ bj.flat, Ref (· < H.length) a := by
          intro j bj hj hb
          simp only [hap] at hb
          rw [List.getElem?_append_left (by omega)] at hb
          have := g2 j bj hb
          rwa [g1] at this
        have hcut := HOk.cut (E := ⟨φ3, hap G ([row0, row0] ++ M), w2⟩) g4 H.length hfree
        have ht : (hap G ([row0, row0] ++ M)).take H.length = G := by simp [hap, ← g1]
        simp only [ht] at hcut
        refine ⟨_, .tup [.int .i64 0, .int .i64 0], φ3, G, rfl, ⟨rfl, g1, g3⟩, hcut.1, ?_, by omega, ?_⟩
        · exact .tup [.int .i64 0, .int .i64 0] _ rfl fun k v a hk ha => by
            match k with
            | 0 => cases hk; cases ha; exact .int _ _
            | 1 => cases hk; cases ha; exact .int _ _
            | k + 2 => simp at hk
        · exact (x12.trans (g7.sub fun i hi => by rw [hl2]; have : i < H.length := hi; show i < _; omega)).trans hcut.2
end Go.Abs
set_option linter.unusedVariables false
namespace Go.Abs
theorem a9I (l : List Nat) (hl : Lim l) (hb : l.length ≤ 17592186044416) : a0o Pr a2D [natV l] (natV (limbs (val l))) := by
  refine a0o.intro b8x b8v (by simp only [List.length_cons, List.length_nil]; omega) (a3w _) fun H hH => ?_
  refine Safe.seq (Safe.region ?_)
  simp only [b3Q, E1, seval]
  refine Safe.seq (Safe.block (Safe.loop ?_))
  refine Safe.keep [0] ?_
  simp only [E1, seval]
  generalize hv : val l = v
  have stop : ∀ (l : List Nat) (ts : Env), Lim l → val l = v → (l.getLast?).getD 1 ≠ 0 → look ts 0 = natV l → Safe ⟨Pr, fun _ _ => false, a2D, 21, [.tmp 2], H.length⟩ [.code ((ACode.region a9m false).seq ACode.ret)] ts (hap H []) fun r' H' => r' = natV (limbs v) ∧ ∃ L, H' = hap H L := by
    intro l ts hl hv hn h0
    refine Safe.seq (Safe.region ?_)
    simp only [a9m, E1, seval, h0]
    refine Safe.retn ?_
    simp only [E1, seval]
    rw [← hv, a5X hl hn]
    exact ⟨rfl, [], rfl⟩
  induction hn : l.length using Nat.strongRecOn generalizing l with
  | _ n ih =>
  refine Safe.inLoop (Safe.seq (Safe.seq (Safe.region ?_)))
  rcases List.eq_nil_or_concat l with rfl | ⟨l', d, rfl⟩
  · simp only [a9n, E1, seval, b2Z, Int.natCast_zero, Int.lt_irrefl]
    refine Safe.cond ?_
    simp only [E1, seval]
    refine Safe.exit rfl ?_
    exact stop [] _ hl hv (by simp) (by simp only [E1, seval])
  · simp only [List.concat_eq_append] at *
    have hlen : (l' ++ [d]).length = l'.length + 1 := by simp
    have h0 : (0 : Int) < ((l' ++ [d]).length : Int) := by omega
    have hw : IntKind.i64.wrap (((l' ++ [d]).length : Int) - 1) = (l'.length : Int) := by rw [hlen, a0g] <;> omega
    have hg : (l' ++ [d]).getD l'.length 0 = d := by simp
    simp only [a9n, E1, seval, b2Z, h0, hw, a1H _ (l' ++ [d]) _ l'.length (by omega), hg]
    refine Safe.cond ?_
    simp only [E1, seval]
    by_cases hd : d = 0
    · subst hd
      simp only [Int.natCast_zero, E1, seval]
      refine Safe.skip (Safe.block (Safe.region ?_))
      simp only [b3P, E1, seval, b2Z, hw, c3r _ (l' ++ [0]) _ l'.length (by omega)]
      refine Safe.inBlock (Safe.keep [0] ?_)
      simp only [E1, seval, List.take_left']
      exact ih l'.length (by omega) l' (b5z.1 hl).1 (by omega) (by rw [← hv, c0X]) rfl
    · have : ¬ ((d : Int) = 0) := by omega
      simp only [this, E1, seval]
      refine Safe.exit rfl ?_
      exact stop (l' ++ [d]) _ hl hv (by simpa using hd) (by simp only [E1, seval])
theorem b8u (a b : List Nat) (la : Lim a) (lb : Lim b) (ha : a.length < 17592186044416) (hb : b.length < 17592186044416) : a0o Pr a6p [natV a, natV b] (natV (limbs (val a + val b))) := by
  refine a0o.intro c0w c0v (by simp only [List.length_cons, List.length_nil]; omega) (a3w _) fun H hH => ?_
  refine Safe.seq (Safe.region ?_)
  have hLB : LB = 4294967296 := rfl
  simp only [b5x, E1, Nat.reduceAdd, Nat.reduceEqDiff, reduceCtorEq, ↓reduceIte]
  have main : ∀ (a b : List Nat) (env : Env) (s : Nat), Lim a → Lim b → b.length ≤ a.length → a.length < 17592186044416 → val a + val b = s → look env 0 = natV a → look env 1 = natV b →
      Safe ⟨Pr, fun _ _ => false, a6p, 58, [.tmp 4], H.length⟩ [.code ((ACode.region b1g false).seq ((ACode.region b1f false).seq (((ACode.region b1e false).seq (.block 0 (.loop a8A))).seq ((ACode.region a4E false).seq ((ACode.region a4D false).seq .ret)))))]
        env (hap H []) fun r' H' => r' = natV (limbs s) ∧ ∃ L, H' = hap H L := by
    intro a b env s la lb hle ha hs h0 h1
    refine Safe.seq (Safe.region ?_)
    have hw : IntKind.wrap .i64 ((a.length : Int) + 1) = ((a.length + 1 : Nat) : Int) := by rw [a0g] <;> omega
    simp only [b1g, E1, Nat.reduceAdd, Nat.reduceEqDiff, reduceCtorEq, ↓reduceIte, h0, hw, b0C _ H [] _ _ (a.length + 1) (by omega)]
    refine Safe.seq (Safe.region ?_)
    simp only [b1f, E1, Nat.reduceAdd, Nat.reduceEqDiff, reduceCtorEq, ↓reduceIte]
    refine Safe.seq (Safe.seq (Safe.region ?_))
    simp only [b1e, E1, Nat.reduceAdd, Nat.reduceEqDiff, reduceCtorEq, ↓reduceIte, h0]
    refine Safe.block (Safe.loop ?_)
    have key : ∀ (k i c : Nat) (x : List Nat), i + k = a.length → x.length = i → Lim x → c ≤ 1 → val x + LB ^ i * c = val (a.take i) + val (b.take i) →
        Safe ⟨Pr, fun _ _ => false, a6p, 58, [.tmp 4], H.length⟩ [.inLoop a8A, .inBlock 0, .code ((ACode.region a4E false).seq ((ACode.region a4D false).seq .ret))]
          [(0, natV a), (1, natV b), (5, .mu (lid H 0) 0 (a.length + 1) (some (a.length + 1))), (6, .int .u64 c), (20, .int .i64 a.length), (21, .int .i64 i)]
          (hap H [some ⟨1, u32s (x ++ List.replicate (k + 1) 0)⟩]) fun r' H' => r' = natV (limbs s) ∧ ∃ L, H' = hap H L := by
      intro k
      induction k with
      | zero =>
        intro i c x hik hx lx hc hv
        have hi : i = a.length := by omega
        subst hi
        refine Safe.inLoop (Safe.seq (Safe.region ?_))
        simp only [b1d, E1, Nat.reduceAdd, Nat.reduceEqDiff, reduceCtorEq, ↓reduceIte]
        refine Safe.seq (Safe.cond ?_)
        simp only [E1, Nat.reduceAdd, Nat.reduceEqDiff, reduceCtorEq, ↓reduceIte, Int.lt_irrefl]
        refine Safe.exit rfl (Safe.seq (Safe.region ?_))
        have hcw : IntKind.wrap .u32 (c : Int) = (c : Int) := a6w (by omega) (by omega)
        simp only [a4E, E1, Nat.reduceAdd, Nat.reduceEqDiff, reduceCtorEq, ↓reduceIte, a7U _ _ _ _ _ _ a.length (Nat.lt_succ_self _), hcw, b5h _ _ _ a.length c (show a.length < (x ++ List.replicate (0 + 1) 0).length by simp [hx])]
        rw [← hx, b5S, hx]
        simp only [List.replicate_zero, List.append_nil]
        have hlen : a.length + 1 = (x ++ [c]).length := by simp [hx]
        refine Safe.freeze 0 (b := ⟨1, u32s (x ++ [c])⟩) hH rfl rfl (a2B _) ?_
        refine Safe.seq (Safe.region ?_)
        simp only [a4D, E1, Nat.reduceAdd, Nat.reduceEqDiff, reduceCtorEq, ↓reduceIte, hlen]
        refine (a9I (x ++ [c]) (a2c lx (by omega)) (by omega)).acall ?_
        try simp only [E1, Nat.reduceAdd, Nat.reduceEqDiff, reduceCtorEq, ↓reduceIte]
        refine Safe.retn ?_
        simp only [E1, Nat.reduceAdd, Nat.reduceEqDiff, reduceCtorEq, ↓reduceIte]
        rw [List.take_length, List.take_of_length_le hle] at hv
        rw [a6x, hx, hv, hs]
        first | exact ⟨rfl, _, rfl⟩ | exact ⟨_, rfl⟩ | exact ⟨trivial, _, rfl⟩
      | succ k ih =>
        intro i c x hik hx lx hc hv
        refine Safe.inLoop (Safe.seq (Safe.region ?_))
        simp only [b1d, E1, Nat.reduceAdd, Nat.reduceEqDiff, reduceCtorEq, ↓reduceIte]
        refine Safe.seq (Safe.cond ?_)
        have hlt : (i : Int) < (a.length : Int) := by omega
        simp only [E1, Nat.reduceAdd, Nat.reduceEqDiff, reduceCtorEq, ↓reduceIte, hlt]
        refine Safe.skip (Safe.seq (Safe.block (Safe.seq (Safe.region ?_))))
        simp only [b5u, E1, Nat.reduceAdd, Nat.reduceEqDiff, reduceCtorEq, ↓reduceIte]
        refine Safe.seq (Safe.region ?_)
        have xa := a4N la i
        have xb := a4N lb i
        have h1w : IntKind.wrap .u64 ((a.getD i 0 : Nat) : Int) = ((a.getD i 0 : Nat) : Int) := a0E (by omega) (by omega)
        have h2w : IntKind.wrap .u64 ((c : Int) + ((a.getD i 0 : Nat) : Int)) = ((c + a.getD i 0 : Nat) : Int) := by rw [a0E] <;> omega
        simp only [b5t, E1, Nat.reduceAdd, Nat.reduceEqDiff, reduceCtorEq, ↓reduceIte, a1H _ a _ i (by omega), h1w, h2w]
        refine Safe.seq (Safe.seq (Safe.region ?_))
        simp only [b5s, E1, Nat.reduceAdd, Nat.reduceEqDiff, reduceCtorEq, ↓reduceIte]
        refine Safe.cond ?_
        simp only [E1, Nat.reduceAdd, Nat.reduceEqDiff, reduceCtorEq, ↓reduceIte]
        have rest : ∀ env : Env, look env 0 = natV a → look env 1 = natV b → look env 5 = .mu (lid H 0) 0 (a.length + 1) (some (a.length + 1)) → look env 6 = .int .u64 (c + a.getD i 0 + b.getD i 0 : Nat) → look env 7 = .int .i64 i → look env 20 = .int .i64 a.length → look env 21 = .int .i64 i →
            Safe ⟨Pr, fun _ _ => false, a6p, 58, [.tmp 4], H.length⟩ [.code ((ACode.region a9r false).seq (.region a9q false)), .inBlock 1, .code (.region a9p false), .inLoop a8A, .inBlock 0, .code ((ACode.region a4E false).seq ((ACode.region a4D false).seq .ret))]
              env (hap H [some ⟨1, u32s (x ++ List.replicate (k + 1 + 1) 0)⟩]) fun r' H' => r' = natV (limbs s) ∧ ∃ L, H' = hap H L := by
          intro env e0 e1 e5 e6 e7 e20 e21
          refine Safe.seq (Safe.region ?_)
          have hcw : IntKind.wrap .u32 ((c + a.getD i 0 + b.getD i 0 : Nat) : Int) = (((c + a.getD i 0 + b.getD i 0) % LB : Nat) : Int) := b1G _
          simp only [a9r, E1, Nat.reduceAdd, Nat.reduceEqDiff, reduceCtorEq, ↓reduceIte, e5, e6, e7, a7U _ _ _ _ _ _ i (show i < a.length + 1 by omega), hcw, b5h _ _ _ i _ (show i < (x ++ List.replicate (k + 1 + 1) 0).length by simp [hx] <;> omega)]
          refine Safe.region ?_
          have hs32 : Int.fdiv ((c + a.getD i 0 + b.getD i 0 : Nat) : Int) (2 ^ min (Int.toNat 32) IntKind.u64.bits) = (((c + a.getD i 0 + b.getD i 0) / LB : Nat) : Int) := by
            rw [show (2 : Int) ^ min (Int.toNat 32) IntKind.u64.bits = (LB : Int) by decide, Int.fdiv_eq_ediv_of_nonneg _ (by decide)]; rfl
          simp only [a9q, E1, Nat.reduceAdd, Nat.reduceEqDiff, reduceCtorEq, ↓reduceIte, e6, b6Q _ _ _ (show (0 : Int) ≤ 32 by decide), hs32]
          refine Safe.inBlock (Safe.region ?_)
          have hiw : IntKind.wrap .i64 ((i : Int) + 1) = ((i + 1 : Nat) : Int) := by rw [a0g] <;> omega
          simp only [a9p, E1, Nat.reduceAdd, Nat.reduceEqDiff, reduceCtorEq, ↓reduceIte, e21, hiw]
          refine Safe.keep [0, 1, 5, 6, 20, 21] ?_
          simp only [E1, Nat.reduceAdd, Nat.reduceEqDiff, reduceCtorEq, ↓reduceIte, e0, e1, e5, e20]
          have hset : (x ++ List.replicate (k + 1 + 1) 0).set i ((c + a.getD i 0 + b.getD i 0) % LB) = (x ++ [(c + a.getD i 0 + b.getD i 0) % LB]) ++ List.replicate (k + 1) 0 := by subst hx; exact b5S _ _ _
          rw [hset]
          refine ih (i + 1) _ _ (by omega) (by simp [hx]) (a2c lx (Nat.mod_lt _ (by decide))) ?_ ?_
          · have : c + a.getD i 0 + b.getD i 0 < LB * 2 := by omega
            have := Nat.div_lt_of_lt_mul this
            omega
          · rw [a6x, hx, a0w, a0w, Nat.pow_succ]
            exact b9l (i := 0) hv
        by_cases hib : i < b.length
        · have hib' : (i : Int) < (b.length : Int) := by omega
          simp only [hib', E1, Nat.reduceAdd, Nat.reduceEqDiff, reduceCtorEq, ↓reduceIte]
          refine Safe.region ?_
          have h3w : IntKind.wrap .u64 ((b.getD i 0 : Nat) : Int) = ((b.getD i 0 : Nat) : Int) := a0E (by omega) (by omega)
          have h4w : IntKind.wrap .u64 (((c + a.getD i 0 : Nat) : Int) + ((b.getD i 0 : Nat) : Int)) = ((c + a.getD i 0 + b.getD i 0 : Nat) : Int) := by rw [a0E] <;> omega
          simp only [b3X, E1, Nat.reduceAdd, Nat.reduceEqDiff, reduceCtorEq, ↓reduceIte, a1H _ b _ i hib, h3w, h4w]
          exact rest _ (by simp only [E1, Nat.reduceAdd, Nat.reduceEqDiff, reduceCtorEq, ↓reduceIte]) (by simp only [E1, Nat.reduceAdd, Nat.reduceEqDiff, reduceCtorEq, ↓reduceIte]) (by simp only [E1, Nat.reduceAdd, Nat.reduceEqDiff, reduceCtorEq, ↓reduceIte]) (by simp only [E1, Nat.reduceAdd, Nat.reduceEqDiff, reduceCtorEq, ↓reduceIte]) (by simp only [E1, Nat.reduceAdd, Nat.reduceEqDiff, reduceCtorEq, ↓reduceIte]) (by simp only [E1, Nat.reduceAdd, Nat.reduceEqDiff, reduceCtorEq, ↓reduceIte]) (by simp only [E1, Nat.reduceAdd, Nat.reduceEqDiff, reduceCtorEq, ↓reduceIte])
        · have hib' : ¬ (i : Int) < (b.length : Int) := by omega
          simp only [hib', E1, Nat.reduceAdd, Nat.reduceEqDiff, reduceCtorEq, ↓reduceIte]
          have hz : b.getD i 0 = 0 := by rw [List.getD_eq_getElem?_getD, List.getElem?_eq_none (by omega)]; rfl
          refine Safe.skip (rest _ (by simp only [E1, Nat.reduceAdd, Nat.reduceEqDiff, reduceCtorEq, ↓reduceIte]) (by simp only [E1, Nat.reduceAdd, Nat.reduceEqDiff, reduceCtorEq, ↓reduceIte]) (by simp only [E1, Nat.reduceAdd, Nat.reduceEqDiff, reduceCtorEq, ↓reduceIte]) (by simp only [E1, Nat.reduceAdd, Nat.reduceEqDiff, reduceCtorEq, ↓reduceIte, hz]) (by simp only [E1, Nat.reduceAdd, Nat.reduceEqDiff, reduceCtorEq, ↓reduceIte]) (by simp only [E1, Nat.reduceAdd, Nat.reduceEqDiff, reduceCtorEq, ↓reduceIte]) (by simp only [E1, Nat.reduceAdd, Nat.reduceEqDiff, reduceCtorEq, ↓reduceIte]))
    refine Safe.keep [0, 1, 5, 6, 20, 21] ?_
    simp only [E1, Nat.reduceAdd, Nat.reduceEqDiff, reduceCtorEq, ↓reduceIte, h0, h1]
    exact key a.length 0 0 [] (by omega) rfl c1T (by omega) (by simp [val])
  refine Safe.seq (Safe.seq (Safe.region ?_))
  simp only [b5w, E1, Nat.reduceAdd, Nat.reduceEqDiff, reduceCtorEq, ↓reduceIte]
  refine Safe.cond ?_
  simp only [E1, Nat.reduceAdd, Nat.reduceEqDiff, reduceCtorEq, ↓reduceIte]
  by_cases hlt : a.length < b.length
  · have hlt' : (a.length : Int) < (b.length : Int) := by omega
    simp only [hlt', E1, Nat.reduceAdd, Nat.reduceEqDiff, reduceCtorEq, ↓reduceIte]
    refine Safe.region ?_
    simp only [b5v, E1, Nat.reduceAdd, Nat.reduceEqDiff, reduceCtorEq, ↓reduceIte]
    exact main b a _ _ lb la (by omega) hb (Nat.add_comm _ _) (by simp only [E1, Nat.reduceAdd, Nat.reduceEqDiff, reduceCtorEq, ↓reduceIte]) (by simp only [E1, Nat.reduceAdd, Nat.reduceEqDiff, reduceCtorEq, ↓reduceIte])
  · have hlt' : ¬ (a.length : Int) < (b.length : Int) := by omega
    simp only [hlt', E1, Nat.reduceAdd, Nat.reduceEqDiff, reduceCtorEq, ↓reduceIte]
    exact Safe.skip (main a b _ _ la lb (by omega) ha rfl (by simp only [E1, Nat.reduceAdd, Nat.reduceEqDiff, reduceCtorEq, ↓reduceIte]) (by simp only [E1, Nat.reduceAdd, Nat.reduceEqDiff, reduceCtorEq, ↓reduceIte]))
theorem b9n (w r : List Nat) (k d : Nat) (h : k < w.length) : (w ++ r).set k d = w.set k d ++ r := List.set_append_left _ _ h
theorem b7P (w r : List Nat) (k : Nat) (h : k < w.length) : (w ++ r).getD k 0 = w.getD k 0 := by
  simp [List.getElem?_append_left h]
theorem b8t (a b : List Nat) (ha : Nt a) (hb : Nt b) (hab : a.length + b.length ≤ 17592186044416) : a0o Pr a6o [natV a, natV b] (natV (limbs (val a * val b))) := by
  refine a0o.intro c0u c0t (by simp only [List.length_cons, List.length_nil]; omega) (a3w _) fun H hH => ?_
  refine Safe.seq (Safe.region ?_)
  have hLB : LB = 4294967296 := rfl
  simp only [b5p, E1, Nat.reduceAdd, Nat.reduceEqDiff, reduceCtorEq, ↓reduceIte]
  refine Safe.seq (Safe.region ?_)
  simp only [b5o, E1, Nat.reduceAdd, Nat.reduceEqDiff, reduceCtorEq, ↓reduceIte]
  refine (a9I a ha.lim ha.len).acall ?_
  try simp only [E1, Nat.reduceAdd, Nat.reduceEqDiff, reduceCtorEq, ↓reduceIte]
  refine (a9I b hb.lim hb.len).acall ?_
  try simp only [E1, Nat.reduceAdd, Nat.reduceEqDiff, reduceCtorEq, ↓reduceIte]
  have la := a4I (val a)
  have lb := a4I (val b)
  have va := a1c (val a)
  have vb := a1c (val b)
  have hA := a6U ha.lim
  have hB := a6U hb.lim
  generalize limbs (val a) = A at la va hA ⊢
  generalize limbs (val b) = B at lb vb hB ⊢
  refine Safe.keep [0, 1] (Safe.seq (Safe.region ?_))
  have hw : IntKind.wrap .i64 ((A.length : Int) + (B.length : Int)) = ((A.length + B.length : Nat) : Int) := by rw [a0g] <;> omega
  simp only [b5n, E1, Nat.reduceAdd, Nat.reduceEqDiff, reduceCtorEq, ↓reduceIte, hw, b0C _ H [] _ _ (A.length + B.length) (by omega)]
  refine Safe.seq (Safe.seq (Safe.region ?_))
  simp only [b5m, E1, Nat.reduceAdd, Nat.reduceEqDiff, reduceCtorEq, ↓reduceIte]
  refine Safe.block (Safe.loop ?_)
  -- the inner loop
  have inner : ∀ (todo : List AItem) (i x : Nat) (z vx : Nat), i < A.length → x = A.getD i 0 → 
      (∀ (w : List Nat) (c : Nat) (env : Env), w.length = i + B.length → Lim w → c < LB → val w + LB ^ (i + B.length) * c = vx + LB ^ i * (x * val B) →
        look env 0 = natV A → look env 1 = natV B → look env 5 = .mu (lid H 0) 0 (A.length + B.length) (some (A.length + B.length)) → look env 6 = .int .i64 i → look env 7 = .int .u64 c → look env 20 = .int .i64 A.length → look env 21 = .int .i64 i →
        Safe ⟨Pr, fun _ _ => false, a6o, 71, [.tmp 4], H.length⟩ todo env (hap H [some ⟨1, u32s (w ++ List.replicate z 0)⟩]) fun r' H' => r' = natV (limbs (val a * val b)) ∧ ∃ L, H' = hap H L) →
      ∀ (k j c : Nat) (w : List Nat), j + k = B.length → w.length = i + B.length → Lim w → c < LB → val w + LB ^ (i + j) * c = vx + LB ^ i * (x * val (B.take j)) →
        Safe ⟨Pr, fun _ _ => false, a6o, 71, [.tmp 4], H.length⟩ (.inLoop b5q :: .inBlock 2 :: todo)
          [(0, natV A), (1, natV B), (5, .mu (lid H 0) 0 (A.length + B.length) (some (A.length + B.length))), (6, .int .i64 i), (7, .int .u64 c), (20, .int .i64 A.length), (21, .int .i64 i), (25, .int .i64 B.length), (26, .int .i64 j)]
          (hap H [some ⟨1, u32s (w ++ List.replicate z 0)⟩]) fun r' H' => r' = natV (limbs (val a * val b)) ∧ ∃ L, H' = hap H L := by
    intro todo i x z vx hi hx hk k
    induction k with
    | zero =>
      intro j c w hjk hw lw hc hv
      have hj : j = B.length := by omega
      subst hj
      refine Safe.inLoop (Safe.seq (Safe.region ?_))
      simp only [b1b, E1, Nat.reduceAdd, Nat.reduceEqDiff, reduceCtorEq, ↓reduceIte]
      refine Safe.seq (Safe.cond ?_)
      simp only [E1, Nat.reduceAdd, Nat.reduceEqDiff, reduceCtorEq, ↓reduceIte, Int.lt_irrefl]
      refine Safe.exit rfl ?_
      rw [List.take_length] at hv
      exact hk w c _ hw lw hc hv (by simp only [E1, Nat.reduceAdd, Nat.reduceEqDiff, reduceCtorEq, ↓reduceIte]) (by simp only [E1, Nat.reduceAdd, Nat.reduceEqDiff, reduceCtorEq, ↓reduceIte]) (by simp only [E1, Nat.reduceAdd, Nat.reduceEqDiff, reduceCtorEq, ↓reduceIte]) (by simp only [E1, Nat.reduceAdd, Nat.reduceEqDiff, reduceCtorEq, ↓reduceIte]) (by simp only [E1, Nat.reduceAdd, Nat.reduceEqDiff, reduceCtorEq, ↓reduceIte]) (by simp only [E1, Nat.reduceAdd, Nat.reduceEqDiff, reduceCtorEq, ↓reduceIte]) (by simp only [E1, Nat.reduceAdd, Nat.reduceEqDiff, reduceCtorEq, ↓reduceIte])
    | succ k ih =>
      intro j c w hjk hw lw hc hv
      refine Safe.inLoop (Safe.seq (Safe.region ?_))
      simp only [b1b, E1, Nat.reduceAdd, Nat.reduceEqDiff, reduceCtorEq, ↓reduceIte]
      refine Safe.seq (Safe.cond ?_)
      have hlt : (j : Int) < (B.length : Int) := by omega
      simp only [E1, Nat.reduceAdd, Nat.reduceEqDiff, reduceCtorEq, ↓reduceIte, hlt]
      refine Safe.skip (Safe.seq (Safe.block (Safe.seq (Safe.region ?_))))
      simp only [b5i, E1, Nat.reduceAdd, Nat.reduceEqDiff, reduceCtorEq, ↓reduceIte]
      refine Safe.seq (Safe.regionD ?_)
      have xa := a4N la i
      have xb := a4N lb j
      have xw := a4N lw (i + j)
      have hfit := b9t hc xa xb xw
      have hLL : LB * LB = 18446744073709551616 := by decide
      have h1w : IntKind.wrap .u64 ((A.getD i 0 : Nat) : Int) = ((A.getD i 0 : Nat) : Int) := a0E (by omega) (by omega)
      have h2w : IntKind.wrap .u64 ((B.getD j 0 : Nat) : Int) = ((B.getD j 0 : Nat) : Int) := a0E (by omega) (by omega)
      have h3w : IntKind.wrap .u64 ((w.getD (i + j) 0 : Nat) : Int) = ((w.getD (i + j) 0 : Nat) : Int) := a0E (by omega) (by omega)
      have h4w : IntKind.wrap .u64 (((A.getD i 0 : Nat) : Int) * ((B.getD j 0 : Nat) : Int)) = ((A.getD i 0 * B.getD j 0 : Nat) : Int) := by rw [← Int.natCast_mul, a0E] <;> omega
      have h5w : IntKind.wrap .u64 (((A.getD i 0 * B.getD j 0 : Nat) : Int) + ((w.getD (i + j) 0 : Nat) : Int)) = ((A.getD i 0 * B.getD j 0 + w.getD (i + j) 0 : Nat) : Int) := by rw [a0E] <;> omega
      have h6w : IntKind.wrap .u64 ((c : Int) + ((A.getD i 0 * B.getD j 0 + w.getD (i + j) 0 : Nat) : Int)) = ((c + A.getD i 0 * B.getD j 0 + w.getD (i + j) 0 : Nat) : Int) := by rw [a0E] <;> omega
      have h7w : IntKind.wrap .i64 ((i : Int) + (j : Int)) = ((i + j : Nat) : Int) := by rw [a0g] <;> omega
      simp only [b3W, E1, Nat.reduceAdd, Nat.reduceEqDiff, reduceCtorEq, ↓reduceIte, a1H _ A _ i hi, a1H _ B _ j (by omega), h1w, h2w, h3w, h4w, h7w, a7U _ _ _ _ _ _ (i + j) (show i + j < A.length + B.length by omega), c4M _ _ (i + j) (show i + j < (w ++ List.replicate z 0).length by simp [hw]; omega),
        b7P w _ (i + j) (show i + j < w.length by omega), h5w, h6w]
      refine Safe.seq (Safe.region ?_)
      have hcw : IntKind.wrap .u32 ((c + A.getD i 0 * B.getD j 0 + w.getD (i + j) 0 : Nat) : Int) = (((c + A.getD i 0 * B.getD j 0 + w.getD (i + j) 0) % LB : Nat) : Int) := b1G _
      simp only [b3V, E1, Nat.reduceAdd, Nat.reduceEqDiff, reduceCtorEq, ↓reduceIte, h7w, hcw, a7U _ _ _ _ _ _ (i + j) (show i + j < A.length + B.length by omega), b5h _ _ _ (i + j) _ (show i + j < (w ++ List.replicate z 0).length by simp [hw]; omega), b9n w _ (i + j) _ (show i + j < w.length by omega)]
      refine Safe.region ?_
      simp only [b3U, E1, Nat.reduceAdd, Nat.reduceEqDiff, reduceCtorEq, ↓reduceIte, b6Q _ _ _ (show (0 : Int) ≤ 32 by decide), c7G]
      refine Safe.inBlock (Safe.region ?_)
      have hiw : IntKind.wrap .i64 ((j : Int) + 1) = ((j + 1 : Nat) : Int) := by rw [a0g] <;> omega
      simp only [b3T, E1, Nat.reduceAdd, Nat.reduceEqDiff, reduceCtorEq, ↓reduceIte, hiw]
      refine Safe.keep [0, 1, 5, 6, 7, 20, 21, 25, 26] ?_
      simp only [E1, Nat.reduceAdd, Nat.reduceEqDiff, reduceCtorEq, ↓reduceIte]
      refine ih (j + 1) _ _ (by omega) (by simp [hw]) (c1S lw (Nat.mod_lt _ (by decide))) ?_ ?_
      · exact Nat.div_lt_of_lt_mul hfit
      · rw [a0w, show i + (j + 1) = (i + j) + 1 by omega, Nat.pow_succ]
        subst hx
        exact b9s (Nat.pow_add LB i j) hv (c0Y (by omega)) rfl
  have outer : ∀ (k i : Nat) (x : List Nat), i + k = A.length → x.length = i + B.length → Lim x → val x = val (A.take i) * val B →
        Safe ⟨Pr, fun _ _ => false, a6o, 71, [.tmp 4], H.length⟩ [.inLoop b5r, .inBlock 0, .code ((ACode.region a9o false).seq .ret)]
          [(0, natV A), (1, natV B), (5, .mu (lid H 0) 0 (A.length + B.length) (some (A.length + B.length))), (20, .int .i64 A.length), (21, .int .i64 i)]
          (hap H [some ⟨1, u32s (x ++ List.replicate k 0)⟩]) fun r' H' => r' = natV (limbs (val a * val b)) ∧ ∃ L, H' = hap H L := by
    intro k
    induction k with
    | zero =>
      intro i x hik hx lx hv
      have hi : i = A.length := by omega
      subst hi
      refine Safe.inLoop (Safe.seq (Safe.region ?_))
      simp only [b1c, E1, Nat.reduceAdd, Nat.reduceEqDiff, reduceCtorEq, ↓reduceIte]
      refine Safe.seq (Safe.cond ?_)
      simp only [E1, Nat.reduceAdd, Nat.reduceEqDiff, reduceCtorEq, ↓reduceIte, Int.lt_irrefl]
      refine Safe.exit rfl ?_
      simp only [List.replicate_zero, List.append_nil]
      refine Safe.freeze 0 (b := ⟨1, u32s x⟩) hH rfl rfl (a2B _) ?_
      refine Safe.seq (Safe.region ?_)
      simp only [a9o, E1, Nat.reduceAdd, Nat.reduceEqDiff, reduceCtorEq, ↓reduceIte, ← hx]
      refine (a9I x lx (by omega)).acall ?_
      try simp only [E1, Nat.reduceAdd, Nat.reduceEqDiff, reduceCtorEq, ↓reduceIte]
      refine Safe.retn ?_
      simp only [E1, Nat.reduceAdd, Nat.reduceEqDiff, reduceCtorEq, ↓reduceIte]
      rw [List.take_length] at hv
      rw [hv, va, vb]
      first | exact ⟨rfl, _, rfl⟩ | exact ⟨_, rfl⟩ | exact ⟨trivial, _, rfl⟩
    | succ k ih =>
      intro i x hik hx lx hv
      refine Safe.inLoop (Safe.seq (Safe.region ?_))
      simp only [b1c, E1, Nat.reduceAdd, Nat.reduceEqDiff, reduceCtorEq, ↓reduceIte]
      refine Safe.seq (Safe.cond ?_)
      have hlt : (i : Int) < (A.length : Int) := by omega
      simp only [E1, Nat.reduceAdd, Nat.reduceEqDiff, reduceCtorEq, ↓reduceIte, hlt]
      refine Safe.skip (Safe.seq (Safe.block (Safe.seq (Safe.region ?_))))
      simp only [b5l, E1, Nat.reduceAdd, Nat.reduceEqDiff, reduceCtorEq, ↓reduceIte]
      refine Safe.seq (Safe.region ?_)
      simp only [b5k, E1, Nat.reduceAdd, Nat.reduceEqDiff, reduceCtorEq, ↓reduceIte]
      refine Safe.seq (Safe.seq (Safe.region ?_))
      simp only [b5j, E1, Nat.reduceAdd, Nat.reduceEqDiff, reduceCtorEq, ↓reduceIte]
      refine Safe.block (Safe.loop ?_)
      refine Safe.keep [0, 1, 5, 6, 7, 20, 21, 25, 26] ?_
      simp only [E1, Nat.reduceAdd, Nat.reduceEqDiff, reduceCtorEq, ↓reduceIte]
      refine inner _ i _ (k + 1) (val x) (by omega) rfl ?_ B.length 0 0 x (by omega) hx lx (by decide) (by simp [val])
      intro w c env hw lw hc hv2 e0 e1 e5 e6 e7 e20 e21
      refine Safe.region ?_
      have h7w : IntKind.wrap .i64 ((i : Int) + (B.length : Int)) = ((i + B.length : Nat) : Int) := by rw [a0g] <;> omega
      have hcw : IntKind.wrap .u32 (c : Int) = (c : Int) := a6w (by omega) (by omega)
      simp only [b3S, E1, Nat.reduceAdd, Nat.reduceEqDiff, reduceCtorEq, ↓reduceIte, e0, e1, e5, e6, e7, h7w, hcw, a7U _ _ _ _ _ _ (i + B.length) (show i + B.length < A.length + B.length by omega), b5h _ _ _ (i + B.length) _ (show i + B.length < (w ++ List.replicate (k + 1) 0).length by simp [hw])]
      refine Safe.inBlock (Safe.region ?_)
      have hiw : IntKind.wrap .i64 ((i : Int) + 1) = ((i + 1 : Nat) : Int) := by rw [a0g] <;> omega
      simp only [b3R, E1, Nat.reduceAdd, Nat.reduceEqDiff, reduceCtorEq, ↓reduceIte, e21, hiw]
      refine Safe.keep [0, 1, 5, 20, 21] ?_
      simp only [E1, Nat.reduceAdd, Nat.reduceEqDiff, reduceCtorEq, ↓reduceIte, e0, e1, e5, e20]
      have hset : (w ++ List.replicate (k + 1) 0).set (i + B.length) c = (w ++ [c]) ++ List.replicate k 0 := by rw [← hw]; exact b5S _ _ _
      rw [hset]
      refine ih (i + 1) _ (by omega) (by simp [hw]; omega) (a2c lw hc) ?_
      rw [a6x, hw, hv2, a0w, hv, Nat.add_mul, Nat.mul_assoc]
  refine Safe.keep [0, 1, 5, 20, 21] ?_
  simp only [E1, Nat.reduceAdd, Nat.reduceEqDiff, reduceCtorEq, ↓reduceIte]
  have := outer A.length 0 (List.replicate B.length 0) (by omega) (by simp) (by intro d hd; simp at hd; omega) (by simp [a9H, val])
  rw [List.replicate_append_replicate, Nat.add_comm B.length] at this
  exact this
end Go.Abs
namespace Go.Abs
theorem a7G (l : List Nat) (hl : Nt l) : a0o Pr a0W [natV l] (natV (limbs (val l))) := by
  refine a0o.intro b6j b6i (by simp only [List.length_cons, List.length_nil]; omega) (a3w _) fun H hH => ?_
  have hll := hl.len
  refine Safe.seq (Safe.region ?_)
  simp only [b0u, E1, seval]
  refine Safe.seq (Safe.region ?_)
  simp only [b0t, E1, seval]
  refine Safe.seq (Safe.block (Safe.loop ?_))
  -- the copy
  have copy : ∀ (n : Nat), n ≤ l.length → limbs (val l) = l.take n → ∀ env : Env, look env 0 = natV l → look env 3 = .int .i64 n →
      Safe ⟨Pr, fun _ _ => false, a0W, 33, [.tmp 2], H.length⟩ [.code ((ACode.region a4a false).seq (((ACode.region a3Z false).seq (.block 2 (.loop a4b))).seq ((ACode.region a2p false).seq .ret)))]
        env (hap H []) fun r' H' => r' = natV (limbs (val l)) ∧ ∃ L, H' = hap H L := by
    intro n hn hlim env e0 e3
    refine Safe.seq (Safe.region ?_)
    simp only [a4a, E1, seval]
    refine Safe.seq (Safe.seq (Safe.region ?_))
    simp only [a3Z, E1, seval]
    refine Safe.nilrow 4 1 (by decide) (by simp only [E1, seval]) ?_
    refine Safe.block (Safe.loop ?_)
    have key : ∀ (k i : Nat), i + k = n → Safe ⟨Pr, fun _ _ => false, a0W, 33, [.tmp 2], H.length⟩ [.inLoop a4b, .inBlock 2, .code ((ACode.region a2p false).seq .ret)]
        [(0, natV l), (3, .int .i64 n), (4, .mu (lid H 0) 0 (l.take i).length none), (5, .int .i64 i)] (hap H [some ⟨1, u32s (l.take i)⟩]) fun r' H' => r' = natV (limbs (val l)) ∧ ∃ L, H' = hap H L := by
      intro k
      induction k with
      | zero =>
        intro i hi
        have hi : i = n := by omega
        subst hi
        refine Safe.inLoop (Safe.seq (Safe.seq (Safe.region ?_)))
        simp only [a6M, E1, seval, Int.lt_irrefl]
        refine Safe.cond ?_
        simp only [E1, seval]
        refine Safe.exit rfl ?_
        refine Safe.freeze 0 (b := ⟨1, u32s (l.take i)⟩) hH rfl rfl (a2B _) ?_
        refine Safe.seq (Safe.region ?_)
        simp only [a2p, E1, seval]
        refine Safe.retn ?_
        simp only [E1, seval, hlim]
        first | exact ⟨rfl, _, rfl⟩ | exact ⟨_, rfl⟩ | exact ⟨trivial, _, rfl⟩
      | succ k ih =>
        intro i hi
        refine Safe.inLoop (Safe.seq (Safe.seq (Safe.region ?_)))
        have hlt : (i : Int) < (n : Int) := by omega
        simp only [a6M, E1, seval, hlt]
        refine Safe.cond ?_
        simp only [E1, seval]
        refine Safe.skip (Safe.seq (Safe.block (Safe.region ?_)))
        simp only [b0r, E1, seval, a1H _ l _ i (by omega), b8s H hH _ (a7Z H 0) _ (l.take i) (l.getD i 0) (by rw [List.length_take]; omega)]
        refine Safe.inBlock (Safe.region ?_)
        have hiw : IntKind.wrap .i64 ((i : Int) + 1) = ((i + 1 : Nat) : Int) := by rw [a0g] <;> omega
        simp only [b0q, E1, seval, hiw]
        refine Safe.keep [0, 3, 4, 5] ?_
        simp only [E1, seval, b7l]
        have := ih (i + 1) (by omega)
        rw [a9J (by omega)] at this
        simpa only [List.length_append, List.length_cons, List.length_nil] using this
    refine Safe.keep [0, 3, 4, 5] ?_
    simp only [E1, seval, e0, e3]
    exact key n 0 (by omega)
  have key : ∀ (n : Nat), n ≤ l.length → val (l.take n) = val l → ∀ env : Env, look env 0 = natV l → look env 3 = .int .i64 n →
      Safe ⟨Pr, fun _ _ => false, a0W, 33, [.tmp 2], H.length⟩ [.inLoop b0v, .inBlock 0, .code ((ACode.region a4a false).seq (((ACode.region a3Z false).seq (.block 2 (.loop a4b))).seq ((ACode.region a2p false).seq .ret)))]
        env (hap H []) fun r' H' => r' = natV (limbs (val l)) ∧ ∃ L, H' = hap H L := by
    intro n
    induction n with
    | zero =>
      intro hn hv env e0 e3
      refine Safe.inLoop (Safe.seq (Safe.seq (Safe.region ?_)))
      simp only [a6N, E1, seval, e0, e3, Int.natCast_zero, Int.lt_irrefl]
      refine Safe.cond ?_
      simp only [E1, seval]
      refine Safe.exit rfl (copy 0 hn ?_ _ (by simp only [E1, seval, e0]) (by simp only [E1, seval, e3] <;> rfl))
      rw [← hv]; simp [val, a0y]
    | succ n ih =>
      intro hn hv env e0 e3
      refine Safe.inLoop (Safe.seq (Safe.seq (Safe.region ?_)))
      have h0 : (0 : Int) < ((n + 1 : Nat) : Int) := by omega
      have hw : IntKind.wrap .i64 (((n + 1 : Nat) : Int) - 1) = (n : Int) := by rw [a0g] <;> omega
      simp only [a6N, E1, seval, e0, e3, h0, hw, a1H _ l _ n (by omega)]
      refine Safe.cond ?_
      simp only [E1, seval]
      by_cases hd : l.getD n 0 = 0
      · simp only [hd, Int.natCast_zero, E1, seval]
        refine Safe.skip (Safe.block (Safe.region ?_))
        simp only [b0s, E1, seval, e3, hw]
        refine Safe.inBlock (ih (by omega) ?_ _ (by simp only [E1, seval, e0]) (by simp only [E1, seval]))
        rw [← hv, a0w, hd]; simp
      · have hd' : ¬ (((l.getD n 0 : Nat) : Int) = 0) := by omega
        simp only [hd', E1, seval]
        refine Safe.exit rfl (copy (n + 1) hn ?_ _ (by simp only [E1, seval, e0]) (by simp only [E1, seval, e3]))
        rw [← hv, a5X (hl.lim.take _)]
        rw [a9J (by omega)]; simpa using hd
  exact key l.length (Nat.le_refl _) (by rw [List.take_length]) _ (by simp only [E1, seval]) (by simp only [E1, seval])
theorem b7x (l : List Nat) (i : Nat) (hl : Lim l) (hb : l.length ≤ 17592186044416) : a0o Pr a5i [natV l, .int .i64 i] (.int .u64 (l.getD i 0 : Nat)) := by
  refine a0o.intro b6g b6f (by simp only [List.length_cons, List.length_nil]; omega) (.int _ _) fun H hH => ?_
  have hd := a4N hl i
  have hLB : LB = 4294967296 := rfl
  refine Safe.seq (Safe.region ?_)
  simp only [b0h, E1, seval]
  refine Safe.seq (Safe.seq (Safe.region ?_))
  simp only [b0g, E1, seval]
  refine Safe.cond ?_
  simp only [E1, seval]
  by_cases h : i < l.length
  · have h' : (i : Int) < (l.length : Int) := by omega
    simp only [h', E1, seval]
    refine Safe.seq (Safe.region ?_)
    simp only [b0f, E1, seval, a1H _ l _ i h, a0E (n := ((l.getD i 0 : Nat) : Int)) (by omega) (by omega)]
    refine Safe.retn ?_
    simp only [E1, seval]
    first | exact ⟨rfl, _, rfl⟩ | exact ⟨_, rfl⟩ | exact ⟨trivial, _, rfl⟩
  · have h' : ¬ (i : Int) < (l.length : Int) := by omega
    simp only [h', E1, seval]
    refine Safe.skip (Safe.seq (Safe.region ?_))
    simp only [b0e, E1, seval]
    refine Safe.retn ?_
    simp only [E1, seval]
    rw [c3H (by omega)]
    first | exact ⟨rfl, _, rfl⟩ | exact ⟨_, rfl⟩ | exact ⟨trivial, _, rfl⟩
theorem b7m (a b : Nat) : a0o Pr a8u [.int .i64 a, .int .i64 b] (.int .i64 (max a b : Nat)) := by
  refine a0o.intro b6e b6d (by simp only [List.length_cons, List.length_nil]; omega) (.int _ _) fun H hH => ?_
  refine Safe.seq (Safe.region ?_)
  simp only [b0d, E1, seval]
  refine Safe.seq (Safe.seq (Safe.region ?_))
  simp only [b0c, E1, seval]
  refine Safe.cond ?_
  simp only [E1, seval]
  by_cases h : b < a
  · have h' : (b : Int) < (a : Int) := by omega
    simp only [h', E1, seval]
    refine Safe.seq (Safe.region ?_)
    simp only [b0b, E1, seval]
    refine Safe.retn ?_
    simp only [E1, seval]
    rw [Nat.max_eq_left (by omega)]
    first | exact ⟨rfl, _, rfl⟩ | exact ⟨_, rfl⟩ | exact ⟨trivial, _, rfl⟩
  · have h' : ¬ (b : Int) < (a : Int) := by omega
    simp only [h', E1, seval]
    refine Safe.skip (Safe.seq (Safe.region ?_))
    simp only [b0a, E1, seval]
    refine Safe.retn ?_
    simp only [E1, seval]
    rw [Nat.max_eq_right (by omega)]
    first | exact ⟨rfl, _, rfl⟩ | exact ⟨_, rfl⟩ | exact ⟨trivial, _, rfl⟩
theorem b8p (a b : List Nat) (la : Lim a) (lb : Lim b) (ha : a.length < 17592186044416) (hb : b.length < 17592186044416) : a0o Pr a6Y [natV a, natV b] (natV (limbs (val a + val b))) := by
  refine a0o.intro b7g b7f (by simp only [List.length_cons, List.length_nil]; omega) (a3w _) fun H hH => ?_
  have hLB : LB = 4294967296 := rfl
  refine Safe.seq (Safe.region ?_)
  simp only [b2g, E1, seval]
  refine Safe.seq (Safe.region ?_)
  simp only [b2f, E1, seval]
  refine Safe.seq (Safe.region ?_)
  simp only [b2e, E1, seval]
  refine Safe.seq (Safe.seq (Safe.region ?_))
  simp only [b2d, E1, seval]
  refine Safe.nilrow 5 1 (by decide) (by simp only [E1, seval]) ?_
  refine Safe.block (Safe.loop ?_)
  have hm : max a.length b.length < 17592186044416 := Nat.max_lt.2 ⟨ha, hb⟩
  have m1 := Nat.le_max_left a.length b.length
  have m2 := Nat.le_max_right a.length b.length
  generalize hM : max a.length b.length = M at hm m1 m2
  have key : ∀ (k i c : Nat) (x : List Nat), i + k = M → x.length = i → Lim x → c ≤ 1 → val x + LB ^ i * c = val (a.take i) + val (b.take i) →
      Safe ⟨Pr, fun _ _ => false, a6Y, 41, [.tmp 4], H.length⟩ [.inLoop b2h, .inBlock 0, .code ((ACode.region a7Q false).seq ((ACode.region a6P false).seq .ret))]
        [(0, natV a), (1, natV b), (5, .mu (lid H 0) 0 x.length none), (6, .int .u64 c), (7, .int .i64 i)] (hap H [some ⟨1, u32s x⟩]) fun r' H' => r' = natV (limbs (val a + val b)) ∧ ∃ L, H' = hap H L := by
    intro k
    induction k with
    | zero =>
      intro i c x hik hx lx hc hv
      refine Safe.inLoop (Safe.seq (Safe.seq (Safe.region ?_)))
      simp only [a7R, E1, seval]
      refine (b7m _ _).acall ?_
      have : ¬ (i : Int) < (M : Int) := by omega
      rw [hM]
      simp only [E1, seval, this]
      refine Safe.cond ?_
      simp only [E1, seval]
      refine Safe.exit rfl (Safe.seq (Safe.region ?_))
      simp only [a7Q, E1, seval, a6w (n := (c : Int)) (by omega) (by omega), b8s H hH _ (a7Z H 0) _ x c (by omega)]
      have hlen : x.length + 1 = (x ++ [c]).length := by simp
      refine Safe.freeze 0 (b := ⟨1, u32s (x ++ [c])⟩) hH rfl rfl (a2B _) ?_
      refine Safe.seq (Safe.region ?_)
      simp only [a6P, E1, seval, hlen]
      refine (a7G (x ++ [c]) ⟨a2c lx (by omega), by simp; omega⟩).acall ?_
      try simp only [E1, seval]
      refine Safe.retn ?_
      simp only [E1, seval]
      rw [List.take_of_length_le (by omega), List.take_of_length_le (by omega)] at hv
      rw [a6x, hx, hv]
      first | exact ⟨rfl, _, rfl⟩ | exact ⟨_, rfl⟩ | exact ⟨trivial, _, rfl⟩
    | succ k ih =>
      intro i c x hik hx lx hc hv
      refine Safe.inLoop (Safe.seq (Safe.seq (Safe.region ?_)))
      simp only [a7R, E1, seval]
      refine (b7m _ _).acall ?_
      have : (i : Int) < (M : Int) := by omega
      rw [hM]
      simp only [E1, seval, this]
      refine Safe.cond ?_
      simp only [E1, seval]
      refine Safe.skip (Safe.seq (Safe.block (Safe.seq (Safe.region ?_))))
      simp only [b2c, E1, seval]
      have xa := a4N la i
      have xb := a4N lb i
      refine (b7x a i la (by omega)).acall ?_
      have w1 : IntKind.wrap .u64 ((c : Int) + ((a.getD i 0 : Nat) : Int)) = ((c + a.getD i 0 : Nat) : Int) := by rw [a0E] <;> omega
      simp only [E1, seval, w1]
      refine (b7x b i lb (by omega)).acall ?_
      have w2 : IntKind.wrap .u64 (((c + a.getD i 0 : Nat) : Int) + ((b.getD i 0 : Nat) : Int)) = ((c + a.getD i 0 + b.getD i 0 : Nat) : Int) := by rw [a0E] <;> omega
      simp only [E1, seval, w2]
      refine Safe.seq (Safe.region ?_)
      have hmod := Nat.mod_lt (c + a.getD i 0 + b.getD i 0) (show 0 < LB by decide)
      have w3 : IntKind.wrap .u32 (((c + a.getD i 0 + b.getD i 0) % LB : Nat) : Int) = (((c + a.getD i 0 + b.getD i 0) % LB : Nat) : Int) := a6w (by omega) (by omega)
      simp only [b2b, E1, seval, c4I, w3, b8s H hH _ (a7Z H 0) _ x _ (show x.length < 35184372088832 by omega)]
      refine Safe.region ?_
      simp only [b2a, E1, seval, c4L _ (show c + a.getD i 0 + b.getD i 0 < 18446744073709551616 by omega)]
      refine Safe.inBlock (Safe.region ?_)
      have hiw : IntKind.wrap .i64 ((i : Int) + 1) = ((i + 1 : Nat) : Int) := by rw [a0g] <;> omega
      simp only [b1Z, E1, seval, hiw]
      refine Safe.keep [0, 1, 5, 6, 7] ?_
      simp only [E1, seval]
      have hlen : x.length + 1 = (x ++ [(c + a.getD i 0 + b.getD i 0) % LB]).length := by simp
      rw [hlen]
      refine ih (i + 1) _ _ (by omega) (by simp [hx]) (a2c lx hmod) ?_ ?_
      · have : c + a.getD i 0 + b.getD i 0 < LB * 2 := by omega
        have := Nat.div_lt_of_lt_mul this
        omega
      · rw [a6x, hx, a0w, a0w, Nat.pow_succ]
        exact b9l (i := 0) hv
  refine Safe.keep [0, 1, 5, 6, 7] ?_
  simp only [E1, seval]
  exact key M 0 0 [] (by omega) rfl c1T (by omega) (by simp [val])
theorem b8o (A B : List Nat) (ha : Nt A) (hb : Nt B) (hab : A.length + B.length ≤ 17592186044416) : a0o Pr a2C [natV A, natV B] (natV (limbs (val A * val B))) := by
  refine a0o.intro b7e b7d (by simp only [List.length_cons, List.length_nil]; omega) (a3w _) fun H hH => ?_
  have la := ha.lim
  have lb := hb.lim
  refine Safe.seq (Safe.region ?_)
  have hLB : LB = 4294967296 := rfl
  simp only [b1W, E1, seval]
  refine Safe.seq (Safe.region ?_)
  have hw : IntKind.wrap .i64 ((A.length : Int) + (B.length : Int)) = ((A.length + B.length : Nat) : Int) := by rw [a0g] <;> omega
  simp only [b1V, E1, seval, hw, b0C _ H [] _ _ (A.length + B.length) (by omega)]
  refine Safe.seq (Safe.seq (Safe.region ?_))
  simp only [b1U, E1, seval]
  refine Safe.block (Safe.loop ?_)
  have inner : ∀ (todo : List AItem) (i x : Nat) (z vx : Nat), i < A.length → x = A.getD i 0 → 
      (∀ (w : List Nat) (c : Nat) (env : Env), w.length = i + B.length → Lim w → c < LB → val w + LB ^ (i + B.length) * c = vx + LB ^ i * (x * val B) →
        look env 0 = natV A → look env 1 = natV B → look env 5 = .mu (lid H 0) 0 (A.length + B.length) (some (A.length + B.length)) → look env 6 = .int .i64 i → look env 7 = .int .u64 c →
        Safe ⟨Pr, fun _ _ => false, a2C, 68, [.tmp 4], H.length⟩ todo env (hap H [some ⟨1, u32s (w ++ List.replicate z 0)⟩]) fun r' H' => r' = natV (limbs (val A * val B)) ∧ ∃ L, H' = hap H L) →
      ∀ (k j c : Nat) (w : List Nat), j + k = B.length → w.length = i + B.length → Lim w → c < LB → val w + LB ^ (i + j) * c = vx + LB ^ i * (x * val (B.take j)) →
        Safe ⟨Pr, fun _ _ => false, a2C, 68, [.tmp 4], H.length⟩ (.inLoop b1X :: .inBlock 2 :: todo)
          [(0, natV A), (1, natV B), (5, .mu (lid H 0) 0 (A.length + B.length) (some (A.length + B.length))), (6, .int .i64 i), (7, .int .u64 c), (8, .int .i64 j)]
          (hap H [some ⟨1, u32s (w ++ List.replicate z 0)⟩]) fun r' H' => r' = natV (limbs (val A * val B)) ∧ ∃ L, H' = hap H L := by
    intro todo i x z vx hi hx hk k
    induction k with
    | zero =>
      intro j c w hjk hw lw hc hv
      have hj : j = B.length := by omega
      subst hj
      refine Safe.inLoop (Safe.seq (Safe.seq (Safe.region ?_)))
      simp only [a7O, E1, seval, Int.lt_irrefl]
      refine Safe.cond ?_
      simp only [E1, seval]
      refine Safe.exit rfl ?_
      rw [List.take_length] at hv
      exact hk w c _ hw lw hc hv (by simp only [E1, seval]) (by simp only [E1, seval]) (by simp only [E1, seval]) (by simp only [E1, seval]) (by simp only [E1, seval])
    | succ k ih =>
      intro j c w hjk hw lw hc hv
      refine Safe.inLoop (Safe.seq (Safe.seq (Safe.region ?_)))
      have hlt : (j : Int) < (B.length : Int) := by omega
      simp only [a7O, E1, seval, hlt]
      refine Safe.cond ?_
      simp only [E1, seval]
      refine Safe.skip (Safe.seq (Safe.block (Safe.seq (Safe.regionD ?_))))
      have xa := a4N la i
      have xb := a4N lb j
      have xw := a4N lw (i + j)
      have hfit := b9t hc xa xb xw
      have hLL : LB * LB = 18446744073709551616 := by decide
      have h1w : IntKind.wrap .u64 ((A.getD i 0 : Nat) : Int) = ((A.getD i 0 : Nat) : Int) := a0E (by omega) (by omega)
      have h2w : IntKind.wrap .u64 ((B.getD j 0 : Nat) : Int) = ((B.getD j 0 : Nat) : Int) := a0E (by omega) (by omega)
      have h3w : IntKind.wrap .u64 ((w.getD (i + j) 0 : Nat) : Int) = ((w.getD (i + j) 0 : Nat) : Int) := a0E (by omega) (by omega)
      have h4w : IntKind.wrap .u64 (((A.getD i 0 : Nat) : Int) * ((B.getD j 0 : Nat) : Int)) = ((A.getD i 0 * B.getD j 0 : Nat) : Int) := by rw [← Int.natCast_mul, a0E] <;> omega
      have h5w : IntKind.wrap .u64 ((c : Int) + ((w.getD (i + j) 0 : Nat) : Int)) = ((c + w.getD (i + j) 0 : Nat) : Int) := by rw [a0E] <;> omega
      have h6w : IntKind.wrap .u64 (((c + w.getD (i + j) 0 : Nat) : Int) + ((A.getD i 0 * B.getD j 0 : Nat) : Int)) = ((c + A.getD i 0 * B.getD j 0 + w.getD (i + j) 0 : Nat) : Int) := by rw [a0E] <;> omega
      have h7w : IntKind.wrap .i64 ((i : Int) + (j : Int)) = ((i + j : Nat) : Int) := by rw [a0g] <;> omega
      simp only [b1R, E1, seval, a1H _ A _ i hi, a1H _ B _ j (by omega), h1w, h2w, h3w, h4w, h7w, a7U _ _ _ _ _ _ (i + j) (show i + j < A.length + B.length by omega), c4M _ _ (i + j) (show i + j < (w ++ List.replicate z 0).length by simp [hw]; omega),
        b7P w _ (i + j) (show i + j < w.length by omega), h5w, h6w]
      refine Safe.seq (Safe.region ?_)
      have hmod := Nat.mod_lt (c + A.getD i 0 * B.getD j 0 + w.getD (i + j) 0) (show 0 < LB by decide)
      have hcw : IntKind.wrap .u32 (((c + A.getD i 0 * B.getD j 0 + w.getD (i + j) 0) % LB : Nat) : Int) = (((c + A.getD i 0 * B.getD j 0 + w.getD (i + j) 0) % LB : Nat) : Int) := a6w (by omega) (by omega)
      simp only [b1Q, E1, seval, h7w, c4I, hcw, a7U _ _ _ _ _ _ (i + j) (show i + j < A.length + B.length by omega), b5h _ _ _ (i + j) _ (show i + j < (w ++ List.replicate z 0).length by simp [hw]; omega), b9n w _ (i + j) _ (show i + j < w.length by omega)]
      refine Safe.region ?_
      simp only [b1P, E1, seval, c4L _ (show c + A.getD i 0 * B.getD j 0 + w.getD (i + j) 0 < 18446744073709551616 by omega)]
      refine Safe.inBlock (Safe.region ?_)
      have hiw : IntKind.wrap .i64 ((j : Int) + 1) = ((j + 1 : Nat) : Int) := by rw [a0g] <;> omega
      simp only [b0y, E1, seval, hiw]
      refine Safe.keep [0, 1, 5, 6, 7, 8] ?_
      simp only [E1, seval]
      refine ih (j + 1) _ _ (by omega) (by simp [hw]) (c1S lw hmod) ?_ ?_
      · exact Nat.div_lt_of_lt_mul hfit
      · rw [a0w, show i + (j + 1) = (i + j) + 1 by omega, Nat.pow_succ]
        subst hx
        exact b9s (Nat.pow_add LB i j) hv (c0Y (by omega)) rfl
  have outer : ∀ (k i : Nat) (x : List Nat), i + k = A.length → x.length = i + B.length → Lim x → val x = val (A.take i) * val B →
        Safe ⟨Pr, fun _ _ => false, a2C, 68, [.tmp 4], H.length⟩ [.inLoop b1Y, .inBlock 0, .code ((ACode.region a6O false).seq .ret)]
          [(0, natV A), (1, natV B), (5, .mu (lid H 0) 0 (A.length + B.length) (some (A.length + B.length))), (6, .int .i64 i)]
          (hap H [some ⟨1, u32s (x ++ List.replicate k 0)⟩]) fun r' H' => r' = natV (limbs (val A * val B)) ∧ ∃ L, H' = hap H L := by
    intro k
    induction k with
    | zero =>
      intro i x hik hx lx hv
      have hi : i = A.length := by omega
      subst hi
      refine Safe.inLoop (Safe.seq (Safe.seq (Safe.region ?_)))
      simp only [a7P, E1, seval, Int.lt_irrefl]
      refine Safe.cond ?_
      simp only [E1, seval]
      refine Safe.exit rfl ?_
      simp only [List.replicate_zero, List.append_nil]
      refine Safe.freeze 0 (b := ⟨1, u32s x⟩) hH rfl rfl (a2B _) ?_
      refine Safe.seq (Safe.region ?_)
      simp only [a6O, E1, seval, ← hx]
      refine (a7G x ⟨lx, by omega⟩).acall ?_
      try simp only [E1, seval]
      refine Safe.retn ?_
      simp only [E1, seval]
      rw [List.take_length] at hv
      rw [hv]
      first | exact ⟨rfl, _, rfl⟩ | exact ⟨_, rfl⟩ | exact ⟨trivial, _, rfl⟩
    | succ k ih =>
      intro i x hik hx lx hv
      refine Safe.inLoop (Safe.seq (Safe.seq (Safe.region ?_)))
      have hlt : (i : Int) < (A.length : Int) := by omega
      simp only [a7P, E1, seval, hlt]
      refine Safe.cond ?_
      simp only [E1, seval]
      refine Safe.skip (Safe.seq (Safe.block (Safe.seq (Safe.region ?_))))
      simp only [b1T, E1, seval]
      refine Safe.seq (Safe.seq (Safe.region ?_))
      simp only [b1S, E1, seval]
      refine Safe.block (Safe.loop ?_)
      refine Safe.keep [0, 1, 5, 6, 7, 8] ?_
      simp only [E1, seval]
      refine inner _ i _ (k + 1) (val x) (by omega) rfl ?_ B.length 0 0 x (by omega) hx lx (by decide) (by simp [val])
      intro w c env hw lw hc hv2 e0 e1 e5 e6 e7
      refine Safe.region ?_
      have h7w : IntKind.wrap .i64 ((i : Int) + (B.length : Int)) = ((i + B.length : Nat) : Int) := by rw [a0g] <;> omega
      have hcw : IntKind.wrap .u32 (c : Int) = (c : Int) := a6w (by omega) (by omega)
      simp only [b0x, E1, seval, e0, e1, e5, e6, e7, h7w, hcw, a7U _ _ _ _ _ _ (i + B.length) (show i + B.length < A.length + B.length by omega), b5h _ _ _ (i + B.length) _ (show i + B.length < (w ++ List.replicate (k + 1) 0).length by simp [hw])]
      refine Safe.inBlock (Safe.region ?_)
      have hiw : IntKind.wrap .i64 ((i : Int) + 1) = ((i + 1 : Nat) : Int) := by rw [a0g] <;> omega
      simp only [b0w, E1, seval, e6, hiw]
      refine Safe.keep [0, 1, 5, 6] ?_
      simp only [E1, seval, e0, e1, e5]
      have hset : (w ++ List.replicate (k + 1) 0).set (i + B.length) c = (w ++ [c]) ++ List.replicate k 0 := by rw [← hw]; exact b5S _ _ _
      rw [hset]
      refine ih (i + 1) _ (by omega) (by simp [hw]; omega) (a2c lw hc) ?_
      rw [a6x, hw, hv2, a0w, hv, Nat.add_mul, Nat.mul_assoc]
  refine Safe.keep [0, 1, 5, 6] ?_
  simp only [E1, seval]
  have := outer A.length 0 (List.replicate B.length 0) (by omega) (by simp) (by intro d hd; simp at hd; omega) (by simp [a9H, val])
  rw [List.replicate_append_replicate, Nat.add_comm B.length] at this
  exact this
end Go.Abs
namespace Go.Abs
theorem b6W (neg : Bool) (l : List Nat) (hl : Nt l) : a0o Pr a8t [.bool neg, natV l] (Z (sgn neg (val l))) := by
  refine a0o.intro b5Z b5Y (by simp only [List.length_cons, List.length_nil]; omega) (Z_cl _) fun H hH => ?_
  refine Safe.seq (Safe.region ?_)
  simp only [a9U, E2, seval]
  refine Safe.seq (Safe.region ?_)
  simp only [a9T, E2, seval]
  refine (a7G l hl).acall ?_
  try simp only [E2, seval]
  refine Safe.seq (Safe.region ?_)
  have e0 : decide ((0 : Int) < ((limbs (val l)).length : Int)) = decide (0 < val l) := by
    rcases Nat.eq_zero_or_pos (val l) with h | h
    · rw [h, a0y]; rfl
    · rw [a7Y (by omega)]; simp [h] <;> omega
  cases neg
  · simp only [a6J, E2, seval]
    refine Safe.retn ?_
    simp only [E2, seval]
    rw [← c6A]
    simp only [Bool.false_and]
    first | exact ⟨rfl, _, rfl⟩ | exact ⟨_, rfl⟩ | exact ⟨trivial, _, rfl⟩
  · simp only [a6J, E2, seval, e0, b7k]
    refine Safe.retn ?_
    simp only [E2, seval]
    rw [← c6A]
    simp only [Bool.true_and]
    first | exact ⟨rfl, _, rfl⟩ | exact ⟨_, rfl⟩ | exact ⟨trivial, _, rfl⟩
theorem c1P (neg : Bool) (l : List Nat) (hl : Nt l) : a0o Pr a0Z [.bool neg, natV l] (Z (sgn neg (val l))) := by
  refine a0o.introL b1z b1y (by simp only [List.length_cons, List.length_nil]; omega) (Z_cl _) fun H hH => ?_
  have hll := hl.len
  refine Safe.seq (Safe.region ?_)
  simp only [a7l, E2, seval]
  refine Safe.seq (Safe.region ?_)
  simp only [a7k, E2, seval]
  refine Safe.seq (Safe.block (Safe.loop ?_))
  have copy : ∀ (n : Nat), n ≤ l.length → limbs (val l) = l.take n → ∀ env : Env, look env 0 = .bool neg → look env 1 = natV l → look env 4 = .loc (lid H 0) 0 0 → look env 5 = .int .i64 n →
      Safe ⟨Pr, fun _ _ => false, a0Z, 32, [.cell 4 (some 2)], H.length⟩ [.code (((ACode.region a1v false).seq (.cond (.t 22) ((ACode.region a1u false).seq .ret) .skip)).seq ((ACode.region a1t false).seq ((ACode.region a1s false).seq ((ACode.region a1r false).seq .ret))))]
        env (hap H [some ⟨2, [.agg [.bool false, .nil]]⟩]) fun r' H' => Le r' (Z (sgn neg (val l))) ∧ ∃ L, H' = hap H L := by
    intro n hn hlim env e0 e1 e4 e5
    refine Safe.seq (Safe.seq (Safe.region ?_))
    simp only [a1v, E2, seval, e5]
    refine Safe.cond ?_
    simp only [E2, seval]
    by_cases h0 : n = 0
    · subst h0
      simp only [Int.natCast_zero, E2, seval]
      refine Safe.seq (Safe.region ?_)
      simp only [a1u, E2, seval, e4]
      refine Safe.retn ?_
      simp only [E2, seval, e4]
      refine ⟨?_, _, rfl⟩
      have : val l = 0 := by
        have := a1c (val l)
        rw [hlim] at this
        simpa [val] using this.symm
      rw [this, c2Y]
      exact le_zero
    · have h0' : ¬ ((n : Int) = 0) := by omega
      simp only [h0', E2, seval]
      refine Safe.skip (Safe.seq (Safe.region ?_))
      simp only [a1t, E2, seval, e5, b0C _ H [some ⟨2, [.agg [.bool false, .nil]]⟩] _ _ n (by omega)]
      refine Safe.seq (Safe.region ?_)
      have hc := b6B ((28, .int .i64 n) :: []) H [some ⟨2, [.agg [.bool false, .nil]]⟩, some ⟨1, u32s (List.replicate n 0)⟩] 1 1 n (some n) (natV l) (u32s (List.replicate n 0)) (u32s l) rfl (by simp [a0B]) (b2Y _ l) (by rw [a0B]; exact hn)
      simp only [a1s, E2, seval, e1]
      rw [b6B _ H [some ⟨2, [.agg [.bool false, .nil]]⟩, some ⟨1, u32s (List.replicate n 0)⟩] 1 1 n (some n) (natV l) (u32s (List.replicate n 0)) (u32s l) rfl (by simp [a0B]) (b2Y _ l) (by rw [a0B]; exact hn)]
      simp only [E2, seval, b3q]
      refine Safe.freeze 1 (b := ⟨1, u32s (l.take n)⟩) hH rfl rfl (a2B _) ?_
      have hlen : n = (l.take n).length := by rw [List.length_take]; omega
      have hfm : frz (lid H 1) ⟨1, u32s (l.take n)⟩ (.mu (lid H 1) 0 n (some n)) = natV (l.take n) := by
        have := b5B H 1 (l.take n) (some n)
        rwa [← hlen] at this
      refine Safe.keep [0, 4, 6] ?_
      simp only [E2, seval, b7w, e0, e4, hfm, b6x H 1 0 _ 0 0 (by decide)]
      refine Safe.seq (Safe.region ?_)
      simp only [a1r, E2, seval]
      refine Safe.retn ?_
      simp only [E2, seval]
      refine ⟨?_, _, rfl⟩
      rw [← c6A, hlim]
      have hp : 0 < val l := by
        rcases Nat.eq_zero_or_pos (val l) with h | h
        · rw [h, a0y] at hlim
          have := congrArg List.length hlim
          simp at this; omega
        · exact h
      simp only [hp, decide_true, Bool.and_true]
      exact Le.refl _
  have key : ∀ (n : Nat), n ≤ l.length → val (l.take n) = val l → ∀ env : Env, look env 0 = .bool neg → look env 1 = natV l → look env 4 = .loc (lid H 0) 0 0 → look env 5 = .int .i64 n →
      Safe ⟨Pr, fun _ _ => false, a0Z, 32, [.cell 4 (some 2)], H.length⟩ [.inLoop a7m, .inBlock 0, .code (((ACode.region a1v false).seq (.cond (.t 22) ((ACode.region a1u false).seq .ret) .skip)).seq ((ACode.region a1t false).seq ((ACode.region a1s false).seq ((ACode.region a1r false).seq .ret))))]
        env (hap H [some ⟨2, [.agg [.bool false, .nil]]⟩]) fun r' H' => Le r' (Z (sgn neg (val l))) ∧ ∃ L, H' = hap H L := by
    intro n
    induction n with
    | zero =>
      intro hn hv env e0 e1 e4 e5
      refine Safe.inLoop (Safe.seq (Safe.seq (Safe.region ?_)))
      simp only [a2O, E2, seval, e1, e5, Int.natCast_zero, Int.lt_irrefl]
      refine Safe.cond ?_
      simp only [E2, seval]
      refine Safe.exit rfl (copy 0 hn ?_ _ (by simp only [E2, seval, e0]) (by simp only [E2, seval, e1]) (by simp only [E2, seval, e4]) (by simp only [E2, seval, e5] <;> rfl))
      rw [← hv]; simp [val, a0y]
    | succ n ih =>
      intro hn hv env e0 e1 e4 e5
      refine Safe.inLoop (Safe.seq (Safe.seq (Safe.region ?_)))
      have h0 : (0 : Int) < ((n + 1 : Nat) : Int) := by omega
      have hw : IntKind.wrap .i64 (((n + 1 : Nat) : Int) - 1) = (n : Int) := by rw [a0g] <;> omega
      simp only [a2O, E2, seval, e1, e5, h0, hw, a1H _ l _ n (by omega)]
      refine Safe.cond ?_
      simp only [E2, seval]
      by_cases hd : l.getD n 0 = 0
      · simp only [hd, Int.natCast_zero, E2, seval]
        refine Safe.skip (Safe.block (Safe.region ?_))
        simp only [a7j, E2, seval, e5, hw]
        refine Safe.inBlock (ih (by omega) ?_ _ (by simp only [E2, seval, e0]) (by simp only [E2, seval, e1]) (by simp only [E2, seval, e4]) (by simp only [E2, seval]))
        rw [← hv, a0w, hd]; simp
      · have hd' : ¬ (((l.getD n 0 : Nat) : Int) = 0) := by omega
        simp only [hd', E2, seval]
        refine Safe.exit rfl (copy (n + 1) hn ?_ _ (by simp only [E2, seval, e0]) (by simp only [E2, seval, e1]) (by simp only [E2, seval, e4]) (by simp only [E2, seval, e5]))
        rw [← hv, a5X (hl.lim.take _)]
        rw [a9J (by omega)]; simpa using hd
  exact key l.length (Nat.le_refl _) (by rw [List.take_length]) _ (by simp only [E2, seval]) (by simp only [E2, seval]) (by simp only [E2, seval]) (by simp only [E2, seval])
end Go.Abs
namespace Go.Abs
/-- Numbers in their one form. -/
def cans (v : List Int) : List ZI := v.map canZ
end Go.Abs
namespace Go.Abs
theorem b8W (x : ZI) (hx : Zok 17592186044416 x) : a0o Pr b1x [x.av, x.av] (.bool true) := by
  obtain ⟨n, m⟩ := x
  have hml : m.length ≤ 17592186044416 := hx.len
  simp only [ZI.av]
  refine a0o.intro b8K b8I (Nat.le_of_ble_eq_true rfl) (.bool _) fun H hH => ?_
  refine Safe.rg rfl ?_
  simp only [b4n, E3, seval]
  refine Safe.rg rfl ?_
  simp only [b4m, beq_self_eq_true, E3, seval]
  refine Safe.cd rfl ?_
  simp only [E3, seval]
  refine Safe.rg rfl ?_
  simp only [b4l, E3, seval]
  refine Safe.lp rfl ?_
  refine Safe.keep [2, 3, 5] ?_
  try simp only [E3, seval]
  refine Safe.loopN (m.length) (fun i => [(2, .loc (lid H 0) 0 0), (3, .loc (lid H 1) 0 0), (5, .int .i64 i)]) (fun i => hap H [some ⟨2, [.agg [.bool n, natV m]]⟩, some ⟨2, [.agg [.bool n, natV m]]⟩]) rfl rfl (fun i hi ih => ?_) ?_
  · have hlt : (i : Int) < (m.length : Int) := by omega
    have hiw : IntKind.wrap .i64 ((i : Int) + 1) = ((i + 1 : Nat) : Int) := by rw [a0g] <;> omega
    refine Safe.inLoop ?_
    refine Safe.rg rfl ?_
    simp only [a9v, hlt, E3, seval]
    refine Safe.cd rfl ?_
    simp only [E3, seval]
    refine Safe.rg rfl ?_
    simp only [b4k, a1H _ m _ i (by omega), E3, seval]
    refine Safe.cd rfl ?_
    simp only [E3, seval]
    refine Safe.rg rfl ?_
    simp only [b4j, hiw, E3, seval]
    refine Safe.keep [2, 3, 5] ?_
    simp only [E3, seval]
    exact ih
  · refine Safe.inLoop ?_
    refine Safe.rg rfl ?_
    simp only [a9v, Int.lt_irrefl, E3, seval]
    refine Safe.cd rfl ?_
    simp only [E3, seval]
    refine Safe.rg rfl ?_
    simp only [b4i, E3, seval]
    refine Safe.rt rfl ?_
    simp only [E3, seval]
    first | exact ⟨rfl, _, rfl⟩ | exact ⟨_, rfl⟩ | exact ⟨trivial, _, rfl⟩
theorem a5F {a b d : AV} (ha : Cl a) (hb : Cl b) (hd : Cl d) : Cl (.tup [a, b, d]) := .tup _ (by
  intro c hc
  simp only [List.mem_cons, List.not_mem_nil, or_false] at hc
  rcases hc with rfl | rfl | rfl
  · exact ha
  · exact hb
  · exact hd)
theorem a8C (v : List ZI) (hv : Vok 17592186044416 v) : a0o Pr a6Z [vecV v, vecV v] (.bool true) := by
  have hvl := hv.len
  refine a0o.intro b7C b7A (Nat.le_of_ble_eq_true rfl) (.bool _) fun H hH => ?_
  refine Safe.rg rfl ?_
  simp only [b2y, E3, seval]
  refine Safe.rg rfl ?_
  simp only [b2x, E3, seval]
  refine Safe.cd rfl ?_
  simp only [E3, seval]
  refine Safe.rg rfl ?_
  simp only [b2w, E3, seval]
  refine Safe.lp rfl ?_
  refine Safe.keep [0, 1, 5] ?_
  try simp only [E3, seval]
  refine Safe.loopN (v.length) (fun i => [(0, vecV v), (1, vecV v), (5, .int .i64 i)]) (fun i => hap H []) rfl rfl (fun i hi ih => ?_) ?_
  · have hlt : (i : Int) < (v.length : Int) := by omega
    have hiw : IntKind.wrap .i64 ((i : Int) + 1) = ((i + 1 : Nat) : Int) := by rw [a0g] <;> omega
    refine Safe.inLoop ?_
    refine Safe.rg rfl ?_
    simp only [a8j, hlt, E3, seval]
    refine Safe.cd rfl ?_
    simp only [E3, seval]
    refine Safe.rg rfl ?_
    simp only [b2v, c4Y _ v _ i (by omega), E3, seval]
    first | refine (b8W v[i] (hv.get hi)).acall ?_ | refine (b8W v[i] (hv.get hi)).dcall ?_ | refine (b8W v[i] (hv.get hi)).dgcall ?_
    try simp only [E3, seval]
    refine Safe.cd rfl ?_
    simp only [E3, seval]
    refine Safe.rg rfl ?_
    simp only [b2u, hiw, E3, seval]
    refine Safe.keep [0, 1, 5] ?_
    simp only [E3, seval]
    exact ih
  · refine Safe.inLoop ?_
    refine Safe.rg rfl ?_
    simp only [a8j, Int.lt_irrefl, E3, seval]
    refine Safe.cd rfl ?_
    simp only [E3, seval]
    refine Safe.rg rfl ?_
    simp only [b2t, E3, seval]
    refine Safe.rt rfl ?_
    simp only [E3, seval]
    first | exact ⟨rfl, _, rfl⟩ | exact ⟨_, rfl⟩ | exact ⟨trivial, _, rfl⟩
theorem b3e (v : List (List ZI)) (hv : Mok 17592186044416 v) : a0o Pr a4T [matV v, matV v] (.bool true) := by
  have hvl := hv.len
  refine a0o.intro b7H b7F (Nat.le_of_ble_eq_true rfl) (.bool _) fun H hH => ?_
  refine Safe.rg rfl ?_
  simp only [b2E, E3, seval]
  refine Safe.rg rfl ?_
  simp only [b2D, E3, seval]
  refine Safe.cd rfl ?_
  simp only [E3, seval]
  refine Safe.rg rfl ?_
  simp only [b2C, E3, seval]
  refine Safe.lp rfl ?_
  refine Safe.keep [0, 1, 5] ?_
  try simp only [E3, seval]
  refine Safe.loopN (v.length) (fun i => [(0, matV v), (1, matV v), (5, .int .i64 i)]) (fun i => hap H []) rfl rfl (fun i hi ih => ?_) ?_
  · have hlt : (i : Int) < (v.length : Int) := by omega
    have hiw : IntKind.wrap .i64 ((i : Int) + 1) = ((i + 1 : Nat) : Int) := by rw [a0g] <;> omega
    refine Safe.inLoop ?_
    refine Safe.rg rfl ?_
    simp only [a8k, hlt, E3, seval]
    refine Safe.cd rfl ?_
    simp only [E3, seval]
    refine Safe.rg rfl ?_
    simp only [b2B, c5I _ v _ i (by omega), E3, seval]
    first | refine (a8C v[i] (hv.get hi)).acall ?_ | refine (a8C v[i] (hv.get hi)).dcall ?_ | refine (a8C v[i] (hv.get hi)).dgcall ?_
    try simp only [E3, seval]
    refine Safe.cd rfl ?_
    simp only [E3, seval]
    refine Safe.rg rfl ?_
    simp only [b2A, hiw, E3, seval]
    refine Safe.keep [0, 1, 5] ?_
    simp only [E3, seval]
    exact ih
  · refine Safe.inLoop ?_
    refine Safe.rg rfl ?_
    simp only [a8k, Int.lt_irrefl, E3, seval]
    refine Safe.cd rfl ?_
    simp only [E3, seval]
    refine Safe.rg rfl ?_
    simp only [b2z, E3, seval]
    refine Safe.rt rfl ?_
    simp only [E3, seval]
    first | exact ⟨rfl, _, rfl⟩ | exact ⟨_, rfl⟩ | exact ⟨trivial, _, rfl⟩
end Go.Abs
namespace Go.Abs
theorem one3 (a b c : AV) : b2O [a, b, c] = .tup [a, b, c] := rfl
theorem b8y (k : Nat) : Mok k [] := ⟨by simp, by simp⟩
end Go.Abs
namespace Go.Abs
def a0S (H : Heap) (n k : Nat) : List AV := (List.range k).map fun j => .mu (lid H 0) (j * n) n (some n)
end Go.Abs
namespace Go.Proofs
open Go.Shelf
def Tryd.lays217_ren : Go.Shelf.Ren := ⟨fun | 217 => 90 | 266 => 95 | n => n, fun | 9 => 9 | 5 => 5 | 3 => 3 | n => n, fun | n => n⟩
theorem Tryd.lays217 : Go.Proofs.Lays.n217 Tryd.prog Tryd.lays217_ren := {
  mixed := by kernel_rfl
  f217 := Tryd.func90.trans (congrArg some (by kernel_rfl))
  f266 := Tryd.func95.trans (congrArg some (by kernel_rfl))
  t3 := Tryd.underlying3
  a3 := Tryd.isAgg3
  z3 := Tryd.sizeOf3
  v3 := Tryd.zeroValue3
  t5 := Tryd.underlying5
  a5 := Tryd.isAgg5
  z5 := Tryd.sizeOf5
  v5 := Tryd.zeroValue5
  t9 := Tryd.underlying9
  a9 := Tryd.isAgg9
  z9 := Tryd.sizeOf9
  v9 := Tryd.zeroValue9 }
open Go.RowKit Go.Lib in
theorem Tryd.stringslite_IndexByte (s : ByteArray) (c : Int) (w : World) :
    Calls Tryd.prog 90 #[.string s, .int .u8 c] w fun e w' => e = .returned (.int .i64 (Lib.indexByte s.data.toList c.toNat.toUInt8)) ∧ w' = w := Any.stringslite_IndexByte Tryd.lays217 s c w
def Tryd.lays138_ren : Go.Shelf.Ren := ⟨fun | 138 => 59 | 195 => 74 | 218 => 75 | 143 => 60 | 219 => 76 | 217 => 90 | 225 => 89 | 224 => 88 | 267 => 91 | 266 => 95 | 314 => 96 | n => n, fun | 9 => 9 | 3 => 3 | 4 => 4 | 5 => 5 | 0 => 0 | 46 => 106 | 146 => 131 | 51 => 79 | n => n, fun | 1 => 2 | n => n⟩
theorem Tryd.lays138 : Go.Proofs.Lays.n138 Tryd.prog Tryd.lays138_ren := {
  mixed := by kernel_rfl
  f138 := Tryd.func59.trans (congrArg some (by kernel_rfl))
  f143 := Tryd.func60.trans (congrArg some (by kernel_rfl))
  f195 := Tryd.func74.trans (congrArg some (by kernel_rfl))
  f217 := Tryd.func90.trans (congrArg some (by kernel_rfl))
  f218 := Tryd.func75.trans (congrArg some (by kernel_rfl))
  f219 := Tryd.func76.trans (congrArg some (by kernel_rfl))
  f224 := Tryd.func88.trans (congrArg some (by kernel_rfl))
  f225 := Tryd.func89.trans (congrArg some (by kernel_rfl))
  f266 := Tryd.func95.trans (congrArg some (by kernel_rfl))
  f267 := Tryd.func91.trans (congrArg some (by kernel_rfl))
  f314 := Tryd.func96.trans (congrArg some (by kernel_rfl))
  t0 := Tryd.underlying0
  a0 := Tryd.isAgg0
  z0 := Tryd.sizeOf0
  v0 := Tryd.zeroValue0
  t3 := Tryd.underlying3
  a3 := Tryd.isAgg3
  z3 := Tryd.sizeOf3
  v3 := Tryd.zeroValue3
  t4 := Tryd.underlying4
  a4 := Tryd.isAgg4
  z4 := Tryd.sizeOf4
  v4 := Tryd.zeroValue4
  t5 := Tryd.underlying5
  a5 := Tryd.isAgg5
  z5 := Tryd.sizeOf5
  v5 := Tryd.zeroValue5
  t9 := Tryd.underlying9
  a9 := Tryd.isAgg9
  z9 := Tryd.sizeOf9
  v9 := Tryd.zeroValue9
  t46 := Tryd.underlying106
  a46 := Tryd.isAgg106
  z46 := Tryd.sizeOf106
  v46 := Tryd.zeroValue106
  t51 := Tryd.underlying79
  a51 := Tryd.isAgg79
  z51 := Tryd.sizeOf79
  v51 := Tryd.zeroValue79
  t146 := Tryd.underlying131
  a146 := Tryd.isAgg131
  z146 := Tryd.sizeOf131
  v146 := Tryd.zeroValue131
  g1 := by kernel_rfl }
open Go.RowKit Go.Lib in
theorem Tryd.strings_Count_one (s : ByteArray) (c : UInt8) (w : World) :
    Calls Tryd.prog 59 #[.string s, .string ⟨#[c]⟩] w fun e w' => e = .returned (.int .i64 (Lib.countByte s.data.toList c)) ∧ w' = w := Any.strings_Count_one Tryd.lays138 s c w
end Go.Proofs
namespace Go.Abs
def sumL (v : List ZI) : Nat := (v.map fun z => z.mag.length).sum
structure TotV (v : List ZI) : Prop where
  len : v.length ≤ 1048576
  sum : sumL v ≤ 1048576
structure TotM (b : List (List ZI)) : Prop where
  len : b.length ≤ 1048576
  cells : (b.map fun v => v.length).sum ≤ 1048576
  sum : (b.map sumL).sum ≤ 1048576
theorem b1h {α : Type} (f : α → Nat) : ∀ {l : List α} {x : α}, x ∈ l → f x ≤ (l.map f).sum
  | a :: l, x, h => by
    rcases List.mem_cons.1 h with e | e
    · subst e; simp
    · have := b1h f e
      simp only [List.map_cons, List.sum_cons]; omega
theorem TotM.row {b : List (List ZI)} (h : TotM b) {i : Nat} (hi : i < b.length) : sumL (mg b i) ≤ 1048576 ∧ (mg b i).length ≤ 1048576 := by
  rw [c7f hi]
  exact ⟨Nat.le_trans (b1h sumL (List.getElem_mem hi)) h.sum, Nat.le_trans (b1h (fun v : List ZI => v.length) (List.getElem_mem hi)) h.cells⟩
end Go.Abs
namespace Go.Abs
def decV (l : List UInt8) : Nat := l.foldl (fun a c => 10 * a + (c.toNat - 48)) 0
theorem b6z : decV [] = 0 := rfl
theorem b7T (l : List UInt8) (c : UInt8) : decV (l ++ [c]) = 10 * decV l + (c.toNat - 48) := by simp [decV]
theorem b4w : ∀ (b : List UInt8) (a : Nat), b.foldl (fun a c => 10 * a + (c.toNat - 48)) a = a * 10 ^ b.length + decV b
  | [], a => by simp [b6z]
  | c :: b, a => by
    unfold decV
    rw [List.foldl_cons, List.foldl_cons, b4w b, b4w b (10 * 0 + (c.toNat - 48)), List.length_cons, Nat.pow_succ, Nat.add_mul, Nat.mul_zero, Nat.zero_add, Nat.add_assoc]
    congr 1
    rw [Nat.mul_comm 10 a, Nat.mul_assoc, Nat.mul_comm 10]
theorem b9H (a b : List UInt8) : decV (a ++ b) = decV a * 10 ^ b.length + decV b := by
  show (a ++ b).foldl _ 0 = _
  rw [List.foldl_append, b4w]
  rfl
theorem c2m (c : UInt8) (l : List UInt8) : decV (c :: l) = (c.toNat - 48) * 10 ^ l.length + decV l := by
  have := b9H [c] l
  simpa [decV] using this
def isDg (c : UInt8) : Prop := 48 ≤ c.toNat ∧ c.toNat ≤ 57
/-- The digits of a number, aXs they are written. -/
structure Dgs (D : List UInt8) (n : Nat) : Prop where
  pos : 0 < D.length
  dg : ∀ c ∈ D, isDg c
  head : (1 < D.length ∨ n ≠ 0) → (D.getD 0 0).toNat ≠ 48
  val : decV D = n
theorem a5D : ∀ {l : List UInt8}, (∀ c ∈ l, isDg c) → decV l < 10 ^ l.length
  | [], _ => by decide
  | c :: l, h => by
    have h1 := a5D fun d hd => h d (List.mem_cons_of_mem _ hd)
    have h2 := h c (by simp)
    unfold isDg at h2
    rw [c2m, List.length_cons, Nat.pow_succ]
    have h3 : (c.toNat - 48) * 10 ^ l.length ≤ 9 * 10 ^ l.length := Nat.mul_le_mul_right _ (by omega)
    omega
theorem b5N {α : Type} (l : List α) (k n : Nat) : l.take (k + n) = l.take k ++ (l.drop k).take n := List.take_add
theorem b8R {D : List UInt8} (h : ∀ c ∈ D, isDg c) {i : Nat} (hi : i < D.length) : isDg (D.getD i 0) := by
  rw [List.getD_eq_getElem?_getD, List.getElem?_eq_getElem hi]
  exact h _ (List.getElem_mem _)
theorem getD_app (P D : List UInt8) (j : Nat) : (P ++ D).getD (P.length + j) 0 = D.getD j 0 := by
  rw [List.getD_eq_getElem?_getD, List.getD_eq_getElem?_getD, List.getElem?_append_right (by omega), Nat.add_sub_cancel_left]
theorem a5j {D : List UInt8} {k j : Nat} (h : k + j < D.length) : (D.drop k).take (j + 1) = (D.drop k).take j ++ [D.getD (k + j) 0] := by
  rw [List.take_succ_eq_append_getElem (by rw [List.length_drop]; omega), List.getElem_drop, List.getD_eq_getElem?_getD, List.getElem?_eq_getElem h]
  rfl
theorem a2M (l : List UInt8) (k : IntKind) {i : Nat} (h : i < l.length) : idxS (strU l) (.int k i) = some (.int .u8 ((l.getD i 0).toNat : Int)) := by
  unfold strU
  rw [b9E, if_pos ⟨by omega, by rw [a7A]; omega⟩]
  simp
theorem a0e (l : List UInt8) : lenS (strU l) = some (.int .i64 l.length) := by
  unfold strU; rw [b9x, a7A]
end Go.Abs
namespace Go.Abs
theorem b5K (x : Nat) : val [x] = x := by simp [val]
theorem b7j (k : Nat) : 10 ^ k ≤ LB ^ k := Nat.pow_le_pow_left (by decide) k
theorem a5Y {M k : Nat} (h : M < 10 ^ k) (hk : k ≤ 65536) : Nt (limbs M) := ⟨a4I _, Nat.le_trans (a1x (Nat.lt_of_lt_of_le h (b7j k))) (by omega)⟩
theorem a9F {n : Nat} (h : n < 4294967296) : IntKind.wrap .u32 (n : Int) = (n : Int) := a6w (Int.natCast_nonneg _) (by omega)
theorem b9j {n : Nat} (h : n < 256) : IntKind.wrap .u8 (n : Int) = (n : Int) := by
  unfold IntKind.wrap
  simp [IntKind.signed, IntKind.bits]
  omega
noncomputable def zrCx (H : Heap) : Cx := ⟨Pr, fun _ _ => false, a1A, 109, [.cell 2 (some 2), .tmp 3, .tmp 4], H.length⟩
def b9h : ACode := .seq (.seq (.region a3P false) (.cond (.t 70) (.seq (.region a6u false) (.ret)) (.skip))) (.seq (.region a6t false) (.seq (.seq (.region a6s false) (.block 2 (.loop b1F))) (.seq (.region a2j false) (.ret))))
theorem a6h (l : List UInt8) (k : IntKind) (h : 0 < l.length) : idxS (strU l) (.int k 0) = some (.int .u8 ((l.getD 0 0).toNat : Int)) := a2M l k (i := 0) h
theorem b7N (l : List UInt8) (k : IntKind) (h : 1 < l.length) : idxS (strU l) (.int k 1) = some (.int .u8 ((l.getD 1 0).toNat : Int)) := a2M l k (i := 1) h
end Go.Abs
namespace Go.Abs
def a0s (c : UInt8) : List UInt8 → List (List UInt8)
  | [] => [[]]
  | b :: l => if b = c then [] :: a0s c l else match a0s c l with
    | [] => [[b]]
    | p :: ps => (b :: p) :: ps
theorem a2f (c : UInt8) : ∀ l, (a0s c l).length = l.count c + 1
  | [] => rfl
  | b :: l => by
    have ih := a2f c l
    unfold a0s
    by_cases h : b = c
    · rw [if_pos h, List.length_cons, ih, List.count_cons, h]; simp
    · rw [if_neg h, List.count_cons]
      have hb : (b == c) = false := by simpa using h
      rw [hb]
      match hs : a0s c l with
      | [] => rw [hs] at ih; simp at ih
      | p :: ps => rw [hs] at ih; simp at ih ⊢; omega
theorem a9h (c : UInt8) : ∀ l, l.count c = 0 → a0s c l = [l]
  | [], _ => rfl
  | b :: l, h => by
    rw [List.count_cons] at h
    have hb : b ≠ c := fun e => by subst e; simp at h
    have ih := a9h c l (by omega)
    unfold a0s
    rw [if_neg hb, ih]
theorem b0U (c : UInt8) : ∀ (p r : List UInt8), p.count c = 0 → a0s c (p ++ c :: r) = p :: a0s c r
  | [], r, _ => by simp [a0s]
  | b :: p, r, h => by
    rw [List.count_cons] at h
    have hb : b ≠ c := fun e => by subst e; simp at h
    have ih := b0U c p r (by omega)
    have e : a0s c (b :: (p ++ c :: r)) = if b = c then [] :: a0s c (p ++ c :: r) else match a0s c (p ++ c :: r) with
      | [] => [[b]]
      | q :: ps => (b :: q) :: ps := by rw [a0s]
    rw [List.cons_append, e, if_neg hb, ih]
theorem b7M (c : UInt8) : ∀ l, 0 < l.count c → ∃ m : Nat, Lib.indexByte l c = (m : Int) ∧ m < l.length ∧ (l.take m).count c = 0 ∧ l = l.take m ++ c :: l.drop (m + 1)
  | [], h => by simp at h
  | b :: l, h => by
    unfold Lib.indexByte
    by_cases hb : b = c
    · subst hb
      exact ⟨0, by simp, by simp, by simp, by simp⟩
    · have hb' : (b == c) = false := by simpa using hb
      rw [List.count_cons, hb'] at h
      obtain ⟨m, h1, h2, h3, h4⟩ := b7M c l (by simpa using h)
      refine ⟨m + 1, ?_, by simpa using h2, ?_, ?_⟩
      · rw [hb', h1]
        have : ((m : Int) == -1) = false := by
          rw [beq_eq_false_iff_ne]; omega
        simp [this]
      · rw [List.take_succ_cons, List.count_cons, h3, hb']; simp
      · rw [List.take_succ_cons, List.drop_succ_cons, List.cons_append, ← h4]
theorem b3B (l : List UInt8) (lo hi : Nat) (h1 : lo ≤ hi) (h2 : hi ≤ l.length) : slcS (strU l) (some (.int .i64 lo)) (some (.int .i64 hi)) = some (strU ((l.drop lo).take (hi - lo))) := by
  unfold strU
  simp only [slcS, a3O, Option.bind_some, a7A]
  rw [if_pos ⟨by omega, by omega, by omega⟩]
  congr 2
  apply ByteArray.ext
  simp [ByteArray.data_extract]
theorem b5Q (l : List UInt8) (lo : Nat) (h : lo ≤ l.length) : slcS (strU l) (some (.int .i64 lo)) none = some (strU (l.drop lo)) := by
  have := b3B l lo l.length h (Nat.le_refl _)
  unfold strU at this ⊢
  simp only [slcS, a3O, Option.bind_some, a7A] at this ⊢
  rw [this, List.take_of_length_le (by rw [List.length_drop]; omega)]
theorem b9m (l : List UInt8) (hi : Nat) (h : hi ≤ l.length) : slcS (strU l) none (some (.int .i64 hi)) = some (strU (l.take hi)) := by
  have := b3B l 0 hi (Nat.zero_le _) h
  rw [List.drop_zero, Nat.sub_zero] at this
  unfold strU at this ⊢
  simp only [slcS, a3O, Option.bind_some, a7A] at this ⊢
  exact this
end Go.Abs
namespace Go.Abs
open Go.Proofs
def b3s (c : UInt8) (l : List UInt8) : List UInt8 := l.dropWhile (· == c)
def b3r (c : UInt8) (l : List UInt8) : List UInt8 := (l.reverse.dropWhile (· == c)).reverse
theorem c5c (a b : UInt8) : ((a.toNat : Int) = (b.toNat : Int)) = (a = b) := by
  refine propext ⟨fun h => UInt8.toNat_inj.1 (by omega), fun h => by rw [h]⟩
theorem b5M (c : UInt8) (l : List UInt8) (hl : l.length ≤ 4294967296) : a0o Pr a1o [strU l, .int .u8 (c.toNat : Int)] (strU (b3s c l)) := by
  refine a0o.intro a6C a6A (Nat.le_of_ble_eq_true rfl) (a1n _) fun H hH => ?_
  refine Safe.rg rfl ?_
  simp only [a2l, E3, seval]
  refine Safe.lp rfl ?_
  refine Safe.keep [0, 1] ?_
  simp only [E3, seval]
  refine Safe.loopW (fun a : List UInt8 => a.length) (fun a => [(0, strU a), (1, .int .u8 (c.toNat : Int))]) (fun _ => hap H []) (fun a => b3s c a = b3s c l ∧ a.length ≤ 4294967296) l rfl rfl ⟨rfl, hl⟩ ?_
  rintro a ⟨ha, hal⟩ ih
  refine Safe.inLoop ?_
  match a, ha, hal, ih with
  | [], ha, hal, ih =>
    refine Safe.rg rfl ?_
    simp only [a0M, a0e, E3, seval]
    refine Safe.cd rfl ?_
    simp only [E3, seval]
    refine Safe.rg rfl ?_
    simp only [a0Y, E3, seval]
    refine Safe.rt rfl ?_
    simp only [E3, seval]
    rw [← ha]
    exact ⟨rfl, _, rfl⟩
  | b :: a, ha, hal, ih =>
    have hg : (((b :: a).length : Int) > 0) = True := eq_true (by rw [List.length_cons]; omega)
    simp only [List.length_cons] at hg hal
    have hi := a6h (b :: a) .i64 (by simp)
    rw [show (b :: a).getD 0 0 = b from rfl] at hi
    by_cases hb : b = c
    · have hb' : ((b.toNat : Int) = (c.toNat : Int)) = True := eq_true (by rw [hb])
      have hs := b5Q (b :: a) 1 (by simp)
      rw [List.drop_succ_cons, List.drop_zero] at hs
      refine Safe.rg rfl ?_
      simp only [a0M, a0e, hg, hi, hb', E3, seval]
      refine Safe.cd rfl ?_
      simp only [E3, seval]
      refine Safe.rg rfl ?_
      simp only [a2k, E3, seval]
      rw [show (1 : Int) = ((1 : Nat) : Int) from rfl, hs]
      simp only [E3, seval]
      refine Safe.keep [0, 1] ?_
      simp only [E3, seval]
      repeat (first | refine Safe.seq ?_ | refine Safe.skip ?_ | refine Safe.inBlock ?_ | refine Safe.block ?_ | refine Safe.exit rfl ?_)
      refine ih a ⟨?_, by omega⟩ (by simp)
      rw [← ha]
      unfold b3s
      rw [List.dropWhile_cons_of_pos (by simpa using hb)]
    · have hb' : ((b.toNat : Int) = (c.toNat : Int)) = False := eq_false fun h => hb (by rw [c5c] at h; exact h)
      refine Safe.rg rfl ?_
      simp only [a0M, a0e, hg, hi, hb', E3, seval]
      refine Safe.cd rfl ?_
      simp only [E3, seval]
      refine Safe.rg rfl ?_
      simp only [a0Y, E3, seval]
      refine Safe.rt rfl ?_
      simp only [E3, seval]
      rw [← ha]
      unfold b3s
      rw [List.dropWhile_cons_of_neg (by simpa using hb)]
      exact ⟨rfl, _, rfl⟩
theorem b4J (c : UInt8) (l : List UInt8) (hl : l.length ≤ 4294967296) : a0o Pr a1a [strU l, .int .u8 (c.toNat : Int)] (strU (b3r c l)) := by
  refine a0o.intro a5M a5K (Nat.le_of_ble_eq_true rfl) (a1n _) fun H hH => ?_
  refine Safe.rg rfl ?_
  simp only [a2e, E3, seval]
  refine Safe.lp rfl ?_
  refine Safe.keep [0, 1] ?_
  simp only [E3, seval]
  refine Safe.loopW (fun a : List UInt8 => a.length) (fun a => [(0, strU a.reverse), (1, .int .u8 (c.toNat : Int))]) (fun _ => hap H []) (fun a => (b3s c a).reverse = b3r c l ∧ a.length ≤ 4294967296) l.reverse (by rw [List.reverse_reverse]) rfl ⟨rfl, by rw [List.length_reverse]; exact hl⟩ ?_
  rintro a ⟨ha, hal⟩ ih
  refine Safe.inLoop ?_
  match a, ha, hal, ih with
  | [], ha, hal, ih =>
    refine Safe.rg rfl ?_
    simp only [a0F, a0e, List.reverse_nil, E3, seval]
    refine Safe.cd rfl ?_
    simp only [E3, seval]
    refine Safe.rg rfl ?_
    simp only [a0T, E3, seval]
    refine Safe.rt rfl ?_
    simp only [E3, seval]
    rw [← ha]
    exact ⟨rfl, _, rfl⟩
  | b :: a, ha, hal, ih =>
    have hlr : (a.reverse ++ [b]).length = a.length + 1 := by simp
    rw [List.length_cons] at hal
    have hg : (((a.reverse ++ [b]).length : Int) > 0) = True := eq_true (by omega)
    have hi := a2M (a.reverse ++ [b]) .i64 (i := a.length) (by omega)
    have hgd : (a.reverse ++ [b]).getD a.length 0 = b := by
      have := getD_app a.reverse [b] 0
      rw [List.length_reverse] at this
      exact this
    rw [hgd] at hi
    have hw : IntKind.wrap .i64 (((a.reverse ++ [b]).length : Int) - 1) = ((a.length : Nat) : Int) := by rw [a0g] <;> omega
    rw [List.reverse_cons]
    by_cases hb : b = c
    · have hb' : ((b.toNat : Int) = (c.toNat : Int)) = True := eq_true (by rw [hb])
      have hs := b9m (a.reverse ++ [b]) a.length (by omega)
      rw [show (a.reverse ++ [b]).take a.length = a.reverse by rw [List.take_append_of_le_length (by simp), List.take_of_length_le (by simp)]] at hs
      refine Safe.rg rfl ?_
      simp only [a0F, a0e, hg, hw, hi, hb', E3, seval]
      refine Safe.cd rfl ?_
      simp only [E3, seval]
      refine Safe.rg rfl ?_
      simp only [a2d, a0e, hw, hs, E3, seval]
      refine Safe.keep [0, 1] ?_
      simp only [E3, seval]
      repeat (first | refine Safe.seq ?_ | refine Safe.skip ?_ | refine Safe.inBlock ?_ | refine Safe.block ?_ | refine Safe.exit rfl ?_)
      refine ih a ⟨?_, by omega⟩ (by simp)
      rw [← ha]
      unfold b3s
      rw [List.dropWhile_cons_of_pos (by simpa using hb)]
    · have hb' : ((b.toNat : Int) = (c.toNat : Int)) = False := eq_false fun h => hb (by rw [c5c] at h; exact h)
      refine Safe.rg rfl ?_
      simp only [a0F, a0e, hg, hw, hi, hb', E3, seval]
      refine Safe.cd rfl ?_
      simp only [E3, seval]
      refine Safe.rg rfl ?_
      simp only [a0T, E3, seval]
      refine Safe.rt rfl ?_
      simp only [E3, seval]
      rw [← ha]
      unfold b3s
      rw [List.dropWhile_cons_of_neg (by simpa using hb), List.reverse_cons]
      exact ⟨rfl, _, rfl⟩
theorem strE : AV.str ⟨#[]⟩ = strU [] := rfl
theorem b5O (c : UInt8) : AV.str ⟨#[c]⟩ = strU [c] := rfl
theorem b6O (l : List UInt8) (hl : l.length ≤ 4294967296) (h0 : l ≠ []) : a0o Pr a1R [strU l, strU [32]] (strU (b3s 32 (b3r 32 l))) := by
  have hr : (b3r 32 l).length ≤ l.length := by
    unfold b3r
    rw [List.length_reverse]
    have := (List.dropWhile_sublist (· == (32 : UInt8)) (l := l.reverse)).length_le
    rwa [List.length_reverse] at this
  have e1 : binV .eql (strU l) (strU []) = some (.bool false) := by rw [a2R]; simp [h0]
  have e2 : binV .eql (strU [32]) (strU []) = some (.bool false) := by rw [a2R]; rfl
  have hi := a6h [32] .i64 (by simp)
  rw [show (([32] : List UInt8).getD 0 0).toNat = 32 from rfl] at hi
  have ht1 := b4J 32 l hl
  have ht2 := b5M 32 (b3r 32 l) (by omega)
  rw [show ((32 : UInt8).toNat : Int) = ((32 : Nat) : Int) from rfl] at ht1 ht2
  refine a0o.intro a7z a7y (Nat.le_of_ble_eq_true rfl) (a1n _) fun H hH => ?_
  refine Safe.rg rfl ?_
  simp only [a4u, E3, seval]
  refine Safe.rg rfl ?_
  simp only [a4t, strE, e1, e2, E3, seval]
  refine Safe.cd rfl ?_
  simp only [E3, seval]
  refine Safe.rg rfl ?_
  simp only [a7w, a0e, hi, E3, seval]
  refine Safe.cd rfl ?_
  simp only [E3, seval]
  refine Safe.rg rfl ?_
  simp only [a7v, hi, E3, seval]
  first | refine (ht1).acall ?_ | refine (ht1).dcall ?_ | refine (ht1).dgcall ?_
  try simp only [E3, seval]
  simp only [hi, E3, seval]
  first | refine (ht2).acall ?_ | refine (ht2).dcall ?_ | refine (ht2).dgcall ?_
  try simp only [E3, seval]
  refine Safe.rt rfl ?_
  simp only [E3, seval]
  exact ⟨_, rfl⟩
theorem b8l (l : List UInt8) (c : UInt8) : a0o Pr a4S [strU l, strU [c]] (.int .i64 (Lib.indexByte l c)) := by
  have hb : a0o Pr a0A [strU l, .int .u8 (c.toNat : Int)] (.int .i64 (Lib.indexByte l c)) := by
    refine a0o.ofBelow Tryd.func90 (by decide +kernel) (by kernel_rfl) fun E vs hok hl hr => ?_
    obtain ⟨v0, v1, rfl⟩ : ∃ v0 v1, vs = [v0, v1] := by
      match vs, hl with
      | [v0, v1], _ => exact ⟨v0, v1, rfl⟩
    have h0 := a1W (hr 0 v0 _ rfl rfl)
    have h1 := a0n (hr 1 v1 _ rfl rfl)
    subst h0; subst h1
    refine (Tryd.stringslite_IndexByte ⟨l.toArray⟩ (c.toNat : Int) E.w).mono ?_
    rintro e w' ⟨rfl, rfl⟩
    refine ⟨⟨_, rfl, fun E' => ?_⟩, Go.RowKit.Below.refl _ _⟩
    have : ((c.toNat : Int)).toNat.toUInt8 = c := by simp
    rw [this]
    exact .int _ _
  have hi := a6h [c] .i64 (by simp)
  rw [show ([c] : List UInt8).getD 0 0 = c from rfl] at hi
  have hli : a0o Pr a0N [strU l, strU [c]] (.int .i64 (Lib.indexByte l c)) := by
    have hl1 : lenS (strU [c]) = some (.int .i64 1) := by rw [a0e]; rfl
    have h10 : ((1 : Int) = 0) = False := eq_false (by omega)
    by_cases hq : [c] = l
    · have he : binV .eql (strU [c]) (strU l) = some (.bool true) := by rw [a2R, hq]; simp
      have hz : Lib.indexByte l c = 0 := by rw [← hq]; simp [Lib.indexByte]
      rw [hz]
      refine a0o.intro a1h a1g (Nat.le_of_ble_eq_true rfl) (.int _ _) fun H hH => ?_
      refine Safe.rg rfl ?_
      simp only [a0L, E3, seval]
      refine Safe.rg rfl ?_
      simp only [a0K, hl1, E3, seval]
      refine Safe.rg rfl ?_
      simp only [a0J, h10, he, E3, seval]
      refine Safe.cd rfl ?_
      simp only [E3, seval]
      refine Safe.rg rfl ?_
      simp only [a1f, E3, seval]
      refine Safe.rt rfl ?_
      simp only [E3, seval]
      exact ⟨_, rfl⟩
    · have he : binV .eql (strU [c]) (strU l) = some (.bool false) := by
        rw [a2R]
        have : ([c] == l) = false := by rw [beq_eq_false_iff_ne]; exact hq
        rw [this]
      refine a0o.intro a1h a1g (Nat.le_of_ble_eq_true rfl) (.int _ _) fun H hH => ?_
      refine Safe.rg rfl ?_
      simp only [a0L, E3, seval]
      refine Safe.rg rfl ?_
      simp only [a0K, hl1, E3, seval]
      refine Safe.rg rfl ?_
      simp only [a0J, h10, he, E3, seval]
      refine Safe.cd rfl ?_
      simp only [E3, seval]
      refine Safe.rg rfl ?_
      simp only [a1e, E3, seval]
      refine Safe.cd rfl ?_
      simp only [E3, seval]
      refine Safe.rg rfl ?_
      simp only [a1d, hi, E3, seval]
      first | refine (hb).acall ?_ | refine (hb).dcall ?_ | refine (hb).dgcall ?_
      try simp only [E3, seval]
      refine Safe.rt rfl ?_
      simp only [E3, seval]
      exact ⟨_, rfl⟩
  refine a0o.intro b2L b2K (Nat.le_of_ble_eq_true rfl) (.int _ _) fun H hH => ?_
  refine Safe.rg rfl ?_
  simp only [a7d, E3, seval]
  refine Safe.rg rfl ?_
  simp only [a7c, E3, seval]
  first | refine (hli).acall ?_ | refine (hli).dcall ?_ | refine (hli).dgcall ?_
  try simp only [E3, seval]
  refine Safe.rt rfl ?_
  simp only [E3, seval]
  exact ⟨_, rfl⟩
theorem a9i (l : List UInt8) (c : UInt8) : a0o Pr a8s [strU l, strU [c]] (.int .i64 (l.count c : Nat)) := by
  refine a0o.ofBelow Tryd.func59 (by decide +kernel) (by kernel_rfl) fun E vs hok hl hr => ?_
  obtain ⟨v0, v1, rfl⟩ : ∃ v0 v1, vs = [v0, v1] := by
    match vs, hl with
    | [v0, v1], _ => exact ⟨v0, v1, rfl⟩
  have h0 := a1W (hr 0 v0 _ rfl rfl)
  have h1 := a1W (hr 1 v1 _ rfl rfl)
  subst h0; subst h1
  refine (Tryd.strings_Count_one ⟨l.toArray⟩ c E.w).mono ?_
  rintro e w' ⟨rfl, rfl⟩
  exact ⟨⟨_, rfl, fun E' => .int _ _⟩, Go.RowKit.Below.refl _ _⟩
theorem a6V (l : List UInt8) (c : UInt8) (hl : l.length ≤ 65536) : a0o Pr a2u [strU l, strU [c], .int .i64 0, .int .i64 (-1)] (.sl 1 ((a0s c l).map strU)) := by
  have hcl : Cl (.sl 1 ((a0s c l).map strU)) := .sl _ _ fun a ha => by
    obtain ⟨x, hx, ha⟩ := List.mem_flatMap.1 ha
    obtain ⟨y, _, rfl⟩ := List.mem_map.1 hx
    simp only [a8v, List.mem_cons, List.not_mem_nil, or_false] at ha
    subst ha; exact a1n y
  have hcn : l.count c ≤ l.length := List.count_le_length
  have e1 : binV .eql (strU [c]) (strU []) = some (.bool false) := by rw [a2R]; rfl
  have hm1 : ((-1 : Int) = 0) = False := eq_false (by omega)
  have hm2 : ((-1 : Int) < 0) = True := eq_true (by omega)
  have hw1 : IntKind.wrap .i64 (((l.count c : Nat) : Int) + 1) = ((l.count c + 1 : Nat) : Int) := by rw [a0g] <;> omega
  have hw2 : IntKind.wrap .i64 ((l.length : Int) + 1) = ((l.length + 1 : Nat) : Int) := by rw [a0g] <;> omega
  have hmn : (if ((l.length + 1 : Nat) : Int) < ((l.count c + 1 : Nat) : Int) then ((l.length + 1 : Nat) : Int) else ((l.count c + 1 : Nat) : Int)) = ((l.count c + 1 : Nat) : Int) := if_neg (by omega)
  have hw3 : IntKind.wrap .i64 (((l.count c + 1 : Nat) : Int) - 1) = ((l.count c : Nat) : Int) := by rw [a0g] <;> omega
  have hl1 : lenS (strU [c]) = some (.int .i64 1) := by rw [a0e]; rfl
  refine a0o.intro a9g a9e (Nat.le_of_ble_eq_true rfl) hcl fun H hH => ?_
  refine Safe.rg rfl ?_
  simp only [a4s, E3, seval]
  refine Safe.rg rfl ?_
  simp only [a4r, hm1, E3, seval]
  refine Safe.cd rfl ?_
  simp only [E3, seval]
  refine Safe.rg rfl ?_
  simp only [a4q, strE, e1, E3, seval]
  refine Safe.cd rfl ?_
  simp only [E3, seval]
  refine Safe.rg rfl ?_
  simp only [a4p, hm2, E3, seval]
  refine Safe.cd rfl ?_
  simp only [E3, seval]
  refine Safe.rg rfl ?_
  simp only [a4o, E3, seval]
  first | refine (a9i l c).acall ?_ | refine (a9i l c).dcall ?_ | refine (a9i l c).dgcall ?_
  try simp only [E3, seval]
  simp only [hw1, E3, seval]
  refine Safe.rg rfl ?_
  simp only [a4n, a0e, hw2, hmn, E3, seval]
  refine Safe.rg rfl ?_
  simp only [a4m, fun env => b7n env H [] 1 16 (strU []) .i64 .i64 (l.count c + 1) (l.count c + 1) (by decide) (Nat.le_refl _) (by omega) (by omega), strE, E3, seval]
  refine Safe.rg rfl ?_
  simp only [a4l, hw3, E3, seval]
  refine Safe.rg rfl ?_
  simp only [a3M, E3, seval]
  refine Safe.lp rfl ?_
  refine Safe.keep [0, 1, 2, 3, 9, 10] ?_
  simp only [E3, seval]
  have hst : ∀ (xs : List AV) (i : Nat) (p : List UInt8) (env : Env), i < xs.length → a4Z 1 (.loc (lid H 0) i 0) (strU p) env (hap H [some ⟨1, xs⟩]) = some (.top, env, hap H [some ⟨1, xs.set i (strU p)⟩]) := fun xs i p env h => by
    rw [b0T env H [some ⟨1, xs⟩] 1 0 i 0 (strU p) rfl h rfl rfl (Nat.le_refl _), a7u]; rfl
  have hix : ∀ (xs : List AV) (i : Nat), i < l.count c + 1 → idxV (hap H [some ⟨1, xs⟩]) 1 (.mu (lid H 0) 0 (l.count c + 1) (some (l.count c + 1))) (.int .i64 i) = some (.loc (lid H 0) i 0) := fun xs i h => by
    rw [b1r _ _ _ _ _ _ _ _ (by omega) (by omega), a1U]; simp
  refine Safe.loopW (fun a : List (List UInt8) × List UInt8 => a.2.count c) (fun a => [(0, strU a.2), (1, strU [c]), (2, .int .i64 0), (3, .int .i64 (l.count c : Nat)), (9, .mu (lid H 0) 0 (l.count c + 1) (some (l.count c + 1))), (10, .int .i64 a.1.length)])
    (fun a => hap H [some ⟨1, a.1.map strU ++ List.replicate (l.count c + 1 - a.1.length) (strU [])⟩]) (fun a => a0s c l = a.1 ++ a0s c a.2 ∧ a.1.length + a.2.count c = l.count c ∧ a.2.length ≤ 65536) ([], l) rfl rfl ⟨rfl, by simp, hl⟩ ?_
  rintro ⟨ps, r⟩ ⟨h1, h2, h3⟩ ih
  simp only at h1 h2 h3
  have hxl : (ps.map strU ++ List.replicate (l.count c + 1 - ps.length) (strU [])).length = l.count c + 1 := by simp; omega
  have hset : ∀ p : List UInt8, (ps.map strU ++ List.replicate (l.count c + 1 - ps.length) (strU [])).set ps.length (strU p) = (ps ++ [p]).map strU ++ List.replicate (l.count c + 1 - (ps ++ [p]).length) (strU []) := fun p => by
    rw [List.set_append_right _ _ (by simp), List.length_map, Nat.sub_self, show l.count c + 1 - ps.length = (l.count c + 1 - (ps ++ [p]).length) + 1 by simp; omega, List.replicate_succ, List.set_cons_zero]
    simp
  refine Safe.inLoop ?_
  by_cases hlt' : ps.length < l.count c
  · have hlt : ((ps.length : Int) < ((l.count c : Nat) : Int)) = True := eq_true (by omega)
    obtain ⟨m, g1, g2, g3, g4⟩ := b7M c r (by omega)
    have hix' := b8l r c
    rw [g1] at hix'
    have hm0 : ((m : Int) < 0) = False := eq_false (by omega)
    have hwm : IntKind.wrap .i64 ((m : Int) + 0) = ((m : Nat) : Int) := by rw [a0g] <;> omega
    have hwm1 : IntKind.wrap .i64 ((m : Int) + 1) = ((m + 1 : Nat) : Int) := by rw [a0g] <;> omega
    have hwi : IntKind.wrap .i64 ((ps.length : Int) + 1) = ((ps.length + 1 : Nat) : Int) := by rw [a0g] <;> omega
    refine Safe.rg rfl ?_
    simp only [a1I, hlt, E3, seval]
    refine Safe.cd rfl ?_
    simp only [E3, seval]
    refine Safe.rg rfl ?_
    simp only [a3L, E3, seval]
    first | refine (hix').acall ?_ | refine (hix').dcall ?_ | refine (hix').dgcall ?_
    try simp only [E3, seval]
    refine Safe.rg rfl ?_
    simp only [a3K, hm0, E3, seval]
    refine Safe.cd rfl ?_
    simp only [E3, seval]
    refine Safe.rg rfl ?_
    simp only [a3J, hwm, b9m r m (by omega), hix _ ps.length (by omega), fun env => hst _ ps.length (r.take m) env (by rw [hxl]; omega), hset, E3, seval]
    refine Safe.rg rfl ?_
    simp only [a3I, hl1, hwm1, b5Q r (m + 1) (by omega), E3, seval]
    refine Safe.rg rfl ?_
    simp only [a3H, hwi, E3, seval]
    refine Safe.keep [0, 1, 2, 3, 9, 10] ?_
    simp only [E3, seval]
    repeat (first | refine Safe.seq ?_ | refine Safe.skip ?_ | refine Safe.inBlock ?_ | refine Safe.block ?_ | refine Safe.exit rfl ?_)
    have hdc : r.count c = (r.drop (m + 1)).count c + 1 := by
      conv => lhs; rw [g4]
      rw [List.count_append, g3, List.count_cons]; simp
    have hn := ih (ps ++ [r.take m], r.drop (m + 1)) ⟨?_, by simp; omega, by simp; omega⟩ (by simp only; omega)
    · simp only [List.length_append, List.length_cons, List.length_nil, Nat.zero_add] at hn ⊢
      exact hn
    · rw [h1]
      conv => lhs; rw [g4, b0U c _ _ g3]
      simp
  · have hpe : ps.length = l.count c := by omega
    have hlt : ((ps.length : Int) < ((l.count c : Nat) : Int)) = False := eq_false (by omega)
    have hwi : IntKind.wrap .i64 ((ps.length : Int) + 1) = ((ps.length + 1 : Nat) : Int) := by rw [a0g] <;> omega
    rw [a9h c r (by omega)] at h1
    have hfin : (ps ++ [r]).map strU ++ List.replicate (l.count c + 1 - (ps ++ [r]).length) (strU []) = (a0s c l).map strU := by
      rw [h1, show l.count c + 1 - (ps ++ [r]).length = 0 by simp; omega]; simp
    have hslc : ∀ xs : List AV, slcV (hap H [some ⟨1, xs⟩]) 1 (.mu (lid H 0) 0 (l.count c + 1) (some (l.count c + 1))) none (some (.int .i64 ((ps.length + 1 : Nat) : Int))) none = some (.mu (lid H 0) 0 (l.count c + 1) (some (l.count c + 1))) := fun xs => by
      simp only [slcV, a1U, a3O, List.getElem?_cons_zero, Option.join_some, Option.bind_some]
      rw [if_pos ⟨trivial, by omega, by omega, by omega⟩]
      simp
      omega
    refine Safe.rg rfl ?_
    simp only [a1I, hlt, E3, seval]
    refine Safe.cd rfl ?_
    simp only [E3, seval]
    refine Safe.rg rfl ?_
    simp only [a3G, hix _ ps.length (by omega), fun env => hst _ ps.length r env (by rw [hxl]; omega), hset, hfin, E3, seval]
    refine Safe.rg rfl ?_
    simp only [a3F, hwi, hslc, E3, seval]
    refine Safe.freeze 0 hH rfl rfl (b := ⟨1, (a0s c l).map strU⟩) (fun a ha => by
      obtain ⟨x, hx, ha⟩ := List.mem_flatMap.1 ha
      obtain ⟨y, _, rfl⟩ := List.mem_map.1 hx
      simp only [a8v, List.mem_cons, List.not_mem_nil, or_false] at ha
      subst ha; exact a1n y) ?_
    refine Safe.keep [8] ?_
    simp only [b8S 0 1 strU (a0s c l) (l.count c + 1) (some (l.count c + 1)) (a2f c l).symm, E3, seval]
    refine Safe.rt rfl ?_
    simp only [E3, seval]
    exact ⟨_, rfl⟩
theorem b5d (l : List UInt8) (c : UInt8) (hl : l.length ≤ 65536) : a0o Pr a2v [strU l, strU [c]] (.sl 1 ((a0s c l).map strU)) := by
  have hcl : Cl (.sl 1 ((a0s c l).map strU)) := .sl _ _ fun a ha => by
    obtain ⟨x, hx, ha⟩ := List.mem_flatMap.1 ha
    obtain ⟨y, _, rfl⟩ := List.mem_map.1 hx
    simp only [a8v, List.mem_cons, List.not_mem_nil, or_false] at ha
    subst ha; exact a1n y
  refine a0o.intro b2J b2I (Nat.le_of_ble_eq_true rfl) hcl fun H hH => ?_
  refine Safe.rg rfl ?_
  simp only [a7b, E3, seval]
  refine Safe.rg rfl ?_
  simp only [a7a, E3, seval]
  first | refine (a6V l c hl).acall ?_ | refine (a6V l c hl).dcall ?_ | refine (a6V l c hl).dgcall ?_
  try simp only [E3, seval]
  refine Safe.rt rfl ?_
  simp only [E3, seval]
  exact ⟨_, rfl⟩
end Go.Abs
namespace Go.Abs
open Go.Proofs
theorem c1a (a b : UInt8) (h : a ≠ b) : ((a.toNat : Int) = (b.toNat : Int)) = False := eq_false fun e => h (by rw [c5c] at e; exact e)
end Go.Abs
namespace Go.Abs
theorem b3A (H : Heap) (ps : List (List UInt8)) (k : IntKind) (i : Nat) (h : i < ps.length) : idxV H 1 (.sl 1 (ps.map strU)) (.int k i) = some (.ro (strU ps[i]) 0) := c1m H 1 _ ps k i h
noncomputable def rdB (H : Heap) (s : List UInt8) (x : AV) : Heap := hap H [some ⟨1, [strU s]⟩, some ⟨1, [x]⟩]
end Go.Abs
namespace Go.Abs
open Go.Proofs Go.Shelf
theorem b1v : ∀ (l : List UInt8), (∃ c ∈ l, c ≠ 32) → ∃ c ∈ l.dropWhile (· == 32), c ≠ (32 : UInt8)
  | [], h => by obtain ⟨c, hc, _⟩ := h; cases hc
  | b :: l, ⟨c, hc, hn⟩ => by
    by_cases hb : b = 32
    · rw [List.dropWhile_cons_of_pos (by simpa using hb)]
      rcases List.mem_cons.1 hc with rfl | hc
      · exact absurd hb hn
      · exact b1v l ⟨c, hc, hn⟩
    · rw [List.dropWhile_cons_of_neg (by simpa using hb)]
      exact ⟨c, hc, hn⟩
theorem c5d {l : List UInt8} (h : ∃ c ∈ l, c ≠ 32) : b3s 32 (b3r 32 l) ≠ [] := by
  obtain ⟨c, hc, hn⟩ := h
  obtain ⟨d, hd, hdn⟩ := b1v l.reverse ⟨c, List.mem_reverse.2 hc, hn⟩
  obtain ⟨e, he, _⟩ := b1v (b3r 32 l) ⟨d, List.mem_reverse.2 hd, hdn⟩
  exact List.ne_nil_of_mem he
end Go.Abs
namespace Go.Abs
open Go.ChangeShapes Go.WideShapes
open Go.Proofs.YtkehcnbnmjmpbaaDoor.Rows (uptoBulk uptoBulkAll)
section
variable {K : Type} {enc : TypeId × Value → K} {P : Program} {w : World} {base : Nat} {sp : Nat → Bool} {held : Bool}
/-- No row is the call's own yet. -/
theorem c5E {φ : Nat → Option Nat} {b : Nat} : ¬ (Emb.mk φ [] w).Mut b := by
  rintro ⟨id, blk, h, _⟩; simp at h
theorem c5M (φ : Nat → Option Nat) (w : World) : HOk ⟨φ, [], w⟩ := ⟨fun id b _ h => by simp at h, fun id b h => by simp at h, fun id b _ h => by simp at h, fun id b h => by simp at h, fun i j b c _ h => by simp at h⟩
/-- A value read xs0 data d stands for the tree a. -/
structure Stands (w : World) (cs : List Value) (a : AV) : Prop where
  one : ∀ c ∈ cs, c.oneCell' = true
  len : cs.length = a.cells.length
  rep : ∀ (φ : Nat → Option Nat) (k : Nat) v c, cs[k]? = some v → a.cells[k]? = some c → Rep ⟨φ, [], w⟩ v c
/-- The types of numbers, vectors, matrices in a program. -/
structure Types (P : Program) (tm tv tz tb tn te : TypeId) : Prop where
  mat : P.underlying tm = some (.slice tv)
  vec : P.underlying tv = some (.slice tz)
  num : ∃ fs f0 f1, P.underlying tz = some (.struct fs) ∧ fs.toList = [f0, f1] ∧ (f0.type = tb ∧ f0.offset = 0) ∧ (f1.type = tn ∧ f1.offset = 1)
  bool : P.underlying tb = some .bool
  nat : P.underlying tn = some (.slice te)
  u32 : P.underlying te = some (.int .u32)
  cv : P.cellsOf tv = 1
  cz : P.cellsOf tz = 2
  cb : P.cellsOf tb = 1
  cn : P.cellsOf tn = 1
  ce : P.cellsOf te = 1
variable {tm tv tz tb tn te : TypeId}
end
end Go.Abs
namespace Go.Abs
open Go.ChangeShapes Go.WideShapes Go.RowKit
/-- A law's walk: it answers, and below the old end nothing turns. -/
theorem c1U {P : Program} {f : FuncId} {ss : List AV} {r : Bool} (hp : a0o P f ss (.bool r)) {args : Array Value} {W : World} (hl : args.size = ss.length) (hr : ∀ (k : Nat) v a, args.toList[k]? = some v → ss[k]? = some a → Rep ⟨fun _ => none, [], W⟩ v a) :
    Calls P f args W fun e W' => e = .returned (.bool r) ∧ Below W.heap.size W W' := by
  have h := (hp []).2 (fun _ => none) W args.toList (c5M _ _) (by simpa using hl) hr
  rw [Array.toArray_toList] at h
  refine h.mono ?_
  rintro e w' ⟨v, r', φ', H', rfl, ⟨rfl, rfl⟩, q1, q2, q3, q4⟩
  refine ⟨by rw [a0O q2], q4.os, q4.tape, q4.output, q4.size, fun k hk => q4.keep k hk c5E⟩
theorem Below.trodAll {K : Type} {enc : TypeId × Value → K} {P : Program} (hl : laidOutB P = true) {W W' : World} (hb : Below W.heap.size W W') : ∀ {ts : List TypeId} {vs : List Value} {ds : List (DataW K)} {ps : List MemPlace}, (ts.all fun t => P.readableRec t && decide (t < P.types.size)) = true →
    DataW.TrodAll enc P W 0 (fun _ => true) true ts vs ds ps → (∀ x ∈ ps, x.block < W.heap.size) → DataW.TrodAll enc P W' 0 (fun b => decide (b < W.heap.size)) true ts vs ds ps
  | [], [], [], _, _, h, _ => h
  | t :: ts, v :: vs, d :: ds, _, hts, ⟨p, q, h1, h2, e⟩, hlt => by
    simp only [List.all_cons, Bool.and_eq_true, decide_eq_true_eq] at hts
    exact ⟨p, q, Go.RowKit.Below.trod hl hts.1.1 hts.1.2 h1 hb (fun x hx => hlt x (by rw [e]; exact List.mem_append_left _ hx)), Below.trodAll hl hb (by simpa using hts.2) h2 (fun x hx => hlt x (by rw [e]; exact List.mem_append_right _ hx)), e⟩
  | [], _ :: _, _, _, _, h, _ => by simp [DataW.TrodAll] at h
  | [], [], _ :: _, _, _, h, _ => by simp [DataW.TrodAll] at h
  | _ :: _, [], _, _, _, h, _ => by simp [DataW.TrodAll] at h
  | _ :: _, _ :: _, [], _, _, h, _ => by simp [DataW.TrodAll] at h
/-- A law's promise: it answers true; what was handed in reads aXs it did. -/
theorem c3a {K : Type} {enc : TypeId × Value → K} {P : Program} {f : Func} {s : ChangeSpec} {fresh handsOn : Bool} {W W' : World} {args : Array Value} {ds gs : List (DataW K)} {before : List MemPlace} {tb : TypeId}
    (hW : DataW.Whole enc P f.params.toList s.vars false W args.toList ds gs before) (hv : s.vars = []) (hfn : s.fn K ds = { results := [.lit (.bool true)], args := ds }) (ht : f.resultTypes = #[tb]) (htb : P.underlying tb = some .bool)
    (hl : laidOutB P = true) (hts : (f.params.toList.all fun t => P.readableRec t && decide (t < P.types.size)) = true) (hb : Below W.heap.size W W') :
    s.post enc P f false fresh handsOn false W args (.bool true) W' := by
  have hW0 := hW
  obtain ⟨p, q, hA, hV, rfl, hz, hn⟩ := hW
  rw [hv] at hV
  obtain ⟨rfl, rfl⟩ := trodVars_none hV
  have hlt : ∀ x ∈ p, x.block < W.heap.size := fun x hx => by simpa using hW0.lt x (by simpa using hx)
  have hA' := Below.trodAll (enc := enc) hl hb hts hA hlt
  refine ⟨ds, [], p ++ [], [], p, [], hW0, ?_, ?_, ?_, ?_, by simp⟩
  · rw [List.append_nil, hfn, ht]
    exact trodAll_cons_mk (shut_bool htb true) trodAll_mk0
  · rw [List.append_nil, hfn]; exact hA'
  · rw [List.append_nil, hfn, hv]; rfl
  · refine ⟨hb.os, hb.output, fun i hi => ?_⟩
    have := (World.keptBut_refl W (fun x => x ∈ p ++ [] ∧ (x ∈ [] ∨ x ∈ p ∨ x ∈ []))).2.2 i hi
    rw [hb.block i hi]
    exact this
end Go.Abs
namespace Go.Abs
open Go.ChangeShapes Go.WideShapes Go.RowKit
open Go.Proofs.YtkehcnbnmjmpbaaDoor.Rows (uptoBulk uptoBulkAll)
section
variable {K : Type} {enc : TypeId × Value → K} {P : Program} {w : World} {base : Nat} {sp : Nat → Bool} {held : Bool} {tm tv tz tb tn te : TypeId} {v : Value} {fuel : Nat} {x : DataW K × List MemPlace} {b1 : Nat}
theorem c2s {c : Value} (h : v.cells.toList = [c]) (hn : ∀ cs, v ≠ .agg cs) : v = c := by
  cases v with
  | agg cs => exact absurd rfl (hn cs)
  | _ => exact (List.cons.inj h).1
end
end Go.Abs
namespace Go.Abs
def c5K (c : UInt8) : Bool := decide (48 ≤ c.toNat) && decide (c.toNat ≤ 57)
theorem c1W {c : UInt8} : c5K c = true ↔ isDg c := by simp [c5K, isDg]
/-- Are these the digits of a number (of a negative one)? -/
def numB (neg : Bool) (D : List UInt8) : Bool := decide (0 < D.length) && D.all c5K && !(decide ((D.getD 0 0).toNat = 48) && (decide (1 < D.length) || neg))
theorem a1G {neg : Bool} {D : List UInt8} : numB neg D = true ↔ 0 < D.length ∧ (∀ c ∈ D, isDg c) ∧ ((1 < D.length ∨ neg = true) → (D.getD 0 0).toNat ≠ 48) := by
  simp only [numB, Bool.and_eq_true, decide_eq_true_eq, List.all_eq_true, Bool.not_eq_true', Bool.and_eq_false_iff, decide_eq_false_iff_not, Bool.or_eq_false_iff, c1W]
  constructor
  · rintro ⟨⟨h1, h2⟩, h3⟩
    refine ⟨h1, h2, fun h4 => ?_⟩
    rcases h3 with h3 | ⟨h3, h5⟩
    · exact h3
    · rcases h4 with h4 | h4
      · exact absurd h4 h3
      · rw [h5] at h4; cases h4
  · rintro ⟨h1, h2, h3⟩
    refine ⟨⟨h1, h2⟩, ?_⟩
    by_cases h : 1 < D.length ∨ neg = true
    · exact .inl (h3 h)
    · exact .inr ⟨fun h' => h (.inl h'), by cases neg <;> simp_all⟩
theorem b2X {neg : Bool} {D : List UInt8} (h : numB neg D = true) : Dgs D (decV D) := by
  obtain ⟨h1, h2, h3⟩ := a1G.1 h
  refine ⟨h1, h2, fun h4 => ?_, rfl⟩
  by_cases h5 : 1 < D.length
  · exact h3 (.inl h5)
  · rcases h4 with h4 | h4
    · exact absurd h4 h5
    · intro e
      apply h4
      match D, h1, h5, e with
      | [c], _, _, e =>
        have : c.toNat = 48 := e
        simp [decV, this]
      | _ :: _ :: _, _, h5, _ => simp at h5
/-- The number of a text, if it is one. -/
def tokV : List UInt8 → Option Int
  | 45 :: D => if numB true D then some (sgn true (decV D)) else none
  | D => if numB false D then some (sgn false (decV D)) else none
theorem a5J {P D : List UInt8} (h : P = [45] ∨ (P = [] ∧ (D.getD 0 0).toNat ≠ 45)) : tokV (P ++ D) = if numB (decide (P.length = 1)) D then some (sgn (decide (P.length = 1)) (decV D)) else none := by
  rcases h with rfl | ⟨rfl, h⟩
  · rfl
  · match D, h with
    | [], _ => rfl
    | c :: D, h =>
      have hc : c ≠ 45 := fun e => h (by rw [e]; rfl)
      unfold tokV
      split
      · rename_i e
        cases e
        exact absurd rfl hc
      · rfl
/-- Its sign and its digits. -/
def tokN : List UInt8 → Bool
  | 45 :: _ => true
  | _ => false
def tokD : List UInt8 → List UInt8
  | 45 :: D => D
  | D => D
theorem b6N {D : List UInt8} (h : (D.getD 0 0).toNat ≠ 45) : tokN D = false ∧ tokD D = D := by
  match D, h with
  | [], _ => exact ⟨rfl, rfl⟩
  | c :: D, h =>
    have hc : c ≠ 45 := fun e => h (by rw [e]; rfl)
    constructor
    · unfold tokN
      split
      · rename_i e; cases e; exact absurd rfl hc
      · rfl
    · unfold tokD
      split
      · rename_i e; cases e; exact absurd rfl hc
      · rfl
def a3R : AV := .agg [.bool false, .nil]
def c0S : List AItem := [.code (.region a2j false), .code .ret]
theorem b8d {P D : List UInt8} (hP : P.length ≤ 1) (hlen : (P ++ D).length ≤ 65536) (hneg : P.length = 1 → 0 < D.length → (D.getD 0 0).toNat ≠ 48) {H : Heap} (hH : a0r H) {R : AV → Heap → Prop}
    (hbad : numB (decide (P.length = 1)) D = false → ∀ a : Int, R (.tup [a3R, .int .i64 a, .int .i64 4]) (hap H [some ⟨2, [a3R]⟩]))
    (hend : numB (decide (P.length = 1)) D = true → Safe (zrCx H) c0S [(0, strU (P ++ D)), (2, .loc (lid H 0) 0 0), (5, .int .i64 P.length), (7, natV (limbs (decV D)))] (hap H [some ⟨2, [a3R]⟩]) R) :
    Safe (zrCx H) [.code (.region a4W false), .code (.block 0 (.loop a7p)), .code b9h]
    [(0, strU (P ++ D)), (2, .loc (lid H 0) 0 0), (5, .int .i64 P.length)] (hap H [some ⟨2, [a3R]⟩]) R := by
  have hl : (P ++ D).length = P.length + D.length := List.length_append
  have hix : ∀ i, i < D.length → idxS (strU (P ++ D)) (.int .i64 ((P.length + i : Nat) : Int)) = some (.int .u8 ((D.getD i 0).toNat : Int)) := fun i hi => by
    rw [a2M _ _ (by omega), getD_app]
  unfold b9h zrCx a3R at *
  unfold c0S at hend
  refine Safe.rg rfl ?_
  simp only [a4W, E3, seval]
  refine Safe.lp rfl ?_
  refine Safe.keep [0, 2, 5, 6] ?_
  simp only [E3, seval]
  refine Safe.loopP D.length (fun i => [(0, strU (P ++ D)), (2, .loc (lid H 0) 0 0), (5, .int .i64 P.length), (6, .int .i64 ((P.length + i : Nat) : Int))]) (fun _ => hap H [some ⟨2, [.agg [.bool false, .nil]]⟩]) (fun i => (∀ j, j < i → isDg (D.getD j 0)) ∧ (1 < i → (D.getD 0 0).toNat ≠ 48)) rfl rfl ⟨fun j h => absurd h (Nat.not_lt_zero _), fun h => absurd h (by omega)⟩ (fun i hi hp ih => ?_) fun hp => ?_
  · have hlt : (((P.length + i : Nat) : Int) < ((P ++ D).length : Int)) = True := eq_true (by omega)
    have hw1 : IntKind.wrap .i64 ((P.length : Int) + 1) = ((P.length + 1 : Nat) : Int) := by rw [a0g] <;> omega
    have hiw : IntKind.wrap .i64 (((P.length + i : Nat) : Int) + 1) = ((P.length + (i + 1) : Nat) : Int) := by rw [a0g] <;> omega
    have hnb : (¬ isDg (D.getD i 0) ∨ (i = 1 ∧ (D.getD 0 0).toNat = 48)) → numB (decide (P.length = 1)) D = false := fun h => by
      rw [← Bool.not_eq_true, a1G]
      rintro ⟨q1, q2, q3⟩
      rcases h with h | ⟨rfl, h⟩
      · exact h (b8R q2 hi)
      · exact q3 (.inl hi) h
    refine Safe.inLoop ?_
    refine Safe.rg rfl ?_
    simp only [a7n, a0e, hlt, E3, seval]
    refine Safe.cd rfl ?_
    simp only [E3, seval]
    by_cases hd : isDg (D.getD i 0)
    · have hd' := hd
      unfold isDg at hd'
      have h48 : (((D.getD i 0).toNat : Int) < 48) = False := eq_false (by omega)
      have h57 : (((D.getD i 0).toNat : Int) > 57) = False := eq_false (by omega)
      by_cases h1 : i = 1
      · subst h1
        have h0 := hix 0 (by omega)
        rw [Nat.add_zero] at h0
        by_cases hz : (D.getD 0 0).toNat = 48
        · have h00 : (((D.getD 0 0).toNat : Int) = 48) = True := eq_true (by omega)
          refine Safe.rg rfl ?_
          simp only [a1C, hix 1 hi, h48, h57, hw1, h0, h00, E3, seval]
          refine Safe.cd rfl ?_
          simp only [E3, seval]
          refine Safe.rg rfl ?_
          simp only [a3Q, E3, seval]
          refine Safe.rt rfl ?_
          simp only [one3, E3, seval]
          exact hbad (hnb (.inr ⟨rfl, hz⟩)) _
        · have h00 : (((D.getD 0 0).toNat : Int) = 48) = False := eq_false (by omega)
          refine Safe.rg rfl ?_
          simp only [a1C, hix 1 hi, h48, h57, hw1, h0, h00, E3, seval]
          refine Safe.cd rfl ?_
          simp only [E3, seval]
          refine Safe.rg rfl ?_
          simp only [a6v, hiw, E3, seval]
          refine Safe.keep [0, 2, 5, 6] ?_
          simp only [E3, seval]
          exact ih ⟨fun j hj => by
            by_cases e : j = 1
            · subst e; exact hd
            · exact hp.1 j (by omega), fun _ => hz⟩
      · have h11 : (((P.length + i : Nat) : Int) = ((P.length + 1 : Nat) : Int)) = False := eq_false (by omega)
        refine Safe.rg rfl ?_
        simp only [a1C, hix i hi, h48, h57, hw1, h11, E3, seval]
        refine Safe.cd rfl ?_
        simp only [E3, seval]
        refine Safe.rg rfl ?_
        simp only [a6v, hiw, E3, seval]
        refine Safe.keep [0, 2, 5, 6] ?_
        simp only [E3, seval]
        exact ih ⟨fun j hj => by
            by_cases e : j = i
            · subst e; exact hd
            · exact hp.1 j (by omega), fun h => hp.2 (by omega)⟩
    · by_cases h48' : (D.getD i 0).toNat < 48
      · have h48 : (((D.getD i 0).toNat : Int) < 48) = True := eq_true (by omega)
        refine Safe.rg rfl ?_
        simp only [a1C, hix i hi, h48, E3, seval]
        refine Safe.cd rfl ?_
        simp only [E3, seval]
        refine Safe.rg rfl ?_
        simp only [a3Q, E3, seval]
        refine Safe.rt rfl ?_
        simp only [one3, E3, seval]
        exact hbad (hnb (.inl hd)) _
      · have h48 : (((D.getD i 0).toNat : Int) < 48) = False := eq_false (by omega)
        have h57 : (((D.getD i 0).toNat : Int) > 57) = True := eq_true (by unfold isDg at hd; omega)
        refine Safe.rg rfl ?_
        simp only [a1C, hix i hi, h48, h57, E3, seval]
        refine Safe.cd rfl ?_
        simp only [E3, seval]
        refine Safe.rg rfl ?_
        simp only [a3Q, E3, seval]
        refine Safe.rt rfl ?_
        simp only [one3, E3, seval]
        exact hbad (hnb (.inl hd)) _
  · refine Safe.inLoop ?_
    have hlt : (((P.length + D.length : Nat) : Int) < ((P ++ D).length : Int)) = False := eq_false (by omega)
    refine Safe.rg rfl ?_
    simp only [a7n, a0e, hlt, E3, seval]
    refine Safe.cd rfl ?_
    simp only [E3, seval]
    by_cases hD0 : D.length = 0
    · have hne : ((P.length : Int) = ((P ++ D).length : Int)) = True := eq_true (by omega)
      refine Safe.rg rfl ?_
      simp only [a3P, a0e, hne, E3, seval]
      refine Safe.cd rfl ?_
      simp only [E3, seval]
      refine Safe.rg rfl ?_
      simp only [a6u, E3, seval]
      refine Safe.rt rfl ?_
      simp only [one3, E3, seval]
      refine hbad ?_ _
      rw [← Bool.not_eq_true, a1G]
      rintro ⟨q1, _⟩
      omega
    have hgd : numB (decide (P.length = 1)) D = true := a1G.2 ⟨by omega, fun c hc => by
      obtain ⟨j, hj, rfl⟩ := List.getElem_of_mem hc
      have := hp.1 j hj
      rwa [List.getD_eq_getElem?_getD, List.getElem?_eq_getElem hj] at this, fun h => by
      rcases h with h | h
      · exact hp.2 h
      · exact hneg (of_decide_eq_true h) (by omega)⟩
    have hend := hend hgd
    have hD := b2X hgd
    have hDp := hD.pos
    have hne : ((P.length : Int) = ((P ++ D).length : Int)) = False := eq_false (by omega)
    refine Safe.rg rfl ?_
    simp only [a3P, a0e, hne, E3, seval]
    refine Safe.cd rfl ?_
    simp only [E3, seval]
    refine Safe.rg rfl ?_
    simp only [a6t, E3, seval]
    refine Safe.nilsl 7 1 (by decide) (by simp only [E3, seval]) ?_
    refine Safe.rg rfl ?_
    simp only [a6s, E3, seval]
    refine Safe.lp rfl ?_
    refine Safe.keep [0, 2, 5, 7, 8] ?_
    simp only [E3, seval]
    refine Safe.loopW (fun k : Nat => D.length - k) (fun k => [(0, strU (P ++ D)), (2, .loc (lid H 0) 0 0), (5, .int .i64 P.length), (7, natV (limbs (decV (D.take k)))), (8, .int .i64 ((P.length + k : Nat) : Int))]) (fun _ => hap H [some ⟨2, [.agg [.bool false, .nil]]⟩])
      (fun k => k ≤ D.length) 0 (by rw [List.take_zero, b6z, a0y]; rfl) rfl (Nat.zero_le _) ?_
    intro k hk ih
    refine Safe.inLoop ?_
    by_cases hkd : k < D.length
    · have hlt : (((P.length + k : Nat) : Int) < ((P ++ D).length : Int)) = True := eq_true (by omega)
      have hsub : IntKind.wrap .i64 (((P ++ D).length : Int) - ((P.length + k : Nat) : Int)) = ((D.length - k : Nat) : Int) := by rw [a0g] <;> omega
      have hmn : (if ((D.length - k : Nat) : Int) < 9 then ((D.length - k : Nat) : Int) else 9) = ((min 9 (D.length - k) : Nat) : Int) := by split <;> omega
      have hn9 : min 9 (D.length - k) ≤ 9 := Nat.min_le_left _ _
      have hnk : k + min 9 (D.length - k) ≤ D.length := by omega
      have hn0 : 0 < min 9 (D.length - k) := by omega
      refine Safe.rg rfl ?_
      simp only [a6r, a0e, hlt, E3, seval]
      refine Safe.cd rfl ?_
      simp only [E3, seval]
      refine Safe.rg rfl ?_
      simp only [a9C, a0e, hsub, hmn, E3, seval]
      generalize min 9 (D.length - k) = n at *
      refine Safe.rg rfl ?_
      simp only [a9B, E3, seval]
      refine Safe.rg rfl ?_
      simp only [a9A, E3, seval]
      refine Safe.lp rfl ?_
      refine Safe.keep [0, 2, 5, 7, 8, 9, 10, 83, 84] ?_
      simp only [E3, seval]
      refine Safe.loopN n (fun j => [(0, strU (P ++ D)), (2, .loc (lid H 0) 0 0), (5, .int .i64 P.length), (7, natV (limbs (decV (D.take k)))), (8, .int .i64 ((P.length + (k + j) : Nat) : Int)), (9, .int .i64 n), (10, .int .u32 (decV ((D.drop k).take j) : Nat)), (83, .int .i64 n), (84, .int .i64 j)]) (fun _ => hap H [some ⟨2, [.agg [.bool false, .nil]]⟩]) rfl rfl (fun j hj ih2 => ?_) ?_
      · have hltj : ((j : Int) < (n : Int)) = True := eq_true (by omega)
        have hdg := b8R hD.dg (i := k + j) (by omega)
        unfold isDg at hdg
        have hv : decV ((D.drop k).take j) < 10 ^ j := by
          have := a5D (l := (D.drop k).take j) fun c hc => hD.dg c (List.mem_of_mem_drop (List.mem_of_mem_take hc))
          rwa [List.length_take, List.length_drop, Nat.min_eq_left (by omega)] at this
        have hp : 10 ^ j ≤ 10 ^ 8 := Nat.pow_le_pow_right (by decide) (by omega)
        have hw10 : IntKind.wrap .u32 (10 * (decV ((D.drop k).take j) : Int)) = ((10 * decV ((D.drop k).take j) : Nat) : Int) := by
          rw [show (10 * (decV ((D.drop k).take j) : Int)) = ((10 * decV ((D.drop k).take j) : Nat) : Int) by omega]
          exact a9F (by omega)
        have hw8 : IntKind.wrap .u8 (((D.getD (k + j) 0).toNat : Int) - 48) = (((D.getD (k + j) 0).toNat - 48 : Nat) : Int) := by
          rw [show (((D.getD (k + j) 0).toNat : Int) - 48) = (((D.getD (k + j) 0).toNat - 48 : Nat) : Int) by omega]
          exact b9j (by omega)
        have hwc : IntKind.wrap .u32 (((D.getD (k + j) 0).toNat - 48 : Nat) : Int) = (((D.getD (k + j) 0).toNat - 48 : Nat) : Int) := a9F (by omega)
        have hwa : IntKind.wrap .u32 (((10 * decV ((D.drop k).take j) : Nat) : Int) + (((D.getD (k + j) 0).toNat - 48 : Nat) : Int)) = (decV ((D.drop k).take (j + 1)) : Nat) := by
          rw [a5j (by omega), b7T, ← Int.natCast_add]
          exact a9F (by omega)
        have hjw : IntKind.wrap .i64 ((j : Int) + 1) = ((j + 1 : Nat) : Int) := by rw [a0g] <;> omega
        have hiw : IntKind.wrap .i64 (((P.length + (k + j) : Nat) : Int) + 1) = ((P.length + (k + (j + 1)) : Nat) : Int) := by rw [a0g] <;> omega
        refine Safe.inLoop ?_
        refine Safe.rg rfl ?_
        simp only [a6q, hltj, E3, seval]
        refine Safe.cd rfl ?_
        simp only [E3, seval]
        refine Safe.rg rfl ?_
        simp only [a9z, hix (k + j) (by omega), hw10, hw8, hwc, hwa, E3, seval]
        refine Safe.rg rfl ?_
        simp only [a9y, hiw, E3, seval]
        refine Safe.rg rfl ?_
        simp only [a9x, hjw, E3, seval]
        refine Safe.keep [0, 2, 5, 7, 8, 9, 10, 83, 84] ?_
        simp only [E3, seval]
        exact ih2
      · refine Safe.inLoop ?_
        refine Safe.rg rfl ?_
        simp only [a6q, Int.lt_irrefl, E3, seval]
        refine Safe.cd rfl ?_
        simp only [E3, seval]
        have hM : decV (D.take k) < 10 ^ k := by
          have := a5D (l := D.take k) fun c hc => hD.dg c (List.mem_of_mem_take hc)
          rwa [List.length_take, Nat.min_eq_left (by omega)] at this
        have hv : decV ((D.drop k).take n) < 10 ^ n := by
          have := a5D (l := (D.drop k).take n) fun c hc => hD.dg c (List.mem_of_mem_drop (List.mem_of_mem_take hc))
          rwa [List.length_take, List.length_drop, Nat.min_eq_left (by omega)] at this
        have hp9 : 10 ^ n ≤ 10 ^ 9 := Nat.pow_le_pow_right (by decide) hn9
        have hLB : LB = 4294967296 := rfl
        have hmul := b8t (limbs (decV (D.take k))) [10 ^ n] (a5Y hM (by omega)) ⟨by intro d hd; simp at hd; omega, by simp⟩ (by have := (a5Y hM (by omega)).len; have := a1x (Nat.lt_of_lt_of_le hM (b7j k)); simp; omega)
        rw [a1c, b5K] at hmul
        have hMn : decV (D.take k) * 10 ^ n < 10 ^ (k + n) := by
          rw [Nat.pow_add]
          exact Nat.mul_lt_mul_of_pos_right hM (Nat.pow_pos (by decide))
        have hadd := b8u (limbs (decV (D.take k) * 10 ^ n)) [decV ((D.drop k).take n)] (a4I _) (by intro d hd; simp at hd; omega) (by have := a1x (Nat.lt_of_lt_of_le hMn (b7j (k + n))); omega) (by simp)
        have happ : decV (D.take k) * 10 ^ n + decV ((D.drop k).take n) = decV (D.take (k + n)) := by
          rw [b5N, b9H, List.length_take, List.length_drop, Nat.min_eq_left (by omega)]
        rw [a1c, b5K, happ] at hadd
        refine Safe.rg rfl ?_
        simp only [a9w, E3, seval]
        first | refine (b0Z n hn9).acall ?_ | refine (b0Z n hn9).dcall ?_ | refine (b0Z n hn9).dgcall ?_
        try simp only [E3, seval]
        first | refine (hmul).acall ?_ | refine (hmul).dcall ?_ | refine (hmul).dgcall ?_
        try simp only [E3, seval]
        first | refine (hadd).acall ?_ | refine (hadd).dcall ?_ | refine (hadd).dgcall ?_
        try simp only [E3, seval]
        refine Safe.keep [0, 2, 5, 7, 8] ?_
        simp only [E3, seval]
        repeat (first | refine Safe.seq ?_ | refine Safe.skip ?_ | refine Safe.inBlock ?_ | refine Safe.block ?_ | refine Safe.exit rfl ?_)
        exact ih (k + n) (by omega) (by omega)
    · have hkk : k = D.length := by omega
      subst hkk
      have hlt : (((P.length + D.length : Nat) : Int) < ((P ++ D).length : Int)) = False := eq_false (by omega)
      have hM := a5D hD.dg
      refine Safe.rg rfl ?_
      simp only [a6r, a0e, hlt, E3, seval]
      refine Safe.cd rfl ?_
      simp only [E3, seval]
      refine Safe.keep [0, 2, 5, 7] ?_
      simp only [E3, seval]
      repeat (first | refine Safe.seq ?_ | refine Safe.skip ?_ | refine Safe.inBlock ?_ | refine Safe.block ?_ | refine Safe.exit rfl ?_)
      rw [List.take_length]
      exact hend
theorem b0R (t : List UInt8) (hlen : t.length ≤ 65536) {H : Heap} (hH : a0r H) {R : AV → Heap → Prop}
    (hbad : tokV t = none → ∀ a : Int, R (.tup [a3R, .int .i64 a, .int .i64 4]) (hap H [some ⟨2, [a3R]⟩]))
    (hend : ∀ neg D, neg = tokN t → D = tokD t → tokV t = some (sgn neg (decV D)) → numB neg D = true → D.length ≤ 65536 → Safe (zrCx H) c0S [(0, strU t), (2, .loc (lid H 0) 0 0), (5, .int .i64 (if neg then 1 else 0)), (7, natV (limbs (decV D)))] (hap H [some ⟨2, [a3R]⟩]) R) :
    Safe (zrCx H) [.code b3i] (a8G 0 [strU t]) (hap H []) R := by
  have hbig : ((t.length : Int) > 65536) = False := eq_false (by omega)
  have main : ∀ P D : List UInt8, t = P ++ D → (P = [45] ∨ (P = [] ∧ (D.getD 0 0).toNat ≠ 45)) → (P.length = 1 → 0 < D.length → (D.getD 0 0).toNat ≠ 48) →
      Safe (zrCx H) [.code (.region a4W false), .code (.block 0 (.loop a7p)), .code b9h] [(0, strU t), (2, .loc (lid H 0) 0 0), (5, .int .i64 P.length)] (hap H [some ⟨2, [a3R]⟩]) R := by
    intro P D ht hP hneg
    subst ht
    have htv := a5J hP
    refine b8d (by rcases hP with rfl | ⟨rfl, _⟩ <;> simp) hlen hneg hH (fun hn => hbad (by rw [htv, if_neg (by rw [hn]; simp)])) fun hg => ?_
    rw [if_pos hg] at htv
    have h1 : decide (P.length = 1) = tokN (P ++ D) ∧ D = tokD (P ++ D) := by
      rcases hP with rfl | ⟨rfl, h⟩
      · exact ⟨rfl, rfl⟩
      · have := b6N h
        exact ⟨this.1.symm, this.2.symm⟩
    have := hend _ D h1.1 h1.2 htv hg (by rw [List.length_append] at hlen; omega)
    rcases hP with rfl | ⟨rfl, _⟩ <;> exact this
  unfold zrCx b9h a3R at *
  refine Safe.rg rfl ?_
  simp only [b1E, E3, seval]
  refine Safe.rg rfl ?_
  simp only [b1D, a0e, hbig, E3, seval]
  refine Safe.cd rfl ?_
  simp only [E3, seval]
  refine Safe.rg rfl ?_
  simp only [b1C, E3, seval]
  by_cases hz : 0 < t.length
  · have hgt0 : ((t.length : Int) > 0) = True := eq_true (by omega)
    have hi0 := a6h t .i64 hz
    by_cases h45 : (t.getD 0 0).toNat = 45
    · have h45' : (((t.getD 0 0).toNat : Int) = 45) = True := eq_true (by omega)
      have htP : t = [45] ++ t.tail := by
        match t, hz with
        | c :: t, _ =>
          have h : c.toNat = (45 : UInt8).toNat := h45
          have : c = 45 := UInt8.toNat_inj.1 h
          subst this; rfl
      refine Safe.rg rfl ?_
      simp only [a4X, a0e, hgt0, hi0, h45', E3, seval]
      refine Safe.cd rfl ?_
      simp only [E3, seval]
      refine Safe.rg rfl ?_
      simp only [b1B, E3, seval]
      by_cases h1' : 1 < t.length
      · have h1 : ((t.length : Int) > 1) = True := eq_true (by omega)
        have hi1 := b7N t .i64 h1'
        have he : t.getD 1 0 = t.tail.getD 0 0 := by
          match t, h1' with
          | _ :: _ :: _, _ => rfl
        by_cases h48 : (t.getD 1 0).toNat = 48
        · have h48' : (((t.getD 1 0).toNat : Int) = 48) = True := eq_true (by omega)
          refine Safe.rg rfl ?_
          simp only [a2a, a0e, h1, hi1, h48', E3, seval]
          refine Safe.cd rfl ?_
          simp only [E3, seval]
          refine Safe.rg rfl ?_
          simp only [b1A, E3, seval]
          refine Safe.rt rfl ?_
          simp only [one3, E3, seval]
          refine hbad ?_ _
          rw [htP, a5J (.inl rfl), if_neg]
          rw [a1G]
          rintro ⟨_, _, q3⟩
          exact q3 (.inr rfl) (by rw [← he]; exact h48)
        · have h48' : (((t.getD 1 0).toNat : Int) = 48) = False := eq_false (by omega)
          refine Safe.rg rfl ?_
          simp only [a2a, a0e, h1, hi1, h48', E3, seval]
          refine Safe.cd rfl ?_
          simp only [E3, seval]
          refine Safe.keep [0, 2, 5] ?_
          simp only [E3, seval]
          repeat (first | refine Safe.seq ?_ | refine Safe.skip ?_ | refine Safe.inBlock ?_ | refine Safe.block ?_ | refine Safe.exit rfl ?_)
          exact main [45] t.tail htP (.inl rfl) fun _ _ => by rw [← he]; exact h48
      · have h1 : ((t.length : Int) > 1) = False := eq_false (by omega)
        refine Safe.rg rfl ?_
        simp only [a2a, a0e, h1, E3, seval]
        refine Safe.cd rfl ?_
        simp only [E3, seval]
        refine Safe.keep [0, 2, 5] ?_
        simp only [E3, seval]
        repeat (first | refine Safe.seq ?_ | refine Safe.skip ?_ | refine Safe.inBlock ?_ | refine Safe.block ?_ | refine Safe.exit rfl ?_)
        exact main [45] t.tail htP (.inl rfl) fun _ h => absurd h (by rw [List.length_tail]; omega)
    · have h45' : (((t.getD 0 0).toNat : Int) = 45) = False := eq_false (by omega)
      refine Safe.rg rfl ?_
      simp only [a4X, a0e, hgt0, hi0, h45', E3, seval]
      refine Safe.cd rfl ?_
      simp only [E3, seval]
      refine Safe.rg rfl ?_
      simp only [a2a, E3, seval]
      refine Safe.cd rfl ?_
      simp only [E3, seval]
      refine Safe.keep [0, 2, 5] ?_
      simp only [E3, seval]
      repeat (first | refine Safe.seq ?_ | refine Safe.skip ?_ | refine Safe.inBlock ?_ | refine Safe.block ?_ | refine Safe.exit rfl ?_)
      exact main [] t rfl (.inr ⟨rfl, h45⟩) fun h => by simp at h
  · have hgt0 : ((t.length : Int) > 0) = False := eq_false (by omega)
    have ht0 : t = [] := List.length_eq_zero_iff.1 (by omega)
    refine Safe.rg rfl ?_
    simp only [a4X, a0e, hgt0, E3, seval]
    refine Safe.cd rfl ?_
    simp only [E3, seval]
    refine Safe.rg rfl ?_
    simp only [a2a, E3, seval]
    refine Safe.cd rfl ?_
    simp only [E3, seval]
    refine Safe.keep [0, 2, 5] ?_
    simp only [E3, seval]
    repeat (first | refine Safe.seq ?_ | refine Safe.skip ?_ | refine Safe.inBlock ?_ | refine Safe.block ?_ | refine Safe.exit rfl ?_)
    exact main [] t rfl (.inr ⟨rfl, by rw [ht0]; decide⟩) fun h => by simp at h
theorem c2L {t : List UInt8} (hlen : t.length ≤ 65536) {z : Int} (hz : tokV t = some z) : a0o Pr a1A [strU t] (.tup [Z z, .int .i64 0, .int .i64 0]) := by
  refine a0o.intro a7q a7o (Nat.le_of_ble_eq_true rfl) (a5F (Z_cl _) (.int _ _) (.int _ _)) fun H hH => ?_
  refine b0R t hlen hH (fun h => by rw [hz] at h; cases h) fun neg D _ _ h1 h2 h3 => ?_
  rw [hz] at h1
  cases h1
  have hD := b2X h2
  have hM := a5D hD.dg
  have hmd := c1P neg (limbs (decV D)) (a5Y hM h3)
  rw [a1c] at hmd
  have hdec : decide ((if neg = true then (1 : Int) else 0) = 1) = neg := by cases neg <;> rfl
  unfold zrCx c0S a3R
  refine Safe.rg rfl ?_
  simp only [a2j, hdec, E3, seval]
  first | refine (hmd).acall ?_ | refine (hmd).dcall ?_ | refine (hmd).dgcall ?_
  try simp only [E3, seval]
  refine Safe.rt rfl ?_
  simp only [one3, E3, seval]
  exact ⟨rfl, _, rfl⟩
theorem ACalls.cutP {P : Program} {f : FuncId} {args : List AV} {H : Heap} {p : AV → Prop} (hp : ∀ r, p r → Cl r) (h : ACalls P f args H fun r' H' => p r' ∧ ∃ L, H' = hap H L) : ACalls P f args H fun r' H' => p r' ∧ H' = H := by
  refine ⟨h.1, fun φ w vs hok hl hrep => (h.2 φ w vs hok hl hrep).mono ?_⟩
  rintro e w' ⟨v, r', φ', H', rfl, ⟨hle, L, rfl⟩, q1, q2, q3, q4⟩
  have hfree : ∀ (j : Nat) bj, j < H.length → (hap H L)[j]? = some (some bj) → ∀ a ∈ bj.flat, Ref (· < H.length) a := by
    intro j bj hj hb
    simp only [hap] at hb
    rw [List.getElem?_append_left hj] at hb
    exact hok.refs hb
  have hcut := HOk.cut q1 H.length hfree
  have ht : (hap H L).take H.length = H := by simp [hap]
  simp only [ht] at hcut
  exact ⟨v, r', φ', H, rfl, ⟨hle, rfl⟩, hcut.1, q2.mono hcut.2 (hp _ hle).ref, Nat.le_refl _, q4.trans hcut.2⟩
theorem b5G : Cl a3R := .agg _ fun c hc => by
  simp only [List.mem_cons, List.not_mem_nil, or_false] at hc
  rcases hc with rfl | rfl
  · exact .bool _
  · exact .nil
theorem c0R {t : List UInt8} (hlen : t.length ≤ 65536) (hz : tokV t = none) (H : Heap) : ACalls Pr a1A [strU t] H fun r' H' => (∃ a : Int, r' = .tup [a3R, .int .i64 a, .int .i64 4]) ∧ H' = H := by
  refine ACalls.cutP (fun r ⟨a, e⟩ => by rw [e]; exact a5F b5G (.int _ _) (.int _ _)) ?_
  refine ACalls.open a7q a7o (Nat.le_of_ble_eq_true rfl) fun hH => ?_
  exact b0R t hlen hH (fun _ a => ⟨⟨a, rfl⟩, _, rfl⟩) fun neg D _ _ h1 h2 h3 => by rw [hz] at h1; cases h1
end Go.Abs
namespace Go.Abs
theorem b3N (D : List UInt8) (hlen : D.length ≤ 65536) {H : Heap} (hH : a0r H) {R : AV → Heap → Prop}
    (hbad : numB false D = false → ∀ a : Int, R (.tup [.nil, .int .i64 a, .int .i64 4]) (hap H []))
    (hgood : numB false D = true → R (.tup [natV (limbs (decV D)), .int .i64 0, .int .i64 0]) (hap H [])) :
    Safe ⟨Pr, fun _ _ => false, a2h, 50, [.tmp 2, .tmp 3, .tmp 4], H.length⟩ [.code b1O] (a8G 0 [strU D]) (hap H []) R := by
  have hbig : ((D.length : Int) > 65536) = False := eq_false (by omega)
  refine Safe.rg rfl ?_
  simp only [b0m, E3, Nat.reduceLeDiff, Nat.reduceSub, Nat.reduceAdd, Nat.reduceEqDiff, reduceCtorEq, ↓reduceIte]
  refine Safe.rg rfl ?_
  simp only [b0l, a0e, hbig, E3, Nat.reduceLeDiff, Nat.reduceSub, Nat.reduceAdd, Nat.reduceEqDiff, reduceCtorEq, ↓reduceIte]
  refine Safe.cd rfl ?_
  simp only [E3, Nat.reduceLeDiff, Nat.reduceSub, Nat.reduceAdd, Nat.reduceEqDiff, reduceCtorEq, ↓reduceIte]
  by_cases hD0 : D.length = 0
  · have hz : ((D.length : Int) = 0) = True := eq_true (by omega)
    refine Safe.rg rfl ?_
    simp only [a6L, a0e, hz, E3, Nat.reduceLeDiff, Nat.reduceSub, Nat.reduceAdd, Nat.reduceEqDiff, reduceCtorEq, ↓reduceIte]
    refine Safe.cd rfl ?_
    simp only [E3, Nat.reduceLeDiff, Nat.reduceSub, Nat.reduceAdd, Nat.reduceEqDiff, reduceCtorEq, ↓reduceIte]
    refine Safe.rg rfl ?_
    simp only [b0k, E3, Nat.reduceLeDiff, Nat.reduceSub, Nat.reduceAdd, Nat.reduceEqDiff, reduceCtorEq, ↓reduceIte]
    refine Safe.rt rfl ?_
    simp only [one3, E3, Nat.reduceLeDiff, Nat.reduceSub, Nat.reduceAdd, Nat.reduceEqDiff, reduceCtorEq, ↓reduceIte]
    refine hbad ?_ _
    rw [← Bool.not_eq_true, a1G]
    rintro ⟨q1, _⟩
    omega
  have hz : ((D.length : Int) = 0) = False := eq_false (by omega)
  refine Safe.rg rfl ?_
  simp only [a6L, a0e, hz, E3, Nat.reduceLeDiff, Nat.reduceSub, Nat.reduceAdd, Nat.reduceEqDiff, reduceCtorEq, ↓reduceIte]
  refine Safe.cd rfl ?_
  simp only [E3, Nat.reduceLeDiff, Nat.reduceSub, Nat.reduceAdd, Nat.reduceEqDiff, reduceCtorEq, ↓reduceIte]
  refine Safe.rg rfl ?_
  simp only [b0j, E3, Nat.reduceLeDiff, Nat.reduceSub, Nat.reduceAdd, Nat.reduceEqDiff, reduceCtorEq, ↓reduceIte]
  refine Safe.nilsl 5 1 (by decide) (by simp only [E3, Nat.reduceLeDiff, Nat.reduceSub, Nat.reduceAdd, Nat.reduceEqDiff, reduceCtorEq, ↓reduceIte]) ?_
  refine Safe.rg rfl ?_
  simp only [b0i, E3, Nat.reduceLeDiff, Nat.reduceSub, Nat.reduceAdd, Nat.reduceEqDiff, reduceCtorEq, ↓reduceIte]
  refine Safe.lp rfl ?_
  refine Safe.keep [0, 5, 6] ?_
  simp only [E3, Nat.reduceLeDiff, Nat.reduceSub, Nat.reduceAdd, Nat.reduceEqDiff, reduceCtorEq, ↓reduceIte]
  refine Safe.loopP D.length (fun i => [(0, strU D), (5, natV (limbs (decV (D.take i)))), (6, .int .i64 i)]) (fun _ => hap H []) (fun i => (∀ j, j < i → isDg (D.getD j 0)) ∧ (1 < i → (D.getD 0 0).toNat ≠ 48)) (by rw [List.take_zero, b6z, a0y]; rfl) rfl ⟨fun j h => absurd h (Nat.not_lt_zero _), fun h => absurd h (by omega)⟩ (fun i hi hp ih => ?_) fun hp => ?_
  · have hlt : ((i : Int) < (D.length : Int)) = True := eq_true (by omega)
    have hiw : IntKind.wrap .i64 ((i : Int) + 1) = ((i + 1 : Nat) : Int) := by rw [a0g] <;> omega
    have hix := a2M D .i64 hi
    have hnb : (¬ isDg (D.getD i 0) ∨ (i = 1 ∧ (D.getD 0 0).toNat = 48)) → numB false D = false := fun h => by
      rw [← Bool.not_eq_true, a1G]
      rintro ⟨q1, q2, q3⟩
      rcases h with h | ⟨rfl, h⟩
      · exact h (b8R q2 hi)
      · exact q3 (.inl hi) h
    have add : isDg (D.getD i 0) → (1 < i + 1 → (D.getD 0 0).toNat ≠ 48) → Safe ⟨Pr, fun _ _ => false, a2h, 50, [.tmp 2, .tmp 3, .tmp 4], H.length⟩ [.code (.region a5s true), .inBlock 1, .code (.region a5r false), .inLoop b0o, .inBlock 0, .code (.seq (.region a5q false) (.ret))]
        [(0, strU D), (5, natV (limbs (decV (D.take i)))), (6, .int .i64 i)] (hap H []) R := by
      intro hd h1
      have hd' := hd
      unfold isDg at hd'
      have hw8 : IntKind.wrap .u8 (((D.getD i 0).toNat : Int) - 48) = (((D.getD i 0).toNat - 48 : Nat) : Int) := by
        rw [show (((D.getD i 0).toNat : Int) - 48) = (((D.getD i 0).toNat - 48 : Nat) : Int) by omega]
        exact b9j (by omega)
      have hwc : IntKind.wrap .u32 (((D.getD i 0).toNat - 48 : Nat) : Int) = (((D.getD i 0).toNat - 48 : Nat) : Int) := a9F (by omega)
      have hdgs : ∀ c ∈ D.take i, isDg c := fun c hc => by
        obtain ⟨j, hj, rfl⟩ := List.getElem_of_mem hc
        rw [List.length_take] at hj
        have := hp.1 j (by omega)
        rw [List.getElem_take]
        rwa [List.getD_eq_getElem?_getD, List.getElem?_eq_getElem (by omega)] at this
      have hM : decV (D.take i) < 10 ^ i := by
        have := a5D hdgs
        rwa [List.length_take, Nat.min_eq_left (by omega)] at this
      have hLB : LB = 4294967296 := rfl
      have hmul := b8o (limbs (decV (D.take i))) [10] (a5Y hM (by omega)) ⟨by intro d hd; simp at hd; omega, by simp⟩ (by have := a1x (Nat.lt_of_lt_of_le hM (b7j i)); simp; omega)
      rw [a1c, b5K] at hmul
      have hMn : decV (D.take i) * 10 < 10 ^ (i + 1) := by rw [Nat.pow_succ]; omega
      have hadd := b8p (limbs (decV (D.take i) * 10)) [(D.getD i 0).toNat - 48] (a4I _) (by intro d hd; rw [List.mem_singleton] at hd; omega) (by have := a1x (Nat.lt_of_lt_of_le hMn (b7j (i + 1))); omega) (by simp)
      have happ : decV (D.take i) * 10 + ((D.getD i 0).toNat - 48) = decV (D.take (i + 1)) := by
        have := a5j (D := D) (k := 0) (j := i) (by omega)
        rw [List.drop_zero, Nat.zero_add] at this
        rw [this, b7T]; omega
      rw [a1c, b5K, happ] at hadd
      refine Safe.rg rfl ?_
      simp only [a5s, hix, hw8, hwc, E3, Nat.reduceLeDiff, Nat.reduceSub, Nat.reduceAdd, Nat.reduceEqDiff, reduceCtorEq, ↓reduceIte]
      first | refine (hmul).acall ?_ | refine (hmul).dcall ?_ | refine (hmul).dgcall ?_
      try simp only [E3, Nat.reduceLeDiff, Nat.reduceSub, Nat.reduceAdd, Nat.reduceEqDiff, reduceCtorEq, ↓reduceIte]
      simp only [hix, hw8, hwc, E3, Nat.reduceLeDiff, Nat.reduceSub, Nat.reduceAdd, Nat.reduceEqDiff, reduceCtorEq, ↓reduceIte]
      first | refine (hadd).acall ?_ | refine (hadd).dcall ?_ | refine (hadd).dgcall ?_
      try simp only [E3, Nat.reduceLeDiff, Nat.reduceSub, Nat.reduceAdd, Nat.reduceEqDiff, reduceCtorEq, ↓reduceIte]
      refine Safe.rg rfl ?_
      simp only [a5r, hiw, E3, Nat.reduceLeDiff, Nat.reduceSub, Nat.reduceAdd, Nat.reduceEqDiff, reduceCtorEq, ↓reduceIte]
      refine Safe.keep [0, 5, 6] ?_
      simp only [E3, Nat.reduceLeDiff, Nat.reduceSub, Nat.reduceAdd, Nat.reduceEqDiff, reduceCtorEq, ↓reduceIte]
      repeat (first | refine Safe.seq ?_ | refine Safe.skip ?_ | refine Safe.inBlock ?_ | refine Safe.block ?_ | refine Safe.exit rfl ?_)
      exact ih ⟨fun j hj => by
        by_cases e : j = i
        · subst e; exact hd
        · exact hp.1 j (by omega), h1⟩
    refine Safe.inLoop ?_
    refine Safe.rg rfl ?_
    simp only [a6K, a0e, hlt, E3, Nat.reduceLeDiff, Nat.reduceSub, Nat.reduceAdd, Nat.reduceEqDiff, reduceCtorEq, ↓reduceIte]
    refine Safe.cd rfl ?_
    simp only [E3, Nat.reduceLeDiff, Nat.reduceSub, Nat.reduceAdd, Nat.reduceEqDiff, reduceCtorEq, ↓reduceIte]
    by_cases hd : isDg (D.getD i 0)
    · have hd' := hd
      unfold isDg at hd'
      have h48 : (((D.getD i 0).toNat : Int) < 48) = False := eq_false (by omega)
      have h57 : (((D.getD i 0).toNat : Int) > 57) = False := eq_false (by omega)
      by_cases h1 : i = 1
      · subst h1
        have h0 := a6h D .i64 (by omega)
        have h11 : (((1 : Nat) : Int) = 1) = True := eq_true rfl
        by_cases hz : (D.getD 0 0).toNat = 48
        · have h00 : (((D.getD 0 0).toNat : Int) = 48) = True := eq_true (by omega)
          refine Safe.rg rfl ?_
          simp only [a1E, hix, h48, h57, h11, h0, h00, E3, Nat.reduceLeDiff, Nat.reduceSub, Nat.reduceAdd, Nat.reduceEqDiff, reduceCtorEq, ↓reduceIte]
          refine Safe.cd rfl ?_
          simp only [E3, Nat.reduceLeDiff, Nat.reduceSub, Nat.reduceAdd, Nat.reduceEqDiff, reduceCtorEq, ↓reduceIte]
          refine Safe.rg rfl ?_
          simp only [a3Y, E3, Nat.reduceLeDiff, Nat.reduceSub, Nat.reduceAdd, Nat.reduceEqDiff, reduceCtorEq, ↓reduceIte]
          refine Safe.rt rfl ?_
          simp only [one3, E3, Nat.reduceLeDiff, Nat.reduceSub, Nat.reduceAdd, Nat.reduceEqDiff, reduceCtorEq, ↓reduceIte]
          exact hbad (hnb (.inr ⟨rfl, hz⟩)) _
        · have h00 : (((D.getD 0 0).toNat : Int) = 48) = False := eq_false (by omega)
          refine Safe.rg rfl ?_
          simp only [a1E, hix, h48, h57, h11, h0, h00, E3, Nat.reduceLeDiff, Nat.reduceSub, Nat.reduceAdd, Nat.reduceEqDiff, reduceCtorEq, ↓reduceIte]
          refine Safe.cd rfl ?_
          simp only [E3, Nat.reduceLeDiff, Nat.reduceSub, Nat.reduceAdd, Nat.reduceEqDiff, reduceCtorEq, ↓reduceIte]
          refine Safe.keep [0, 5, 6] ?_
          simp only [E3, Nat.reduceLeDiff, Nat.reduceSub, Nat.reduceAdd, Nat.reduceEqDiff, reduceCtorEq, ↓reduceIte]
          repeat (first | refine Safe.seq ?_ | refine Safe.skip ?_ | refine Safe.inBlock ?_ | refine Safe.block ?_ | refine Safe.exit rfl ?_)
          exact add hd fun _ => hz
      · have h11 : ((i : Int) = 1) = False := eq_false (by omega)
        refine Safe.rg rfl ?_
        simp only [a1E, hix, h48, h57, h11, E3, Nat.reduceLeDiff, Nat.reduceSub, Nat.reduceAdd, Nat.reduceEqDiff, reduceCtorEq, ↓reduceIte]
        refine Safe.cd rfl ?_
        simp only [E3, Nat.reduceLeDiff, Nat.reduceSub, Nat.reduceAdd, Nat.reduceEqDiff, reduceCtorEq, ↓reduceIte]
        refine Safe.keep [0, 5, 6] ?_
        simp only [E3, Nat.reduceLeDiff, Nat.reduceSub, Nat.reduceAdd, Nat.reduceEqDiff, reduceCtorEq, ↓reduceIte]
        repeat (first | refine Safe.seq ?_ | refine Safe.skip ?_ | refine Safe.inBlock ?_ | refine Safe.block ?_ | refine Safe.exit rfl ?_)
        exact add hd fun h => hp.2 (by omega)
    · by_cases h48' : (D.getD i 0).toNat < 48
      · have h48 : (((D.getD i 0).toNat : Int) < 48) = True := eq_true (by omega)
        refine Safe.rg rfl ?_
        simp only [a1E, hix, h48, E3, Nat.reduceLeDiff, Nat.reduceSub, Nat.reduceAdd, Nat.reduceEqDiff, reduceCtorEq, ↓reduceIte]
        refine Safe.cd rfl ?_
        simp only [E3, Nat.reduceLeDiff, Nat.reduceSub, Nat.reduceAdd, Nat.reduceEqDiff, reduceCtorEq, ↓reduceIte]
        refine Safe.rg rfl ?_
        simp only [a3Y, E3, Nat.reduceLeDiff, Nat.reduceSub, Nat.reduceAdd, Nat.reduceEqDiff, reduceCtorEq, ↓reduceIte]
        refine Safe.rt rfl ?_
        simp only [one3, E3, Nat.reduceLeDiff, Nat.reduceSub, Nat.reduceAdd, Nat.reduceEqDiff, reduceCtorEq, ↓reduceIte]
        exact hbad (hnb (.inl hd)) _
      · have h48 : (((D.getD i 0).toNat : Int) < 48) = False := eq_false (by omega)
        have h57 : (((D.getD i 0).toNat : Int) > 57) = True := eq_true (by unfold isDg at hd; omega)
        refine Safe.rg rfl ?_
        simp only [a1E, hix, h48, h57, E3, Nat.reduceLeDiff, Nat.reduceSub, Nat.reduceAdd, Nat.reduceEqDiff, reduceCtorEq, ↓reduceIte]
        refine Safe.cd rfl ?_
        simp only [E3, Nat.reduceLeDiff, Nat.reduceSub, Nat.reduceAdd, Nat.reduceEqDiff, reduceCtorEq, ↓reduceIte]
        refine Safe.rg rfl ?_
        simp only [a3Y, E3, Nat.reduceLeDiff, Nat.reduceSub, Nat.reduceAdd, Nat.reduceEqDiff, reduceCtorEq, ↓reduceIte]
        refine Safe.rt rfl ?_
        simp only [one3, E3, Nat.reduceLeDiff, Nat.reduceSub, Nat.reduceAdd, Nat.reduceEqDiff, reduceCtorEq, ↓reduceIte]
        exact hbad (hnb (.inl hd)) _
  · refine Safe.inLoop ?_
    refine Safe.rg rfl ?_
    simp only [a6K, a0e, Int.lt_irrefl, E3, Nat.reduceLeDiff, Nat.reduceSub, Nat.reduceAdd, Nat.reduceEqDiff, reduceCtorEq, ↓reduceIte]
    refine Safe.cd rfl ?_
    simp only [E3, Nat.reduceLeDiff, Nat.reduceSub, Nat.reduceAdd, Nat.reduceEqDiff, reduceCtorEq, ↓reduceIte]
    refine Safe.rg rfl ?_
    simp only [a5q, E3, Nat.reduceLeDiff, Nat.reduceSub, Nat.reduceAdd, Nat.reduceEqDiff, reduceCtorEq, ↓reduceIte]
    refine Safe.rt rfl ?_
    simp only [one3, E3, Nat.reduceLeDiff, Nat.reduceSub, Nat.reduceAdd, Nat.reduceEqDiff, reduceCtorEq, ↓reduceIte]
    rw [List.take_length]
    refine hgood (a1G.2 ⟨by omega, fun c hc => ?_, fun h => ?_⟩)
    · obtain ⟨j, hj, rfl⟩ := List.getElem_of_mem hc
      have := hp.1 j hj
      rwa [List.getD_eq_getElem?_getD, List.getElem?_eq_getElem hj] at this
    · rcases h with h | h
      · exact hp.2 h
      · cases h
theorem c1u {D : List UInt8} (hlen : D.length ≤ 65536) (h : numB false D = true) : a0o Pr a2h [strU D] (.tup [natV (limbs (decV D)), .int .i64 0, .int .i64 0]) := by
  refine a0o.intro b0p b0n (Nat.le_of_ble_eq_true rfl) (a5F (a3w _) (.int _ _) (.int _ _)) fun H hH => ?_
  exact b3N D hlen hH (fun hn => by rw [h] at hn; cases hn) fun _ => ⟨rfl, [], rfl⟩
theorem c0l {D : List UInt8} (hlen : D.length ≤ 65536) (h : numB false D = false) (H : Heap) : ACalls Pr a2h [strU D] H fun r' H' => (∃ a : Int, r' = .tup [.nil, .int .i64 a, .int .i64 4]) ∧ H' = H := by
  refine ACalls.cutP (fun r ⟨a, e⟩ => by rw [e]; exact a5F .nil (.int _ _) (.int _ _)) ?_
  refine ACalls.open b0p b0n (Nat.le_of_ble_eq_true rfl) fun hH => ?_
  exact b3N D hlen hH (fun _ a => ⟨⟨a, rfl⟩, [], rfl⟩) fun hn => by rw [h] at hn; cases hn
end Go.Abs
namespace Go.Abs
theorem b3t {P D : List UInt8} {z : Int} (hP : P = [45] ∨ (P = [] ∧ (D.getD 0 0).toNat ≠ 45)) (h : tokV (P ++ D) = some z) : numB (decide (P.length = 1)) D = true ∧ z = sgn (decide (P.length = 1)) (decV D) := by
  rw [a5J hP] at h
  split at h
  · rename_i hg; cases h; exact ⟨hg, rfl⟩
  · cases h
theorem c1f {P D : List UInt8} (hP : P = [45] ∨ (P = [] ∧ (D.getD 0 0).toNat ≠ 45)) (h : tokV (P ++ D) = none) : numB (decide (P.length = 1)) D = false := by
  rw [a5J hP] at h
  split at h
  · cases h
  · rename_i hg; simpa using hg
theorem c0q {D : List UInt8} {neg : Bool} (h : neg = true → 0 < D.length → (D.getD 0 0).toNat ≠ 48) : numB neg D = numB false D := by
  rw [Bool.eq_iff_iff, a1G, a1G]
  constructor
  · rintro ⟨h1, h2, h3⟩
    exact ⟨h1, h2, fun k => h3 (k.elim .inl fun k => by cases k)⟩
  · rintro ⟨h1, h2, h3⟩
    exact ⟨h1, h2, fun k => k.elim (fun k => h3 (.inl k)) fun k => h k h1⟩
theorem c0k (t : List UInt8) (hlen : t.length ≤ 65536) (H : Heap) : ACalls Pr a5h [strU t] H fun r' H' => (match tokV t with
    | some z => r' = .tup [Z z, .int .i64 0, .int .i64 0]
    | none => ∃ a : Int, r' = .tup [a3R, .int .i64 a, .int .i64 4]) ∧ H' = H := by
  refine ACalls.cutP (fun r h => ?_) ?_
  · revert h
    split
    · rintro rfl; exact a5F (Z_cl _) (.int _ _) (.int _ _)
    · rintro ⟨a, rfl⟩; exact a5F b5G (.int _ _) (.int _ _)
  refine ACalls.open b6c b6b (Nat.le_of_ble_eq_true rfl) fun hH => ?_
  have hbig : ((t.length : Int) > 65536) = False := eq_false (by omega)
  have main : ∀ (P D : List UInt8), t = P ++ D → (P = [45] ∨ (P = [] ∧ (D.getD 0 0).toNat ≠ 45)) → (P.length = 1 → 0 < D.length → (D.getD 0 0).toNat ≠ 48) →
      Safe ⟨Pr, fun _ _ => false, a5h, 52, [.cell 2 (some 2), .tmp 3, .tmp 4], H.length⟩ [.code (.region a3W false), .code (.seq (.seq (.region a3V false) (.cond (.t 43) (.seq (.region a5p false) (.ret)) (.skip))) (.seq (.region a5o false) (.ret)))]
        [(0, strU t), (2, .loc (lid H 0) 0 0), (5, .int .i64 P.length)] (hap H [some ⟨2, [a3R]⟩]) fun r' H' => (match tokV t with
        | some z => r' = .tup [Z z, .int .i64 0, .int .i64 0]
        | none => ∃ a : Int, r' = .tup [a3R, .int .i64 a, .int .i64 4]) ∧ ∃ L, H' = hap H L := by
    intro P D ht hP hneg
    subst ht
    have hn := c0q (D := D) (neg := decide (P.length = 1)) fun h => hneg (of_decide_eq_true h)
    have hslc := b5Q (P ++ D) P.length (by simp)
    rw [List.drop_left] at hslc
    have hDl : D.length ≤ 65536 := by rw [List.length_append] at hlen; omega
    cases htv : tokV (P ++ D) with
    | some z =>
      obtain ⟨hg, rfl⟩ := b3t hP htv
      rw [hn] at hg
      have h1 := c1u hDl hg
      have hM := a5D (b2X hg).dg
      have hmd := b6W (decide (P.length = 1)) (limbs (decV D)) (a5Y hM hDl)
      rw [a1c] at hmd
      have hdec : decide ((P.length : Int) = 1) = decide (P.length = 1) := decide_eq_decide.2 (by omega)
      unfold a3R
      refine Safe.rg rfl ?_
      simp only [a3W, hslc, E3, seval]
      first | refine (h1).acall ?_ | refine (h1).dcall ?_ | refine (h1).dgcall ?_
      try simp only [E3, seval]
      refine Safe.rg rfl ?_
      simp only [a3V, E3, seval]
      refine Safe.cd rfl ?_
      simp only [E3, seval]
      refine Safe.rg rfl ?_
      simp only [a5o, hdec, E3, seval]
      first | refine (hmd).acall ?_ | refine (hmd).dcall ?_ | refine (hmd).dgcall ?_
      try simp only [E3, seval]
      refine Safe.rt rfl ?_
      simp only [one3, E3, seval]
      exact ⟨rfl, _, rfl⟩
    | none =>
      have hg := c1f hP htv
      rw [hn] at hg
      unfold a3R
      refine Safe.rg rfl ?_
      simp only [a3W, hslc, E3, seval]
      refine ACalls.mono (c0l hDl hg _) ?_
      rintro r' H' ⟨⟨a, rfl⟩, rfl⟩
      simp only [E3, seval]
      refine Safe.rg rfl ?_
      simp only [a3V, E3, seval]
      refine Safe.cd rfl ?_
      simp only [E3, seval]
      refine Safe.rg rfl ?_
      simp only [a5p, E3, seval]
      refine Safe.rt rfl ?_
      simp only [one3, E3, seval]
      exact ⟨⟨_, rfl⟩, _, rfl⟩
  unfold a3R at *
  refine Safe.rg rfl ?_
  simp only [a9Z, E3, seval]
  refine Safe.rg rfl ?_
  simp only [a9Y, a0e, hbig, E3, seval]
  refine Safe.cd rfl ?_
  simp only [E3, seval]
  refine Safe.rg rfl ?_
  simp only [a9X, E3, seval]
  by_cases hz : 0 < t.length
  · have hgt0 : ((t.length : Int) > 0) = True := eq_true (by omega)
    have hi0 := a6h t .i64 hz
    by_cases h45 : (t.getD 0 0).toNat = 45
    · have h45' : (((t.getD 0 0).toNat : Int) = 45) = True := eq_true (by omega)
      have htP : t = [45] ++ t.tail := by
        match t, hz with
        | c :: t, _ =>
          have h : c.toNat = (45 : UInt8).toNat := h45
          have : c = 45 := UInt8.toNat_inj.1 h
          subst this; rfl
      refine Safe.rg rfl ?_
      simp only [a3X, a0e, hgt0, hi0, h45', E3, seval]
      refine Safe.cd rfl ?_
      simp only [E3, seval]
      refine Safe.rg rfl ?_
      simp only [a9W, E3, seval]
      by_cases h1' : 1 < t.length
      · have h1 : ((t.length : Int) > 1) = True := eq_true (by omega)
        have hi1 := b7N t .i64 h1'
        have he : t.getD 1 0 = t.tail.getD 0 0 := by
          match t, h1' with
          | _ :: _ :: _, _ => rfl
        by_cases h48 : (t.getD 1 0).toNat = 48
        · have h48' : (((t.getD 1 0).toNat : Int) = 48) = True := eq_true (by omega)
          have hnone : tokV t = none := by
            rw [htP, a5J (.inl rfl), if_neg]
            rw [a1G]
            rintro ⟨_, _, q3⟩
            exact q3 (.inr rfl) (by rw [← he]; exact h48)
          refine Safe.rg rfl ?_
          simp only [a1D, a0e, h1, hi1, h48', E3, seval]
          refine Safe.cd rfl ?_
          simp only [E3, seval]
          refine Safe.rg rfl ?_
          simp only [a9V, E3, seval]
          refine Safe.rt rfl ?_
          simp only [one3, E3, seval]
          rw [hnone]
          exact ⟨⟨_, rfl⟩, _, rfl⟩
        · have h48' : (((t.getD 1 0).toNat : Int) = 48) = False := eq_false (by omega)
          refine Safe.rg rfl ?_
          simp only [a1D, a0e, h1, hi1, h48', E3, seval]
          refine Safe.cd rfl ?_
          simp only [E3, seval]
          refine Safe.keep [0, 2, 5] ?_
          simp only [E3, seval]
          repeat (first | refine Safe.seq ?_ | refine Safe.skip ?_ | refine Safe.inBlock ?_ | refine Safe.block ?_ | refine Safe.exit rfl ?_)
          exact main [45] t.tail htP (.inl rfl) fun _ _ => by rw [← he]; exact h48
      · have h1 : ((t.length : Int) > 1) = False := eq_false (by omega)
        refine Safe.rg rfl ?_
        simp only [a1D, a0e, h1, E3, seval]
        refine Safe.cd rfl ?_
        simp only [E3, seval]
        refine Safe.keep [0, 2, 5] ?_
        simp only [E3, seval]
        repeat (first | refine Safe.seq ?_ | refine Safe.skip ?_ | refine Safe.inBlock ?_ | refine Safe.block ?_ | refine Safe.exit rfl ?_)
        exact main [45] t.tail htP (.inl rfl) fun _ h => absurd h (by rw [List.length_tail]; omega)
    · have h45' : (((t.getD 0 0).toNat : Int) = 45) = False := eq_false (by omega)
      refine Safe.rg rfl ?_
      simp only [a3X, a0e, hgt0, hi0, h45', E3, seval]
      refine Safe.cd rfl ?_
      simp only [E3, seval]
      refine Safe.rg rfl ?_
      simp only [a1D, E3, seval]
      refine Safe.cd rfl ?_
      simp only [E3, seval]
      refine Safe.keep [0, 2, 5] ?_
      simp only [E3, seval]
      repeat (first | refine Safe.seq ?_ | refine Safe.skip ?_ | refine Safe.inBlock ?_ | refine Safe.block ?_ | refine Safe.exit rfl ?_)
      exact main [] t rfl (.inr ⟨rfl, h45⟩) fun h => by simp at h
  · have hgt0 : ((t.length : Int) > 0) = False := eq_false (by omega)
    have ht0 : t = [] := List.length_eq_zero_iff.1 (by omega)
    refine Safe.rg rfl ?_
    simp only [a3X, a0e, hgt0, E3, seval]
    refine Safe.cd rfl ?_
    simp only [E3, seval]
    refine Safe.rg rfl ?_
    simp only [a1D, E3, seval]
    refine Safe.cd rfl ?_
    simp only [E3, seval]
    refine Safe.keep [0, 2, 5] ?_
    simp only [E3, seval]
    repeat (first | refine Safe.seq ?_ | refine Safe.skip ?_ | refine Safe.inBlock ?_ | refine Safe.block ?_ | refine Safe.exit rfl ?_)
    exact main [] t rfl (.inr ⟨rfl, by rw [ht0]; decide⟩) fun h => by simp at h
/-- The first word of a text that begins with one, and what is behind. -/
def a3S (s : List UInt8) : List UInt8 := s.takeWhile (· ≠ 32)
def a7t (s : List UInt8) : List UInt8 := s.dropWhile (· ≠ 32)
theorem c0T (s : List UInt8) : a3S s ++ a7t s = s := List.takeWhile_append_dropWhile
theorem a2P {c : UInt8} {s : List UInt8} (h : c ≠ 32) : (a7t (c :: s)).length < (c :: s).length := by
  unfold a7t
  rw [List.dropWhile_cons_of_pos (by simpa using h)]
  have := (List.dropWhile_sublist (l := s) (· ≠ (32 : UInt8))).length_le
  simp only [List.length_cons]; omega
/-- The numbers of a text that lies at a place, or the place of the first word that is none. -/
def wd (k : Nat) (s : List UInt8) : Nat ⊕ List Int := match s with
  | [] => .inr []
  | c :: s' => if h : c = 32 then wd (k + 1) s' else match tokV (a3S (c :: s')) with
    | none => .inl k
    | some z => match wd (k + (a3S (c :: s')).length) (a7t (c :: s')) with
      | .inl e => .inl e
      | .inr zs => .inr (z :: zs)
termination_by s.length
decreasing_by
  · simp
  · exact a2P h
theorem b1H (k : Nat) : wd k [] = .inr [] := by rw [wd]
theorem b9N (k : Nat) (s : List UInt8) : wd k (32 :: s) = wd (k + 1) s := by rw [wd, dif_pos rfl]
theorem b4Y (k : Nat) {c : UInt8} {s : List UInt8} (h : c ≠ 32) : wd k (c :: s) = match tokV (a3S (c :: s)) with
    | none => .inl k
    | some z => match wd (k + (a3S (c :: s)).length) (a7t (c :: s)) with
      | .inl e => .inl e
      | .inr zs => .inr (z :: zs) := by rw [wd, dif_neg h]
/-- What was read ahead of it. -/
def b3o (ds : List Int) : Nat ⊕ List Int → Nat ⊕ List Int
  | .inl e => .inl e
  | .inr zs => .inr (ds ++ zs)
theorem b3m (x : Nat ⊕ List Int) : b3o [] x = x := by cases x <;> rfl
theorem b3n (ds : List Int) (z : Int) (x : Nat ⊕ List Int) : b3o (ds ++ [z]) x = b3o ds (match x with
    | .inl e => .inl e
    | .inr zs => .inr (z :: zs)) := by
  cases x <;> simp [b3o]
end Go.Abs
namespace Go.Abs
open Go.Proofs Go.RowKit
/-- What is thrown. -/
def pval (e : Nat) : Value := .iface 72 (.agg #[.int .i64 e])
set_option maxRecDepth 100000 in
theorem b8g {tmps : Array Value} {w : World} (hsz : tmps.size = 56) {k i : Nat} (h1 : tmps.getD 1 undef = .int .i64 k) (h6 : tmps.getD 6 undef = .int .i64 i) (hk : k + i < 9223372036854775808) :
    (Code.region 11 (a0R Tryd.f20 11) false).wp Pr (fun e a w' => e = .panic [{ v := pval (k + i), recovered := false }] ∧ w' = w ∧ a.defers = []) ⟨tmps, []⟩ w := by
  have e : a0R Tryd.f20 11 = #[⟨some 45, .move (.tmp 1), 3, "mat.go:237", #[], none⟩, ⟨some 46, .move (.tmp 6), 3, "mat.go:237", #[], none⟩,
    ⟨some 47, .binOp .add 3 (.tmp 45) (.tmp 46) 3, 3, "mat.go:237", #[⟨0, .data⟩, ⟨1, .data⟩], none⟩, ⟨some 48, .build 72 #[(0, .tmp 47)], 72, "mat.go:237", #[⟨2, .data⟩], none⟩,
    ⟨some 49, .makeInterface 72 (.tmp 48), 20, "mat.go:237", #[⟨3, .data⟩], none⟩, ⟨none, .panic (.tmp 49), 0, "mat.go:237", #[⟨4, .data⟩], none⟩] := by kernel_rfl
  have h1' : tmps[1]'(by omega) = .int .i64 k := by
    rw [Array.getD_eq_getD_getElem?, Array.getElem?_eq_getElem (by omega)] at h1; exact h1
  have h6' : tmps[6]'(by omega) = .int .i64 i := by
    rw [Array.getD_eq_getD_getElem?, Array.getElem?_eq_getElem (by omega)] at h6; exact h6
  have hw : IntKind.wrap .i64 ((k : Int) + i) = (k : Int) + i := by rw [a0g] <;> omega
  rw [e]
  apply wp_region
  simp [wpOps, Oper.wp, go_sem, Act.put, h1', h6', hsz, Op.intArith, hw, Oper.upon, undef, Array.getElem?_setIfInBounds, pval, run_panic_iface]
theorem b5I {s : List UInt8} : ∀ x ∈ a3S s, x ≠ 32 := fun x hx => by
  induction s with
  | nil => cases hx
  | cons c s ih =>
    unfold a3S at hx ih
    by_cases h : c = 32
    · subst h
      rw [List.takeWhile_cons_of_neg (by decide)] at hx
      cases hx
    · rw [List.takeWhile_cons_of_pos (by simpa using h)] at hx
      rcases List.mem_cons.1 hx with rfl | hx
      · exact h
      · exact ih hx
theorem a9a (s : List UInt8) : a7t s = [] ∨ ∃ r, a7t s = 32 :: r := by
  induction s with
  | nil => exact .inl rfl
  | cons c s ih =>
    unfold a7t at *
    by_cases h : c = 32
    · subst h
      exact .inr ⟨s, by rw [List.dropWhile_cons_of_neg (by decide)]⟩
    · rw [List.dropWhile_cons_of_pos (by simpa using h)]
      exact ih
theorem b3p {c : UInt8} {s : List UInt8} (h : c ≠ 32) : 0 < (a3S (c :: s)).length := by
  unfold a3S
  rw [List.takeWhile_cons_of_pos (by simpa using h)]; simp
namespace Pan
theorem Safe.drop1 {x : Cx} {todo : List AItem} {env : Env} {H : Heap} {a b : Option Blk} {R : AV → Heap → Prop} (hH : a0r H) (hx : x.n0 = H.length) (he : env.all (fun p => nref (lid H 1) p.2) = true) (hL : RC [a]) (h : Safe x todo env (hap H [a]) R) : Safe x todo env (hap H [a, b]) R := Safe.dropC (L := [a]) hH hx he hL h
theorem b6L (s : List UInt8) (k e : Nat) (hw : wd k s = .inl e) (hl : s.length ≤ 65536) (hk : k ≤ 1048576) (H : Heap) : ACalls Pr a0D [strU s, .int .i64 k] H fun r' H' => r' = .lit (pval e) ∧ H' = H := by
  refine ACalls.cut (Cl.ref (.lit _)) ?_
  refine ACalls.open b7q b7o (Nat.le_of_ble_eq_true rfl) fun hH => ?_
  refine Safe.rg rfl ?_
  simp only [b2q, E3, seval]
  refine Safe.rg rfl ?_
  simp only [b2p, E3, seval]
  refine Safe.nilrow 5 2 (by decide) (by simp only [E3, seval]) ?_
  refine Safe.rg rfl ?_
  simp only [b2o, E3, seval]
  refine Safe.lp rfl ?_
  refine Safe.keep [0, 1, 5, 6] ?_
  simp only [E3, seval]
  refine Safe.loopW (fun a : List UInt8 × List Int × List UInt8 => a.2.2.length) (fun a => [(0, strU s), (1, .int .i64 k), (5, .mu (lid H 0) 0 a.2.1.length none), (6, .int .i64 a.1.length)]) (fun a => hap H [some ⟨2, (a.2.1.map canZ).map ZI.av⟩])
    (fun a => s = a.1 ++ a.2.2 ∧ wd k s = b3o a.2.1 (wd (k + a.1.length) a.2.2) ∧ a.2.1.length ≤ a.1.length) ([], [], s) rfl rfl ⟨rfl, (b3m _).symm, Nat.le_refl _⟩ ?_
  rintro ⟨P, ds, rest⟩ ⟨h1, h2, h3⟩ ih
  simp only at h1 h2 h3
  have hsl : s.length = P.length + rest.length := by rw [h1, List.length_append]
  have hat : ∀ j, j < rest.length → idxS (strU s) (.int .i64 ((P.length + j : Nat) : Int)) = some (.int .u8 ((rest.getD j 0).toNat : Int)) := fun j hj => by
    rw [a2M s .i64 (by omega)]
    conv => lhs; rw [h1]
    rw [getD_app]
  refine Safe.inLoop ?_
  match rest, h1, h2, hsl, hat, ih with
  | [], h1, h2, hsl, hat, ih =>
    rw [b1H, hw] at h2
    cases h2
  | c :: rest, h1, h2, hsl, hat, ih =>
  have hlc : (c :: rest).length = rest.length + 1 := rfl
  have hlt : ((P.length : Int) < (s.length : Int)) = True := eq_true (by omega)
  by_cases hc : c = 32
  · subst hc
    have hi := hat 0 (by omega)
    rw [Nat.add_zero, show ((32 :: rest : List UInt8).getD 0 0).toNat = 32 from rfl] at hi
    have h32 : (((32 : Nat) : Int) = 32) = True := eq_true (by omega)
    have hiw : IntKind.wrap .i64 ((P.length : Int) + 1) = ((P.length + 1 : Nat) : Int) := by rw [a0g] <;> omega
    refine Safe.rg rfl ?_
    simp only [a7W, a0e, hlt, E3, seval]
    refine Safe.cd rfl ?_
    simp only [E3, seval]
    refine Safe.rg rfl ?_
    simp only [a7V, hi, h32, E3, seval]
    refine Safe.cd rfl ?_
    simp only [E3, seval]
    refine Safe.rg rfl ?_
    simp only [b2n, hiw, E3, seval]
    refine Safe.keep [0, 1, 5, 6] ?_
    simp only [E3, seval]
    repeat (first | refine Safe.seq ?_ | refine Safe.skip ?_ | refine Safe.inBlock ?_ | refine Safe.block ?_ | refine Safe.exit rfl ?_)
    have hn := ih (P ++ [32], ds, rest) ⟨by rw [h1]; simp, by rw [h2, b9N, List.length_append]; rfl, by simp; omega⟩ (by simp)
    simp only [List.length_append, List.length_cons, List.length_nil, Nat.zero_add] at hn
    exact hn
  · have e0 := c0T (c :: rest)
    have htp := b3p (s := rest) hc
    have hdl := a2P (s := rest) hc
    have htn := b5I (s := c :: rest)
    have hdc := a9a (c :: rest)
    rw [b4Y _ hc] at h2
    generalize a3S (c :: rest) = t at *
    generalize a7t (c :: rest) = d at *
    generalize c :: rest = r at *
    have hl0 : r.length = t.length + d.length := by rw [← e0, List.length_append]
    have hti : ∀ j, j < t.length → idxS (strU s) (.int .i64 ((P.length + j : Nat) : Int)) = some (.int .u8 (((t.getD j 0).toNat : Int))) ∧ (((t.getD j 0).toNat : Int) = 32) = False := fun j hj => by
      have hg : r.getD j 0 = t.getD j 0 := by
        rw [← e0, List.getD_eq_getElem?_getD, List.getD_eq_getElem?_getD, List.getElem?_append_left hj]
      refine ⟨by rw [hat j (by omega), hg], ?_⟩
      have hm : t.getD j 0 ∈ t := by rw [List.getD_eq_getElem?_getD, List.getElem?_eq_getElem hj]; exact List.getElem_mem _
      exact c1a _ 32 (htn _ hm)
    obtain ⟨ht0, ht1⟩ := hti 0 htp
    rw [Nat.add_zero] at ht0
    refine Safe.rg rfl ?_
    simp only [a7W, a0e, hlt, E3, seval]
    refine Safe.cd rfl ?_
    simp only [E3, seval]
    refine Safe.rg rfl ?_
    simp only [a7V, ht0, ht1, E3, seval]
    refine Safe.cd rfl ?_
    simp only [E3, seval]
    refine Safe.rg rfl ?_
    simp only [b2m, E3, seval]
    refine Safe.lp rfl ?_
    refine Safe.keep [0, 1, 5, 6, 7] ?_
    simp only [E3, seval]
    refine Safe.loopN t.length (fun j => [(0, strU s), (1, .int .i64 k), (5, .mu (lid H 0) 0 ds.length none), (6, .int .i64 P.length), (7, .int .i64 ((P.length + j : Nat) : Int))]) (fun _ => hap H [some ⟨2, (ds.map canZ).map ZI.av⟩]) rfl rfl (fun j hj ih2 => ?_) ?_
    · obtain ⟨g1, g2⟩ := hti j hj
      have hltj : (((P.length + j : Nat) : Int) < (s.length : Int)) = True := eq_true (by omega)
      have hiw : IntKind.wrap .i64 (((P.length + j : Nat) : Int) + 1) = ((P.length + (j + 1) : Nat) : Int) := by rw [a0g] <;> omega
      refine Safe.inLoop ?_
      refine Safe.rg rfl ?_
      simp only [a5d, a0e, hltj, g1, g2, E3, seval]
      refine Safe.cd rfl ?_
      simp only [E3, seval]
      refine Safe.rg rfl ?_
      simp only [b2l, hiw, E3, seval]
      refine Safe.keep [0, 1, 5, 6, 7] ?_
      simp only [E3, seval]
      repeat (first | refine Safe.seq ?_ | refine Safe.skip ?_ | refine Safe.inBlock ?_ | refine Safe.block ?_ | refine Safe.exit rfl ?_)
      exact ih2
    · have hrest : Safe ⟨Pr, fun _ _ => false, a0D, 56, [.tmp 4], H.length⟩ [.code (.region a5c false), .code (.seq (.seq (.region a4c false) (.cond (.t 44) (.raw 11 (a0R Tryd.f20 11) false) (.skip))) (.seq (.region a6R false) (.region a6Q false))), .inBlock 1, .inLoop b2r, .inBlock 0, .code (.seq (.region b0D false) (.ret))]
          [(0, strU s), (1, .int .i64 k), (5, .mu (lid H 0) 0 ds.length none), (6, .int .i64 P.length), (7, .int .i64 ((P.length + t.length : Nat) : Int))] (hap H [some ⟨2, (ds.map canZ).map ZI.av⟩]) fun r' H' => r' = .lit (pval e) ∧ ∃ L, H' = hap H L := by
        have hsc := b3B s P.length (P.length + t.length) (by omega) (by omega)
        have htk : (s.drop P.length).take (P.length + t.length - P.length) = t := by
          rw [h1, ← e0, List.drop_left', Nat.add_sub_cancel_left, List.take_left']
          · rfl
          · rfl
        rw [htk] at hsc
        cases htv : tokV t with
        | none =>
          rw [htv, hw] at h2
          simp only [b3o, Sum.inl.injEq] at h2
          subst h2
          refine Safe.rg rfl ?_
          simp only [a5c, hsc, E3, seval]
          refine Go.Abs.ACalls.mono (c0R (by omega) htv _) ?_
          rintro r' H' ⟨⟨a, rfl⟩, rfl⟩
          unfold a3R
          simp only [E3, seval]
          refine Safe.rg rfl ?_
          simp only [a4c, E3, seval]
          refine Safe.cd rfl ?_
          simp only [E3, seval]
          refine Safe.raw rfl (pval (k + P.length)) (.lit (pval (k + P.length))) (fun E => .lit _) ⟨rfl, _, rfl⟩ ?_
          intro φ w tmps hok he hsz
          have q1 := he 1
          have q6 := he 6
          simp only [look, reduceCtorEq, Nat.reduceEqDiff, if_true, if_false, ↓reduceIte] at q1 q6
          exact b8g hsz (a0n q1) (a0n q6) (by omega)
        | some z =>
          rw [htv] at h2
          have hrd := c2L (t := t) (by omega) htv
          refine Safe.rg rfl ?_
          simp only [a5c, hsc, E3, seval]
          first | refine (hrd).acall ?_ | refine (hrd).dcall ?_ | refine (hrd).dgcall ?_
          try simp only [E3, seval]
          refine Safe.rg rfl ?_
          simp only [a4c, E3, seval]
          refine Safe.cd rfl ?_
          simp only [E3, seval]
          refine Safe.rg rfl ?_
          simp only [a6R, E3, seval]
          rw [b9c (y := .agg [.bool (decide (z < 0)), natV (limbs z.natAbs)]) hH 0 (a7Z H 0) ZI.cl (ds.map canZ) (canZ z) ((ds ++ [z]).map canZ) (by rw [List.length_map]) rfl (by repeat (first | exact RC.nil | refine RC.none ?_ | refine RC.mo ?_ | refine RC.io ?_ | refine RC.row ZI.cl ?_ | refine RC.cons (a2B _) ?_ | refine RC.row a0I ?_ | refine RC.emp ?_ | refine RC.zero ?_ | refine RC.one (Z_cl _) ?_ | refine RC.one (ZI.cl _) ?_ | refine RC.one (a0I _) ?_)) rfl (by simp) (by omega) (by omega)]
          simp only [E3, seval]
          refine Safe.rg rfl ?_
          simp only [a6Q, E3, seval]
          refine Safe.keep [0, 1, 5, 6] ?_
          simp only [ES, E3, seval]
          refine Safe.drop1 hH rfl (by simp only [List.all_cons, List.all_nil, ES, E3, seval]) (by repeat (first | exact RC.nil | refine RC.none ?_ | refine RC.mo ?_ | refine RC.io ?_ | refine RC.row ZI.cl ?_ | refine RC.cons (a2B _) ?_ | refine RC.row a0I ?_ | refine RC.emp ?_ | refine RC.zero ?_ | refine RC.one (Z_cl _) ?_ | refine RC.one (ZI.cl _) ?_ | refine RC.one (a0I _) ?_)) ?_
          repeat (first | refine Safe.seq ?_ | refine Safe.skip ?_ | refine Safe.inBlock ?_ | refine Safe.block ?_ | refine Safe.exit rfl ?_)
          have hn := ih (P ++ t, ds ++ [z], d) ⟨by rw [h1, ← e0, List.append_assoc], by rw [h2, List.length_append, ← Nat.add_assoc]; exact (b3n _ _ _).symm, by simp; omega⟩ (by simp only; omega)
          simp only [List.length_append, List.length_cons, List.length_nil, Nat.zero_add] at hn
          exact hn
      refine Safe.inLoop ?_
      rcases hdc with hd | ⟨d', hd⟩
      · have hltj : (((P.length + t.length : Nat) : Int) < (s.length : Int)) = False := eq_false (by rw [hd] at hl0; simp at hl0; omega)
        refine Safe.rg rfl ?_
        simp only [a5d, a0e, hltj, E3, seval]
        refine Safe.cd rfl ?_
        simp only [E3, seval]
        refine Safe.keep [0, 1, 5, 6, 7] ?_
        simp only [E3, seval]
        repeat (first | refine Safe.seq ?_ | refine Safe.skip ?_ | refine Safe.inBlock ?_ | refine Safe.block ?_ | refine Safe.exit rfl ?_)
        exact hrest
      · have hltj : (((P.length + t.length : Nat) : Int) < (s.length : Int)) = True := eq_true (by rw [hd] at hl0; simp at hl0; omega)
        have hi := hat t.length (by rw [hd] at hl0; simp at hl0; omega)
        have hg : (r.getD t.length 0).toNat = 32 := by
          rw [← e0, hd]
          have := Go.Abs.getD_app t (32 :: d') 0
          rw [Nat.add_zero] at this
          rw [this]; rfl
        rw [hg] at hi
        have h32 : (((32 : Nat) : Int) = 32) = True := eq_true (by omega)
        refine Safe.rg rfl ?_
        simp only [a5d, a0e, hltj, hi, h32, E3, seval]
        refine Safe.cd rfl ?_
        simp only [E3, seval]
        refine Safe.keep [0, 1, 5, 6, 7] ?_
        simp only [E3, seval]
        repeat (first | refine Safe.seq ?_ | refine Safe.skip ?_ | refine Safe.inBlock ?_ | refine Safe.block ?_ | refine Safe.exit rfl ?_)
        exact hrest
end Pan
end Go.Abs
namespace Go.Abs
open Go.Proofs
/-- The outcome of a vector's reading. -/
def vecO : Nat ⊕ List Int → AV
  | .inl e => .tup [vecV [], .int .i64 e, .bool false]
  | .inr zs => .tup [vecV (zs.map canZ), .int .i64 0, .bool true]
theorem c4Z (x : Nat ⊕ List Int) : Cl (vecO x) := by
  cases x
  · exact a5F (a0I _) (.int _ _) (.bool _)
  · exact a5F (a0I _) (.int _ _) (.bool _)
theorem c6M (pre seg post : List UInt8) {i : Nat} (h : i < seg.length) : (pre ++ seg ++ post).getD (pre.length + i) 0 = seg.getD i 0 := by
  rw [List.append_assoc, getD_app, List.getD_eq_getElem?_getD, List.getD_eq_getElem?_getD, List.getElem?_append_left h]
theorem b1M (pre seg post : List UInt8) (hl : (pre ++ seg ++ post).length ≤ 65536) : a0o Pr a1S [strU (pre ++ seg ++ post), .int .i64 pre.length, .int .i64 ((pre.length + seg.length : Nat) : Int)] (vecO (wd pre.length seg)) := by
  have hsl : (pre ++ seg ++ post).length = pre.length + seg.length + post.length := by simp [Nat.add_assoc]
  have hidx : ∀ i, i < seg.length → idxS (strU (pre ++ seg ++ post)) (.int .i64 ((pre.length + i : Nat) : Int)) = some (.int .u8 ((seg.getD i 0).toNat : Int)) := fun i hi => by
    rw [a2M _ .i64 (by omega), c6M _ _ _ hi]
  have hcut : ∀ (P t d : List UInt8), seg = P ++ (t ++ d) → slcS (strU (pre ++ seg ++ post)) (some (.int .i64 ((pre.length + P.length : Nat) : Int))) (some (.int .i64 ((pre.length + P.length + t.length : Nat) : Int))) = some (strU t) := fun P t d he => by
    have hs2 : seg.length = P.length + (t.length + d.length) := by rw [he]; simp
    rw [b3B _ _ _ (by omega) (by omega)]
    have e1 : pre ++ seg ++ post = (pre ++ P) ++ (t ++ (d ++ post)) := by rw [he]; simp
    rw [e1, List.drop_left' (by simp), Nat.add_sub_cancel_left, List.take_left' rfl]
  generalize pre ++ seg ++ post = s at *
  generalize pre.length = f at *
  clear pre
  refine a0o.introL b3J b3H (Nat.le_of_ble_eq_true rfl) (c4Z _) fun H hH => ?_
  refine Safe.rg rfl ?_
  simp only [a7M, E3, seval]
  refine Safe.rg rfl ?_
  simp only [a7L, E3, seval]
  refine Safe.nilrow 9 2 (by decide) (by simp only [E3, seval]) ?_
  refine Safe.rg rfl ?_
  simp only [a7K, E3, seval]
  refine Safe.lp rfl ?_
  refine Safe.keep [0, 2, 9, 10] ?_
  simp only [E3, seval]
  refine Safe.loopW (fun a : List UInt8 × List Int × List UInt8 => a.2.2.length) (fun a => [(0, strU s), (2, .int .i64 ((f + seg.length : Nat) : Int)), (9, .mu (lid H 0) 0 a.2.1.length none), (10, .int .i64 ((f + a.1.length : Nat) : Int))]) (fun a => hap H [some ⟨2, (a.2.1.map canZ).map ZI.av⟩])
    (fun a => seg = a.1 ++ a.2.2 ∧ wd f seg = b3o a.2.1 (wd (f + a.1.length) a.2.2) ∧ a.2.1.length ≤ a.1.length) ([], [], seg) rfl rfl ⟨rfl, (b3m _).symm, Nat.le_refl _⟩ ?_
  rintro ⟨P, ds, rest⟩ ⟨h1, h2, h3⟩ ih
  simp only at h1 h2 h3
  have hgl : seg.length = P.length + rest.length := by rw [h1, List.length_append]
  have hat : ∀ j, j < rest.length → idxS (strU s) (.int .i64 ((f + P.length + j : Nat) : Int)) = some (.int .u8 ((rest.getD j 0).toNat : Int)) := fun j hj => by
    have := hidx (P.length + j) (by omega)
    rw [← Nat.add_assoc] at this
    rw [this]
    conv => lhs; rw [h1]
    rw [getD_app]
  refine Safe.inLoop ?_
  match rest, h1, h2, hgl, hat, ih with
  | [], h1, h2, hgl, hat, ih =>
    have hlt : (((f + P.length : Nat) : Int) < ((f + seg.length : Nat) : Int)) = False := eq_false (by simp at hgl; omega)
    refine Safe.rg rfl ?_
    simp only [a2o, hlt, E3, seval]
    refine Safe.cd rfl ?_
    simp only [E3, seval]
    refine Safe.freeze 0 hH rfl rfl (b9a 2 ZI.av _ ZI.cl) ?_
    refine Safe.keep [9] ?_
    simp only [b8S 0 2 ZI.av (ds.map canZ) ds.length none (by rw [List.length_map]), E3, seval]
    refine Safe.rg rfl ?_
    simp only [a3s, E3, seval]
    refine Safe.rt rfl ?_
    simp only [one3, E3, seval]
    rw [h2, b1H]
    simp only [b3o, List.append_nil, vecO]
    exact ⟨Le.refl _, _, rfl⟩
  | c :: rest, h1, h2, hgl, hat, ih =>
  have hlc : (c :: rest).length = rest.length + 1 := rfl
  have hlt : (((f + P.length : Nat) : Int) < ((f + seg.length : Nat) : Int)) = True := eq_true (by omega)
  by_cases hc : c = 32
  · subst hc
    have hi := hat 0 (by omega)
    rw [Nat.add_zero, show ((32 :: rest : List UInt8).getD 0 0).toNat = 32 from rfl] at hi
    have h32 : (((32 : Nat) : Int) = 32) = True := eq_true (by omega)
    have hiw : IntKind.wrap .i64 (((f + P.length : Nat) : Int) + 1) = ((f + (P.length + 1) : Nat) : Int) := by rw [a0g] <;> omega
    refine Safe.rg rfl ?_
    simp only [a2o, hlt, E3, seval]
    refine Safe.cd rfl ?_
    simp only [E3, seval]
    refine Safe.rg rfl ?_
    simp only [a4y, hi, h32, E3, seval]
    refine Safe.cd rfl ?_
    simp only [E3, seval]
    refine Safe.rg rfl ?_
    simp only [a7J, hiw, E3, seval]
    refine Safe.keep [0, 2, 9, 10] ?_
    simp only [E3, seval]
    repeat (first | refine Safe.seq ?_ | refine Safe.skip ?_ | refine Safe.inBlock ?_ | refine Safe.block ?_ | refine Safe.exit rfl ?_)
    have hn := ih (P ++ [32], ds, rest) ⟨by rw [h1]; simp, by rw [h2, b9N, List.length_append]; rfl, by simp; omega⟩ (by simp)
    simp only [List.length_append, List.length_cons, List.length_nil, Nat.zero_add] at hn
    exact hn
  · have e0 := c0T (c :: rest)
    have htp := b3p (s := rest) hc
    have hdl := a2P (s := rest) hc
    have htn := b5I (s := c :: rest)
    have hdc := a9a (c :: rest)
    rw [b4Y _ hc] at h2
    generalize a3S (c :: rest) = t at *
    generalize a7t (c :: rest) = d at *
    generalize c :: rest = r at *
    have hl0 : r.length = t.length + d.length := by rw [← e0, List.length_append]
    have hti : ∀ j, j < t.length → idxS (strU s) (.int .i64 ((f + P.length + j : Nat) : Int)) = some (.int .u8 (((t.getD j 0).toNat : Int))) ∧ (((t.getD j 0).toNat : Int) = 32) = False := fun j hj => by
      have hg : r.getD j 0 = t.getD j 0 := by
        rw [← e0, List.getD_eq_getElem?_getD, List.getD_eq_getElem?_getD, List.getElem?_append_left hj]
      refine ⟨by rw [hat j (by omega), hg], ?_⟩
      have hm : t.getD j 0 ∈ t := by rw [List.getD_eq_getElem?_getD, List.getElem?_eq_getElem hj]; exact List.getElem_mem _
      exact c1a _ 32 (htn _ hm)
    obtain ⟨ht0, ht1⟩ := hti 0 htp
    rw [Nat.add_zero] at ht0
    refine Safe.rg rfl ?_
    simp only [a2o, hlt, E3, seval]
    refine Safe.cd rfl ?_
    simp only [E3, seval]
    refine Safe.rg rfl ?_
    simp only [a4y, ht0, ht1, E3, seval]
    refine Safe.cd rfl ?_
    simp only [E3, seval]
    refine Safe.rg rfl ?_
    simp only [a7I, E3, seval]
    refine Safe.lp rfl ?_
    refine Safe.keep [0, 2, 9, 10, 11] ?_
    simp only [E3, seval]
    refine Safe.loopN t.length (fun j => [(0, strU s), (2, .int .i64 ((f + seg.length : Nat) : Int)), (9, .mu (lid H 0) 0 ds.length none), (10, .int .i64 ((f + P.length : Nat) : Int)), (11, .int .i64 ((f + P.length + j : Nat) : Int))]) (fun _ => hap H [some ⟨2, (ds.map canZ).map ZI.av⟩]) rfl rfl (fun j hj ih2 => ?_) ?_
    · obtain ⟨g1, g2⟩ := hti j hj
      have hltj : (((f + P.length + j : Nat) : Int) < ((f + seg.length : Nat) : Int)) = True := eq_true (by omega)
      have hiw : IntKind.wrap .i64 (((f + P.length + j : Nat) : Int) + 1) = ((f + P.length + (j + 1) : Nat) : Int) := by rw [a0g] <;> omega
      refine Safe.inLoop ?_
      refine Safe.rg rfl ?_
      simp only [a2n, hltj, g1, g2, E3, seval]
      refine Safe.cd rfl ?_
      simp only [E3, seval]
      refine Safe.rg rfl ?_
      simp only [a7H, hiw, E3, seval]
      refine Safe.keep [0, 2, 9, 10, 11] ?_
      simp only [E3, seval]
      repeat (first | refine Safe.seq ?_ | refine Safe.skip ?_ | refine Safe.inBlock ?_ | refine Safe.block ?_ | refine Safe.exit rfl ?_)
      exact ih2
    · have hrest : Safe ⟨Pr, fun _ _ => false, a1S, 55, [.tmp 6, .tmp 7, .tmp 8], H.length⟩ [.code (.region a2m false), .code (.seq (.seq (.region a1T false) (.cond (.t 47) (.seq (.region a3v false) (.ret)) (.skip))) (.seq (.region a3u false) (.region a3t false))), .inBlock 1, .inLoop a7N, .inBlock 0, .code (.seq (.region a3s false) (.ret))]
          [(0, strU s), (2, .int .i64 ((f + seg.length : Nat) : Int)), (9, .mu (lid H 0) 0 ds.length none), (10, .int .i64 ((f + P.length : Nat) : Int)), (11, .int .i64 ((f + P.length + t.length : Nat) : Int))] (hap H [some ⟨2, (ds.map canZ).map ZI.av⟩]) fun r' H' => Le r' (vecO (wd f seg)) ∧ ∃ L, H' = hap H L := by
        have hsc := hcut P t d (by rw [h1, e0])
        have hrd := c0k t (by omega)
        cases htv : tokV t with
        | none =>
          rw [htv] at h2 hrd
          simp only [b3o] at h2
          simp only at hrd
          refine Safe.rg rfl ?_
          simp only [a2m, hsc, E3, seval]
          refine ACalls.mono (hrd _) ?_
          rintro r' H' ⟨⟨a, rfl⟩, rfl⟩
          unfold a3R
          simp only [E3, seval]
          refine Safe.rg rfl ?_
          simp only [a1T, E3, seval]
          refine Safe.cd rfl ?_
          simp only [E3, seval]
          refine Safe.rg rfl ?_
          simp only [a3v, E3, seval]
          refine Safe.rt rfl ?_
          simp only [one3, E3, seval]
          rw [h2]
          exact ⟨Le.tup3 (Le.nil 2 (by decide)) (Le.refl _) (Le.refl _), _, rfl⟩
        | some z =>
          rw [htv] at h2 hrd
          simp only at hrd
          refine Safe.rg rfl ?_
          simp only [a2m, hsc, E3, seval]
          refine ACalls.mono (hrd _) ?_
          rintro r' H' ⟨rfl, rfl⟩
          simp only [E3, seval]
          refine Safe.rg rfl ?_
          simp only [a1T, E3, seval]
          refine Safe.cd rfl ?_
          simp only [E3, seval]
          refine Safe.rg rfl ?_
          simp only [a3u, E3, seval]
          rw [b9c (y := .agg [.bool (decide (z < 0)), natV (limbs z.natAbs)]) hH 0 (a7Z H 0) ZI.cl (ds.map canZ) (canZ z) ((ds ++ [z]).map canZ) (by rw [List.length_map]) rfl (by repeat (first | exact RC.nil | refine RC.none ?_ | refine RC.mo ?_ | refine RC.io ?_ | refine RC.row ZI.cl ?_ | refine RC.cons (a2B _) ?_ | refine RC.row a0I ?_ | refine RC.emp ?_ | refine RC.zero ?_ | refine RC.one (Z_cl _) ?_ | refine RC.one (ZI.cl _) ?_ | refine RC.one (a0I _) ?_)) rfl (by simp) (by omega) (by omega)]
          simp only [E3, seval]
          refine Safe.rg rfl ?_
          simp only [a3t, E3, seval]
          refine Safe.keep [0, 2, 9, 10] ?_
          simp only [ES, E3, seval]
          refine Safe.drop1 hH rfl (by simp only [List.all_cons, List.all_nil, ES, E3, seval]) (by repeat (first | exact RC.nil | refine RC.none ?_ | refine RC.mo ?_ | refine RC.io ?_ | refine RC.row ZI.cl ?_ | refine RC.cons (a2B _) ?_ | refine RC.row a0I ?_ | refine RC.emp ?_ | refine RC.zero ?_ | refine RC.one (Z_cl _) ?_ | refine RC.one (ZI.cl _) ?_ | refine RC.one (a0I _) ?_)) ?_
          repeat (first | refine Safe.seq ?_ | refine Safe.skip ?_ | refine Safe.inBlock ?_ | refine Safe.block ?_ | refine Safe.exit rfl ?_)
          have hn := ih (P ++ t, ds ++ [z], d) ⟨by rw [h1, ← e0, List.append_assoc], by rw [h2, List.length_append, ← Nat.add_assoc]; exact (b3n _ _ _).symm, by simp; omega⟩ (by simp only; omega)
          simp only [List.length_append, List.length_cons, List.length_nil, Nat.zero_add, ← Nat.add_assoc] at hn
          exact hn
      refine Safe.inLoop ?_
      rcases hdc with hd | ⟨d', hd⟩
      · have hltj : (((f + P.length + t.length : Nat) : Int) < ((f + seg.length : Nat) : Int)) = False := eq_false (by rw [hd] at hl0; simp at hl0; omega)
        refine Safe.rg rfl ?_
        simp only [a2n, hltj, E3, seval]
        refine Safe.cd rfl ?_
        simp only [E3, seval]
        refine Safe.keep [0, 2, 9, 10, 11] ?_
        simp only [E3, seval]
        repeat (first | refine Safe.seq ?_ | refine Safe.skip ?_ | refine Safe.inBlock ?_ | refine Safe.block ?_ | refine Safe.exit rfl ?_)
        exact hrest
      · have hltj : (((f + P.length + t.length : Nat) : Int) < ((f + seg.length : Nat) : Int)) = True := eq_true (by rw [hd] at hl0; simp at hl0; omega)
        have hi := hat t.length (by rw [hd] at hl0; simp at hl0; omega)
        have hg : (r.getD t.length 0).toNat = 32 := by
          rw [← e0, hd]
          have := getD_app t (32 :: d') 0
          rw [Nat.add_zero] at this
          rw [this]; rfl
        rw [hg] at hi
        have h32 : (((32 : Nat) : Int) = 32) = True := eq_true (by omega)
        refine Safe.rg rfl ?_
        simp only [a2n, hltj, hi, h32, E3, seval]
        refine Safe.cd rfl ?_
        simp only [E3, seval]
        refine Safe.keep [0, 2, 9, 10, 11] ?_
        simp only [E3, seval]
        repeat (first | refine Safe.seq ?_ | refine Safe.skip ?_ | refine Safe.inBlock ?_ | refine Safe.block ?_ | refine Safe.exit rfl ?_)
        exact hrest
end Go.Abs
namespace Go.Abs
open Go.Proofs
/-- The outcome of ReadVector. -/
def rvO (s : List UInt8) : List ZI × Nat × Nat := if 65536 < s.length then ([], 0, 2) else match wd 0 s with
  | .inl e => ([], e, 4)
  | .inr zs => (zs.map canZ, 0, 0)
def rvA (o : List ZI × Nat × Nat) : AV := .tup [vecV o.1, .int .i64 o.2.1, .int .i64 o.2.2]
theorem c4H (o : List ZI × Nat × Nat) : Cl (rvA o) := a5F (a0I _) (.int _ _) (.int _ _)
theorem b2N (s : List UInt8) : a0o Pr a2w [strU s] (rvA (rvO s)) := by
  refine a0o.introL a9l a9k (Nat.le_of_ble_eq_true rfl) (c4H _) fun H hH => ?_
  refine Safe.rg rfl ?_
  simp only [a4C, E3, seval]
  by_cases hl : 65536 < s.length
  · have hbig : ((s.length : Int) > 65536) = True := eq_true (by omega)
    refine Safe.rg rfl ?_
    simp only [a1Z, a0e, hbig, E3, seval]
    refine Safe.cd rfl ?_
    simp only [E3, seval]
    refine Safe.rg rfl ?_
    simp only [a4B, E3, seval]
    refine Safe.rt rfl ?_
    simp only [one3, E3, seval]
    rw [rvO, if_pos hl]
    exact ⟨Le.tup3 (Le.nil 2 (by decide)) (Le.refl _) (Le.refl _), [], rfl⟩
  · have hbig : ((s.length : Int) > 65536) = False := eq_false (by omega)
    have hv := b1M [] s [] (by simpa using hl)
    simp only [List.nil_append, List.append_nil, List.length_nil, Nat.zero_add, Int.natCast_zero] at hv
    refine Safe.rg rfl ?_
    simp only [a1Z, a0e, hbig, E3, seval]
    refine Safe.cd rfl ?_
    simp only [E3, seval]
    rw [rvO, if_neg hl]
    cases hw : wd 0 s with
    | inl e =>
      rw [hw] at hv
      simp only [vecO] at hv
      refine Safe.rg rfl ?_
      simp only [a1Y, a0e, E3, seval]
      first | refine (hv).acall ?_ | refine (hv).dcall ?_ | refine (hv).dgcall ?_
      try simp only [E3, seval]
      refine Safe.rg rfl ?_
      simp only [a1X, E3, seval]
      refine Safe.cd rfl ?_
      simp only [E3, seval]
      refine Safe.rg rfl ?_
      simp only [a4A, E3, seval]
      refine Safe.rt rfl ?_
      simp only [one3, E3, seval]
      exact ⟨Le.tup3 (Le.nil 2 (by decide)) (Le.refl _) (Le.refl _), [], rfl⟩
    | inr zs =>
      rw [hw] at hv
      simp only [vecO] at hv
      refine Safe.rg rfl ?_
      simp only [a1Y, a0e, E3, seval]
      first | refine (hv).acall ?_ | refine (hv).dcall ?_ | refine (hv).dgcall ?_
      try simp only [E3, seval]
      refine Safe.rg rfl ?_
      simp only [a1X, E3, seval]
      refine Safe.cd rfl ?_
      simp only [E3, seval]
      refine Safe.rg rfl ?_
      simp only [a4z, E3, seval]
      refine Safe.rt rfl ?_
      simp only [one3, E3, seval]
      exact ⟨Le.refl _, [], rfl⟩
/-- The rows of the a0S of a text, or the place of the first word that is no number. -/
def rd (f : Nat) : List (List UInt8) → Nat ⊕ List (List Int)
  | [] => .inr []
  | p :: ps => match wd f p with
    | .inl e => .inl e
    | .inr v => match rd (f + p.length + 1) ps with
      | .inl e => .inl e
      | .inr vs => .inr (v :: vs)
def b0V (X : List (List Int)) : Nat ⊕ List (List Int) → Nat ⊕ List (List Int)
  | .inl e => .inl e
  | .inr Y => .inr (X ++ Y)
theorem b3L (x : Nat ⊕ List (List Int)) : b0V [] x = x := by cases x <;> rfl
theorem b3M (X : List (List Int)) (v : List Int) (x : Nat ⊕ List (List Int)) : b0V (X ++ [v]) x = b0V X (match x with
    | .inl e => .inl e
    | .inr vs => .inr (v :: vs)) := by
  cases x <;> simp [b0V]
def a4P (X : List (List Int)) : List (List ZI) := X.map cans
def a4Q (s : List UInt8) : Bool := s.all (· == 32)
/-- The outcome of Read. -/
def rdO (s : List UInt8) : List (List ZI) × Nat × Nat := if 65536 < s.length then ([], 0, 2) else if a4Q s = true then ([], 0, 0) else match rd 0 (a0s 59 s) with
  | .inl e => ([], e, 4)
  | .inr X => (a4P X, 0, 0)
def rdA (o : List (List ZI) × Nat × Nat) : AV := .tup [matV o.1, .int .i64 o.2.1, .int .i64 o.2.2]
theorem c6O (o : List (List ZI) × Nat × Nat) : Cl (rdA o) := a5F (b4f _) (.int _ _) (.int _ _)
theorem c0h (s : List UInt8) : a0o Pr a3r [strU s] (rdA (rdO s)) := by
  refine a0o.introL b5X b5V (Nat.le_of_ble_eq_true rfl) (c6O _) fun H hH => ?_
  refine Safe.rg rfl ?_
  simp only [a9R, E3, seval]
  by_cases hl : 65536 < s.length
  · have hbig : ((s.length : Int) > 65536) = True := eq_true (by omega)
    refine Safe.rg rfl ?_
    simp only [a6H, a0e, hbig, E3, seval]
    refine Safe.cd rfl ?_
    simp only [E3, seval]
    refine Safe.rg rfl ?_
    simp only [a9Q, E3, seval]
    refine Safe.rt rfl ?_
    simp only [one3, E3, seval]
    rw [rdO, if_pos hl]
    exact ⟨Le.tup3 (Le.nil 1 (by decide)) (Le.refl _) (Le.refl _), [], rfl⟩
  have hbig : ((s.length : Int) > 65536) = False := eq_false (by omega)
  refine Safe.rg rfl ?_
  simp only [a6H, a0e, hbig, E3, seval]
  refine Safe.cd rfl ?_
  simp only [E3, seval]
  refine Safe.rg rfl ?_
  simp only [a9P, E3, seval]
  refine Safe.rg rfl ?_
  simp only [a9O, E3, seval]
  refine Safe.lp rfl ?_
  refine Safe.keep [0, 5, 6] ?_
  simp only [E3, seval]
  refine Safe.loopN s.length (fun i => [(0, strU s), (5, .bool (a4Q (s.take i))), (6, .int .i64 i)]) (fun _ => hap H []) rfl rfl (fun i hi ih => ?_) ?_
  · have hlt : ((i : Int) < (s.length : Int)) = True := eq_true (by omega)
    have hiw : IntKind.wrap .i64 ((i : Int) + 1) = ((i + 1 : Nat) : Int) := by rw [a0g] <;> omega
    have hix := a2M s .i64 hi
    have htk := a5j (D := s) (k := 0) (j := i) (by omega)
    rw [List.drop_zero, Nat.zero_add] at htk
    rw [htk] at ih
    refine Safe.inLoop ?_
    refine Safe.rg rfl ?_
    simp only [a6G, a0e, hlt, E3, seval]
    refine Safe.cd rfl ?_
    simp only [E3, seval]
    cases hb : a4Q (s.take i) with
    | false =>
      have hb2 : a4Q (s.take i ++ [s.getD i 0]) = false := by
        unfold a4Q at hb ⊢
        rw [List.all_append, hb]; rfl
      rw [hb2] at ih
      refine Safe.rg rfl ?_
      simp only [a3U, E3, seval]
      refine Safe.rg rfl ?_
      simp only [a3T, hiw, E3, seval]
      refine Safe.keep [0, 5, 6] ?_
      simp only [E3, seval]
      exact ih
    | true =>
      by_cases h32 : s.getD i 0 = 32
      · have hb2 : a4Q (s.take i ++ [s.getD i 0]) = true := by
          unfold a4Q at hb ⊢
          rw [List.all_append, hb, h32]; rfl
        rw [hb2] at ih
        have he : (((s.getD i 0).toNat : Int) = 32) = True := eq_true (by rw [h32]; rfl)
        refine Safe.rg rfl ?_
        simp only [a3U, hix, he, E3, seval]
        refine Safe.rg rfl ?_
        simp only [a3T, hiw, E3, seval]
        refine Safe.keep [0, 5, 6] ?_
        simp only [E3, seval]
        exact ih
      · have hb2 : a4Q (s.take i ++ [s.getD i 0]) = false := by
          unfold a4Q at hb ⊢
          rw [List.all_append, hb]
          simpa using h32
        rw [hb2] at ih
        have he := c1a _ 32 h32
        refine Safe.rg rfl ?_
        simp only [a3U, hix, show (((s.getD i 0).toNat : Int) = 32) = False from he, E3, seval]
        refine Safe.rg rfl ?_
        simp only [a3T, hiw, E3, seval]
        refine Safe.keep [0, 5, 6] ?_
        simp only [E3, seval]
        exact ih
  refine Safe.inLoop ?_
  refine Safe.rg rfl ?_
  simp only [a6G, a0e, Int.lt_irrefl, E3, seval]
  refine Safe.cd rfl ?_
  simp only [E3, seval]
  rw [List.take_length]
  cases hb : a4Q s with
  | true =>
    refine Safe.rg rfl ?_
    simp only [a6F, E3, seval]
    refine Safe.cd rfl ?_
    simp only [E3, seval]
    refine Safe.rg rfl ?_
    simp only [a9N, E3, seval]
    refine Safe.rt rfl ?_
    simp only [one3, E3, seval]
    rw [rdO, if_neg hl, if_pos hb]
    exact ⟨Le.tup3 (Le.nil 1 (by decide)) (Le.refl _) (Le.refl _), [], rfl⟩
  | false =>
  have hO : rdO s = match rd 0 (a0s 59 s) with
      | .inl e => ([], e, 4)
      | .inr X => (a4P X, 0, 0) := by rw [rdO, if_neg hl, if_neg (by rw [hb]; simp)]
  refine Safe.rg rfl ?_
  simp only [a6F, E3, seval]
  refine Safe.cd rfl ?_
  simp only [E3, seval]
  refine Safe.rg rfl ?_
  simp only [a8L, E3, seval]
  refine Safe.nilrow 7 1 (by decide) (by simp only [E3, seval]) ?_
  refine Safe.rg rfl ?_
  simp only [a8K, E3, seval]
  refine Safe.rg rfl ?_
  simp only [a8J, E3, seval]
  refine Safe.lp rfl ?_
  refine Safe.keep [0, 7, 8, 9] ?_
  simp only [E3, seval]
  refine Safe.loopW (fun a : List UInt8 × List (List Int) × List UInt8 × List UInt8 => a.2.2.2.length) (fun a => [(0, strU s), (7, .mu (lid H 0) 0 a.2.1.length none), (8, .int .i64 a.1.length), (9, .int .i64 ((a.1.length + a.2.2.1.length : Nat) : Int))]) (fun a => hap H [some ⟨1, (a.2.1.map cans).map vecV⟩])
    (fun a => s = a.1 ++ a.2.2.1 ++ a.2.2.2 ∧ a.2.2.1.count 59 = 0 ∧ rd 0 (a0s 59 s) = b0V a.2.1 (rd a.1.length (a0s 59 (a.2.2.1 ++ a.2.2.2))) ∧ a.2.1.length ≤ a.1.length) ([], [], [], s) rfl rfl ⟨rfl, rfl, (b3L _).symm, Nat.le_refl _⟩ ?_
  rintro ⟨pre, X, q, u⟩ ⟨h1, h2, h3, h4⟩ ih
  simp only at h1 h2 h3 h4
  have hsl : s.length = pre.length + q.length + u.length := by rw [h1]; simp [Nat.add_assoc]
  have hlt : (((pre.length + q.length : Nat) : Int) ≤ (s.length : Int)) = True := eq_true (by omega)
  have hv := b1M pre q u (by rw [← h1]; omega)
  rw [← h1] at hv
  have part : ∀ (ps : List (List UInt8)), a0s 59 (q ++ u) = q :: ps → (∀ v, wd pre.length q = .inr v → Safe ⟨Pr, fun _ _ => false, a3r, 64, [.tmp 2, .tmp 3, .tmp 4], H.length⟩ [.code (.region a1k false), .inLoop a6I, .inBlock 2, .code (.seq (.region a2E false) (.ret))]
      [(0, strU s), (7, .mu (lid H 0) 0 (X.length + 1) none), (8, .int .i64 ((pre.length + q.length + 1 : Nat) : Int)), (9, .int .i64 ((pre.length + q.length : Nat) : Int))] (hap H [some ⟨1, ((X ++ [v]).map cans).map vecV⟩]) fun r' H' => Le r' (rdA (rdO s)) ∧ ∃ L, H' = hap H L) →
      Safe ⟨Pr, fun _ _ => false, a3r, 64, [.tmp 2, .tmp 3, .tmp 4], H.length⟩ [.code (.region a2G false), .code (.seq (.seq (.region a2F false) (.cond (.t 55) (.seq (.region a5n false) (.ret)) (.skip))) (.seq (.region a5m false) (.region a5l false))), .inBlock 3, .code (.region a1k false), .inLoop a6I, .inBlock 2, .code (.seq (.region a2E false) (.ret))]
      [(0, strU s), (7, .mu (lid H 0) 0 X.length none), (8, .int .i64 pre.length), (9, .int .i64 ((pre.length + q.length : Nat) : Int))] (hap H [some ⟨1, (X.map cans).map vecV⟩]) fun r' H' => Le r' (rdA (rdO s)) ∧ ∃ L, H' = hap H L := by
    intro ps hps hnext
    rw [hps, rd] at h3
    cases hw : wd pre.length q with
    | inl e =>
      rw [hw] at h3 hv
      simp only [b0V] at h3
      simp only [vecO] at hv
      refine Safe.rg rfl ?_
      simp only [a2G, E3, seval]
      first | refine (hv).acall ?_ | refine (hv).dcall ?_ | refine (hv).dgcall ?_
      try simp only [E3, seval]
      refine Safe.rg rfl ?_
      simp only [a2F, E3, seval]
      refine Safe.cd rfl ?_
      simp only [E3, seval]
      refine Safe.rg rfl ?_
      simp only [a5n, E3, seval]
      refine Safe.rt rfl ?_
      simp only [one3, E3, seval]
      rw [hO, h3]
      exact ⟨Le.tup3 (Le.nil 1 (by decide)) (Le.refl _) (Le.refl _), _, rfl⟩
    | inr v =>
      rw [hw] at hv
      simp only [vecO] at hv
      have hiw : IntKind.wrap .i64 (((pre.length + q.length : Nat) : Int) + 1) = ((pre.length + q.length + 1 : Nat) : Int) := by rw [a0g] <;> omega
      refine Safe.rg rfl ?_
      simp only [a2G, E3, seval]
      first | refine (hv).acall ?_ | refine (hv).dcall ?_ | refine (hv).dgcall ?_
      try simp only [E3, seval]
      refine Safe.rg rfl ?_
      simp only [a2F, E3, seval]
      refine Safe.cd rfl ?_
      simp only [E3, seval]
      refine Safe.rg rfl ?_
      simp only [a5m, E3, seval]
      rw [b9c (y := vecV (v.map canZ)) (f := vecV) hH 0 (a7Z H 0) a0I (X.map cans) (cans v) ((X ++ [v]).map cans) (by rw [List.length_map]) rfl (by repeat (first | exact RC.nil | refine RC.none ?_ | refine RC.mo ?_ | refine RC.io ?_ | refine RC.row ZI.cl ?_ | refine RC.cons (a2B _) ?_ | refine RC.row a0I ?_ | refine RC.emp ?_ | refine RC.zero ?_ | refine RC.one (Z_cl _) ?_ | refine RC.one (ZI.cl _) ?_ | refine RC.one (a0I _) ?_)) rfl (by simp) (by omega) (by omega)]
      simp only [E3, seval]
      refine Safe.rg rfl ?_
      simp only [a5l, hiw, E3, seval]
      refine Safe.keep [0, 7, 8, 9] ?_
      simp only [ES, E3, seval]
      repeat (first | refine Safe.seq ?_ | refine Safe.skip ?_ | refine Safe.inBlock ?_ | refine Safe.block ?_ | refine Safe.exit rfl ?_)
      exact hnext v hw
  refine Safe.inLoop ?_
  match u, h1, h3, hsl, hv, ih, part with
  | [], h1, h3, hsl, hv, ih, part =>
    have heq : (((pre.length + q.length : Nat) : Int) = (s.length : Int)) = True := eq_true (by simp at hsl; omega)
    have hsp : a0s 59 (q ++ []) = [q] := by rw [List.append_nil, a9h 59 q h2]
    have hiw : IntKind.wrap .i64 (((pre.length + q.length : Nat) : Int) + 1) = ((pre.length + q.length + 1 : Nat) : Int) := by rw [a0g] <;> omega
    refine Safe.rg rfl ?_
    simp only [a2I, a0e, hlt, E3, seval]
    refine Safe.cd rfl ?_
    simp only [E3, seval]
    refine Safe.rg rfl ?_
    simp only [a2H, a0e, heq, E3, seval]
    refine Safe.cd rfl ?_
    simp only [E3, seval]
    refine Safe.keep [0, 7, 8, 9] ?_
    simp only [E3, seval]
    repeat (first | refine Safe.seq ?_ | refine Safe.skip ?_ | refine Safe.inBlock ?_ | refine Safe.block ?_ | refine Safe.exit rfl ?_)
    refine part [] hsp fun v hw => ?_
    have hlt2 : (((pre.length + q.length + 1 : Nat) : Int) ≤ (s.length : Int)) = False := eq_false (by simp at hsl; omega)
    refine Safe.rg rfl ?_
    simp only [a1k, hiw, E3, seval]
    refine Safe.keep [0, 7, 8, 9] ?_
    simp only [E3, seval]
    refine Safe.inLoop ?_
    refine Safe.rg rfl ?_
    simp only [a2I, a0e, hlt2, E3, seval]
    refine Safe.cd rfl ?_
    simp only [E3, seval]
    refine Safe.freeze 0 hH rfl rfl (b9a 1 vecV _ a0I) ?_
    refine Safe.keep [7] ?_
    simp only [c5T H 0 ((X ++ [v]).map cans) (X.length + 1) none (by simp), E3, seval]
    refine Safe.rg rfl ?_
    simp only [a2E, E3, seval]
    refine Safe.rt rfl ?_
    simp only [one3, E3, seval]
    rw [hsp, rd, hw] at h3
    simp only [rd, b0V] at h3
    rw [hO, h3]
    exact ⟨Le.refl _, _, rfl⟩
  | c :: u, h1, h3, hsl, hv, ih, part =>
    have heq : (((pre.length + q.length : Nat) : Int) = (s.length : Int)) = False := eq_false (by simp at hsl; omega)
    have hix := a2M s .i64 (i := pre.length + q.length) (by simp at hsl; omega)
    have hgc : s.getD (pre.length + q.length) 0 = c := by
      have := getD_app (pre ++ q) (c :: u) 0
      rw [Nat.add_zero, List.length_append] at this
      rw [h1, this]; rfl
    rw [hgc] at hix
    have hiw : IntKind.wrap .i64 (((pre.length + q.length : Nat) : Int) + 1) = ((pre.length + q.length + 1 : Nat) : Int) := by rw [a0g] <;> omega
    refine Safe.rg rfl ?_
    simp only [a2I, a0e, hlt, E3, seval]
    refine Safe.cd rfl ?_
    simp only [E3, seval]
    by_cases hc : c = 59
    · subst hc
      have h59 : (((59 : UInt8).toNat : Int) = 59) = True := eq_true rfl
      have hsp := b0U 59 q u h2
      refine Safe.rg rfl ?_
      simp only [a2H, a0e, heq, hix, h59, E3, seval]
      refine Safe.cd rfl ?_
      simp only [E3, seval]
      refine Safe.keep [0, 7, 8, 9] ?_
      simp only [E3, seval]
      repeat (first | refine Safe.seq ?_ | refine Safe.skip ?_ | refine Safe.inBlock ?_ | refine Safe.block ?_ | refine Safe.exit rfl ?_)
      refine part _ hsp fun v hw => ?_
      refine Safe.rg rfl ?_
      simp only [a1k, hiw, E3, seval]
      refine Safe.keep [0, 7, 8, 9] ?_
      simp only [E3, seval]
      have hn := ih (pre ++ q ++ [59], X ++ [v], [], u) ⟨by rw [h1]; simp, rfl, by
        rw [h3, hsp, rd, hw, b3M]
        simp only [List.nil_append, List.length_append, List.length_cons, List.length_nil, Nat.zero_add], by simp; omega⟩ (by simp)
      simp only [List.length_append, List.length_cons, List.length_nil, Nat.zero_add, Nat.add_zero] at hn
      exact hn
    · have h59 := c1a c 59 hc
      refine Safe.rg rfl ?_
      simp only [a2H, a0e, heq, hix, show ((c.toNat : Int) = 59) = False from h59, E3, seval]
      refine Safe.cd rfl ?_
      simp only [E3, seval]
      refine Safe.rg rfl ?_
      simp only [a1k, hiw, E3, seval]
      refine Safe.keep [0, 7, 8, 9] ?_
      simp only [E3, seval]
      repeat (first | refine Safe.seq ?_ | refine Safe.skip ?_ | refine Safe.inBlock ?_ | refine Safe.block ?_ | refine Safe.exit rfl ?_)
      have hn := ih (pre, X, q ++ [c], u) ⟨by rw [h1]; simp, by rw [List.count_append, h2, List.count_cons_of_ne (by simpa using hc)]; rfl, by
        rw [h3, List.append_assoc]; rfl, h4⟩ (by simp)
      simp only [List.length_append, List.length_cons, List.length_nil, Nat.zero_add, ← Nat.add_assoc] at hn
      exact hn
end Go.Abs
namespace Go.Abs
theorem b6J : ∀ a ∈ (Blk.mk 2 [AV.agg [.bool false, .nil]]).flat, Cl a := fun a ha => by
  simp only [Blk.flat, List.flatMap_cons, List.flatMap_nil, List.append_nil, AV.cells, List.mem_cons, List.not_mem_nil, or_false] at ha
  rcases ha with rfl | rfl
  · exact .bool _
  · exact .nil
theorem b7t (neg : Bool) (l : List Nat) (hl : Nt l) (H : Heap) (R : AV → Heap → Prop) (h0 : val l = 0 → R (.agg [.bool false, .nil]) (hap H [some ⟨2, [.agg [.bool false, .nil]]⟩]))
    (h1 : ∀ n, 0 < n → n ≤ l.length → limbs (val l) = l.take n → R (.agg [.bool neg, .mu (lid H 1) 0 n (some n)]) (hap H [some ⟨2, [.agg [.bool neg, .mu (lid H 1) 0 n (some n)]]⟩, some ⟨1, u32s (l.take n)⟩])) : ACalls Pr a0Z [.bool neg, natV l] H R := by
  have hll := hl.len
  refine ACalls.open b1z b1y (Nat.le_of_ble_eq_true rfl) fun hH => ?_
  refine Safe.seq (Safe.region ?_)
  simp only [a7l, E2, seval]
  refine Safe.seq (Safe.region ?_)
  simp only [a7k, E2, seval]
  refine Safe.seq (Safe.block (Safe.loop ?_))
  have copy : ∀ (n : Nat), n ≤ l.length → limbs (val l) = l.take n → ∀ env : Env, look env 0 = .bool neg → look env 1 = natV l → look env 4 = .loc (lid H 0) 0 0 → look env 5 = .int .i64 n →
      Safe ⟨Pr, fun _ _ => false, a0Z, 32, [.cell 4 (some 2)], H.length⟩ [.code (((ACode.region a1v false).seq (.cond (.t 22) ((ACode.region a1u false).seq .ret) .skip)).seq ((ACode.region a1t false).seq ((ACode.region a1s false).seq ((ACode.region a1r false).seq .ret))))]
        env (hap H [some ⟨2, [.agg [.bool false, .nil]]⟩]) R := by
    intro n hn hlim env e0 e1 e4 e5
    refine Safe.seq (Safe.seq (Safe.region ?_))
    simp only [a1v, E2, seval, e5]
    refine Safe.cond ?_
    simp only [E2, seval]
    by_cases hn0 : n = 0
    · subst hn0
      simp only [Int.natCast_zero, E2, seval]
      refine Safe.seq (Safe.region ?_)
      simp only [a1u, E2, seval, e4]
      refine Safe.retn ?_
      simp only [E2, seval, e4]
      refine h0 ?_
      have := a1c (val l)
      rw [hlim] at this
      simpa [val] using this.symm
    · have h0' : ¬ ((n : Int) = 0) := by omega
      simp only [h0', E2, seval]
      refine Safe.skip (Safe.seq (Safe.region ?_))
      simp only [a1t, E2, seval, e5, b0C _ H [some ⟨2, [.agg [.bool false, .nil]]⟩] _ _ n (by omega)]
      refine Safe.seq (Safe.region ?_)
      simp only [a1s, E2, seval, e1]
      rw [b6B _ H [some ⟨2, [.agg [.bool false, .nil]]⟩, some ⟨1, u32s (List.replicate n 0)⟩] 1 1 n (some n) (natV l) (u32s (List.replicate n 0)) (u32s l) rfl (by simp [a0B]) (b2Y _ l) (by rw [a0B]; exact hn)]
      simp only [E2, seval, b3q]
      refine Safe.keep [0, 4, 6] ?_
      simp only [E2, seval, e0, e4]
      refine Safe.seq (Safe.region ?_)
      simp only [a1r, E2, seval]
      refine Safe.retn ?_
      simp only [E2, seval]
      exact h1 n (by omega) hn hlim
  have key : ∀ (n : Nat), n ≤ l.length → val (l.take n) = val l → ∀ env : Env, look env 0 = .bool neg → look env 1 = natV l → look env 4 = .loc (lid H 0) 0 0 → look env 5 = .int .i64 n →
      Safe ⟨Pr, fun _ _ => false, a0Z, 32, [.cell 4 (some 2)], H.length⟩ [.inLoop a7m, .inBlock 0, .code (((ACode.region a1v false).seq (.cond (.t 22) ((ACode.region a1u false).seq .ret) .skip)).seq ((ACode.region a1t false).seq ((ACode.region a1s false).seq ((ACode.region a1r false).seq .ret))))]
        env (hap H [some ⟨2, [.agg [.bool false, .nil]]⟩]) R := by
    intro n
    induction n with
    | zero =>
      intro hn hv env e0 e1 e4 e5
      refine Safe.inLoop (Safe.seq (Safe.seq (Safe.region ?_)))
      simp only [a2O, E2, seval, e1, e5, Int.natCast_zero, Int.lt_irrefl]
      refine Safe.cond ?_
      simp only [E2, seval]
      refine Safe.exit rfl (copy 0 hn ?_ _ (by simp only [E2, seval, e0]) (by simp only [E2, seval, e1]) (by simp only [E2, seval, e4]) (by simp only [E2, seval, e5] <;> rfl))
      rw [← hv]; simp [val, a0y]
    | succ n ih =>
      intro hn hv env e0 e1 e4 e5
      refine Safe.inLoop (Safe.seq (Safe.seq (Safe.region ?_)))
      have h0 : (0 : Int) < ((n + 1 : Nat) : Int) := by omega
      have hw : IntKind.wrap .i64 (((n + 1 : Nat) : Int) - 1) = (n : Int) := by rw [a0g] <;> omega
      simp only [a2O, E2, seval, e1, e5, h0, hw, a1H _ l _ n (by omega)]
      refine Safe.cond ?_
      simp only [E2, seval]
      by_cases hd : l.getD n 0 = 0
      · simp only [hd, Int.natCast_zero, E2, seval]
        refine Safe.skip (Safe.block (Safe.region ?_))
        simp only [a7j, E2, seval, e5, hw]
        refine Safe.inBlock (ih (by omega) ?_ _ (by simp only [E2, seval, e0]) (by simp only [E2, seval, e1]) (by simp only [E2, seval, e4]) (by simp only [E2, seval]))
        rw [← hv, a0w, hd]; simp
      · have hd' : ¬ (((l.getD n 0 : Nat) : Int) = 0) := by omega
        simp only [hd', E2, seval]
        refine Safe.exit rfl (copy (n + 1) hn ?_ _ (by simp only [E2, seval, e0]) (by simp only [E2, seval, e1]) (by simp only [E2, seval, e4]) (by simp only [E2, seval, e5]))
        rw [← hv, a5X (hl.lim.take _)]
        rw [a9J (by omega)]; simpa using hd
  exact key l.length (Nat.le_refl _) (by rw [List.take_length]) _ (by simp only [E2, seval]) (by simp only [E2, seval]) (by simp only [E2, seval]) (by simp only [E2, seval])
theorem c7i {l : List Nat} (h0 : 0 < l.length) (h1 : l.length ≤ 17592186044416) : K0 ⟨1, u32s l⟩ := ⟨rfl, by rw [a0B]; exact h0, by rw [a0B]; exact h1, fun x hx => by
  obtain ⟨n, _, rfl⟩ := List.mem_map.1 hx
  exact ⟨_, rfl⟩⟩
end Go.Abs
namespace Go.Abs
theorem MatT.low {n0 n1 : Nat} {A : Heap} {a : AV} (h : n0 ≤ n1) (t : MatT n1 A a) : MatT n0 A a := by
  rcases t with rfl | ⟨id, off, l, oc, r, rfl, h0, h1, h2, h3⟩
  · exact .inl rfl
  · exact .inr ⟨id, off, l, oc, r, rfl, by omega, h1, ⟨h2.wd, fun x hx => (h2.el x hx).low h⟩, h3⟩
end Go.Abs

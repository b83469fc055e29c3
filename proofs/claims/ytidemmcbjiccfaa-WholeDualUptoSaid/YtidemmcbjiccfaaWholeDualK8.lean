/- Part 8 of the proof of WholeDual: G3, G4, G5, G6, G7, G8, G9, G10, G11, G12, G13, G14, G15, G16, G17, G18, G19, G20, G21, G22, G23, G24. -/
import Derived.Test.YtidemmcbjiccfaaWholeDualK7
import Derived.RangeFuncNested
import Derived.RangeFuncBound
import Derived.RangeFuncCalls
import Derived.RangeFuncLeaves
import Derived.RangeFuncBox
import Derived.Shelf.Abstract
import Derived.WalkKit
import Derived.OwnWalkIn
import Derived.TacticsInMore
import Derived.LoopNIn
import Derived.LoopIn
set_option linter.unusedVariables false
set_option linter.unusedSimpArgs false
namespace Go.Abs
theorem d8R {H L : Heap} {i k off : Nat} {b : Blk} (h : L[i]? = some (some b)) (hk : k < b.xs.length) : atV (hap H L) (.loc (lid H i) k off) = some ((b.xs.getD k .top).cells.drop off) := by
 rw [b2u, a0I, h]; simp [hk]
def gsoD (b : List (List ZI)) (n : Nat) : List ZI := vec (n + 1) (dI b)
def gsoL (b : List (List ZI)) (n : Nat) : List (List ZI) := mat n fun i => vec i fun t => uI b t i t
def zz : AV := .agg [.nil, .nil]
def gh (H : Heap) (b : List (List ZI)) (i : Nat) : Heap := if i = 0 then hap H [some ⟨2, [zz]⟩, some ⟨2, [Z 1]⟩, some ⟨2, [.agg [.mu (lid H 1) 0 1 (some 1), .nil]]⟩]
 else hap H [some ⟨2, [zz]⟩, some ⟨2, [Z 1]⟩, some ⟨2, [.agg [.mu (lid H 3) 0 (i + 1) none, .mu (lid H 4) 0 i none]]⟩, some ⟨2, (gsoD b i).map ZI.av⟩, some ⟨1, (gsoL b i).map vecV⟩]
theorem b0E : Cl zz := .agg _ fun c hc => by
 simp only [List.mem_cons, List.not_mem_nil, or_false] at hc
 rcases hc with rfl | rfl <;> exact .nil
section
variable {H : Heap} (hH : a0C H) {b : List (List ZI)} {i : Nat}
theorem b9Q {H L : Heap} (hH : a0C H) (h : ∀ b, some b ∈ L → ∀ a ∈ b.flat, Ref (fun j => j < H.length + L.length) a) : a0C (hap H L) := by
 intro id bl hb a ha
 have hlen : (hap H L).length = H.length + L.length := by simp [hap]
 unfold hap at hb
 rcases Nat.lt_or_ge id H.length with hi | hi
 ·rw [List.getElem?_append_left hi] at hb
  exact (hH id bl hb a ha).mono fun j hj => by rw [hlen]; omega
 ·rw [List.getElem?_append_right hi] at hb
  exact (h bl (List.mem_of_getElem? hb) a ha).mono fun j hj => by rw [hlen]; exact hj
theorem d3r {α : Type} {wd : Nat} {f : α → AV} (hf : ∀ x, Cl (f x)) {l : List α} {S : Nat → Prop} : ∀ a ∈ (Blk.mk wd (l.map f)).flat, Ref S a := fun a ha => (a1t wd f l hf a ha).ref
include hH
theorem e9w : a0C (gh H b i) := by
 unfold gh
 split
 ·refine b9Q hH fun bl hb a ha => ?_
  simp only [List.mem_cons, List.not_mem_nil, or_false] at hb
  rcases hb with hb | hb | hb
  ·cases hb; exact (a1U b0E a ha).ref
  ·cases hb; exact (a1U (Z_cl 1) a ha).ref
  ·cases hb
   simp only [Blk.flat, List.flatMap_cons, List.flatMap_nil, List.append_nil, AV.cells, List.mem_cons, List.not_mem_nil, or_false] at ha
   rcases ha with rfl | rfl
   ·exact .mu _ _ _ _ (by simp [lid])
   ·exact .nil
 ·refine b9Q hH fun bl hb a ha => ?_
  simp only [List.mem_cons, List.not_mem_nil, or_false] at hb
  rcases hb with hb | hb | hb | hb | hb
  ·cases hb; exact (a1U b0E a ha).ref
  ·cases hb; exact (a1U (Z_cl 1) a ha).ref
  ·cases hb
   simp only [Blk.flat, List.flatMap_cons, List.flatMap_nil, List.append_nil, AV.cells, List.mem_cons, List.not_mem_nil, or_false] at ha
   rcases ha with rfl | rfl
   ·exact .mu _ _ _ _ (by simp [lid])
   ·exact .mu _ _ _ _ (by simp [lid])
  ·cases hb; exact d3r ZI.cl a ha
  ·cases hb; exact d3r a0g a ha
omit hH in
theorem f1C : lid H 2 < (gh H b i).length ∧ H.length ≤ (gh H b i).length ∧ lid H 0 < (gh H b i).length := by
 unfold gh
 split <;> simp [hap, lid]
omit hH in
theorem f2q (b) (i : Nat) : ∃ dr lr dd ll, GsoAt b i (gh H b i) dr lr (lid H 2) dd ll := by
 unfold gh
 by_cases h0 : i = 0
 ·subst h0
  rw [if_pos rfl]
  refine ⟨.mu (lid H 1) 0 1 (some 1), .nil, lid H 1, 0, fun L => by rw [a0v, a0I]; rfl, fun L off => by rw [a0v, d8R (i := 2) (k := 0) rfl (by simp)]; rfl, fun L k hk => ?_, fun L k hk => ?_, fun L j hj => by omega, fun L j hj => by omega⟩
  ·obtain rfl : k = 0 := by omega
   rw [a0v, b1p H _ 2 1 0 1 (some 1) .i64 0 rfl rfl (by omega)]
  ·obtain rfl : k = 0 := by omega
   rw [a0v, a4r H _ 1 0 rfl (by simp), e4j]; rfl
 ·rw [if_neg h0]
  refine ⟨.mu (lid H 3) 0 (i + 1) none, .mu (lid H 4) 0 i none, lid H 3, lid H 4, fun L => by rw [a0v, a0I]; rfl, fun L off => by rw [a0v, d8R (i := 2) (k := 0) rfl (by simp)]; rfl, fun L k hk => ?_, fun L k hk => ?_, fun L j hj => ?_, fun L j hj => ?_⟩
  ·rw [a0v, b1p H _ 2 3 0 (i + 1) none .i64 k rfl rfl (by omega), Nat.zero_add]
  ·rw [a0v, a4r H _ 3 k rfl (by simp [gsoD, a0e]; omega)]
   unfold gsoD
   rw [d8v (by omega)]
  ·rw [a0v, b1p H _ 1 4 0 i none .i64 j rfl rfl hj, Nat.zero_add]
  ·rw [a0v, a4r H _ 4 j rfl (by simp [gsoL, a0f]; omega)]
   rw [List.getD_eq_getElem?_getD, List.getElem?_map, List.getElem?_eq_getElem (by simp [gsoL, a0f]; omega)]
   unfold gsoL
   rw [d1Q]; rfl
end
theorem d0W (a c : AV) (id off len : Nat) (oc : Option Nat) : upd (.agg [a, c]) 2 0 1 (.mu id off len oc) = .agg [.mu id off len oc, c] := by simp [upd, a2i, AV.cells]
theorem d0V (a c : AV) (id off len : Nat) (oc : Option Nat) : upd (.agg [a, c]) 2 1 1 (.mu id off len oc) = .agg [a, .mu id off len oc] := by simp [upd, a2i, AV.cells]
theorem e2h (H : Heap) {n i : Nat} {f : Nat → Int} (h : i ≤ n) : slcV H 2 (.sl 2 ((vec n f).map ZI.av)) none (some (.int .i64 (i : Nat))) (some (.int .i64 (i : Nat))) = some (vecV (vec i f)) := by
 simp only [slcV, a3V, Option.bind_some]
 rw [if_pos ⟨trivial, rfl, by omega, by omega, Int.le_refl _, by rw [List.length_map, a0e]; omega⟩]
 simp only [Int.toNat_natCast, Int.toNat_zero, List.drop_zero, Nat.sub_zero, vecV]
 rw [← List.map_take]
 congr 3
 unfold vec
 rw [← List.map_take, List.take_range, Nat.min_eq_left h]
theorem b0L {α : Type} (id : Nat) {f : α → AV} (hf : ∀ x, Cl (f x)) (l : List α) : (l.map f).map (a3K id) = l.map f := by
 rw [List.map_map]
 exact List.map_congr_left fun x _ => a2K (a0y (hf x))
theorem d8G (H : Heap) (i j o l o2 l2 : Nat) (oc oc2 : Option Nat) (h : j ≠ i) : a3K (lid H i) (.agg [.mu (lid H i) o l oc, .mu (lid H j) o2 l2 oc2]) = .agg [.top, .mu (lid H j) o2 l2 oc2] := by
 have h1 : nref (lid H i) (.mu (lid H i) o l oc) = false := by rw [c5g]; simp
 have h2 : nref (lid H i) (.mu (lid H j) o2 l2 oc2) = true := by rw [c5g]; simp [h]
 have h3 : nref (lid H i) (.agg [.mu (lid H i) o l oc, .mu (lid H j) o2 l2 oc2]) = false := by rw [d1N]; simp [h1]
 unfold a3K
 rw [h3]
 simp [topd, h1, h2]
theorem d8F (H : Heap) (i j o l o2 l2 : Nat) (oc oc2 : Option Nat) (h : j ≠ i) : a3K (lid H i) (.agg [.mu (lid H j) o2 l2 oc2, .mu (lid H i) o l oc]) = .agg [.mu (lid H j) o2 l2 oc2, .top] := by
 have h1 : nref (lid H i) (.mu (lid H i) o l oc) = false := by rw [c5g]; simp
 have h2 : nref (lid H i) (.mu (lid H j) o2 l2 oc2) = true := by rw [c5g]; simp [h]
 have h3 : nref (lid H i) (.agg [.mu (lid H j) o2 l2 oc2, .mu (lid H i) o l oc]) = false := by rw [d1N]; simp [h1]
 unfold a3K
 rw [h3]
 simp [topd, h1, h2]
theorem a4u (H : Heap) {i j : Nat} (bl : Blk) (k off : Nat) (h : j ≠ i) : frz (lid H i) bl (.loc (lid H j) k off) = .loc (lid H j) k off := a2o (.loc _ _ _ (by unfold lid; omega))
theorem d2h (H : Heap) {i j : Nat} (bl : Blk) (off len : Nat) (oc : Option Nat) (h : j ≠ i) : frz (lid H i) bl (.mu (lid H j) off len oc) = .mu (lid H j) off len oc := a2o (.mu _ _ _ _ (by unfold lid; omega))
theorem c3U (id : Nat) (bl : Blk) (a c : AV) : frz id bl (.agg [a, c]) = .agg [frz id bl a, frz id bl c] := by simp [frz]
theorem c3T {α : Type} (H : Heap) (i wd : Nat) (f : α → AV) (l : List α) (len : Nat) (oc : Option Nat) (h : len = l.length) : frz (lid H i) ⟨wd, l.map f⟩ (.mu (lid H i) 0 len oc) = .sl wd (l.map f) := a9z i wd f l len oc h
noncomputable def d0G (b : List (List ZI)) : AV := if gd (Gr b) b.length = b.length then .tup [.agg [vecV (gsoD b b.length), matV (gsoL b b.length)], .bool true] else .tup [zz, .bool false]
theorem e4A (b : List (List ZI)) : Cl (d0G b) := by
 unfold d0G
 split
 ·exact a2S (.agg _ fun c hc => by
   simp only [List.mem_cons, List.not_mem_nil, or_false] at hc
   rcases hc with rfl | rfl
   ·exact a0g _
   ·exact a2g _) (.bool _)
 ·exact a2S b0E (.bool _)
theorem e1D (b : List (List ZI)) (e : Nat) (hm : Mok e b) (he : GB e + GB e + 8 < 17592186044000) (hr : Rect b) (h0 : 0 < b.length) (h64 : b.length ≤ 64) : a0d Pr b5E [matV b] (d0G b) := by
 refine a0d.intro d5k d5i (Nat.le_of_ble_eq_true rfl) (e4A b) fun H hH => ?_
 refine Safe.rg rfl ?_
 simp only [c3m, E3, Nat.reduceLeDiff, Nat.reduceSub, Nat.reduceAdd, Nat.reduceEqDiff, reduceCtorEq, ↓reduceIte]
 refine Safe.rg rfl ?_
 simp only [c3l, E3, Nat.reduceLeDiff, Nat.reduceSub, Nat.reduceAdd, Nat.reduceEqDiff, reduceCtorEq, ↓reduceIte]
 first | refine (b2A 1 (by decide) (by decide)).acall ?_ | refine (b2A 1 (by decide) (by decide)).dcall ?_ | refine (b2A 1 (by decide) (by decide)).dgcall ?_
 try simp only [E3, Nat.reduceLeDiff, Nat.reduceSub, Nat.reduceAdd, Nat.reduceEqDiff, reduceCtorEq, ↓reduceIte]
 try simp only [E3, Nat.reduceLeDiff, Nat.reduceSub, Nat.reduceAdd, Nat.reduceEqDiff, reduceCtorEq, ↓reduceIte]
 refine Safe.rg rfl ?_
 simp only [c3k, E3, Nat.reduceLeDiff, Nat.reduceSub, Nat.reduceAdd, Nat.reduceEqDiff, reduceCtorEq, ↓reduceIte]
 refine Safe.lp rfl ?_
 refine Safe.keep [0, 2, 4, 16, 17] ?_
 simp only [E3, Nat.reduceLeDiff, Nat.reduceSub, Nat.reduceAdd, Nat.reduceEqDiff, reduceCtorEq, ↓reduceIte]
 refine Safe.loopW (fun i : Nat => b.length - i) (fun i => [(0, matV b), (2, .loc (lid H 0) 0 0), (4, .loc (lid H 2) 0 0), (16, .int .i64 b.length), (17, .int .i64 i)]) (fun i => gh H b i)
  (fun i => i ≤ b.length ∧ gd (Gr b) i = i) 0 rfl rfl ⟨Nat.zero_le _, rfl⟩ ?_
 rintro i ⟨hi, hg⟩ ih
 refine Safe.inLoop ?_
 by_cases hlt' : i < b.length
 ·have hlt : ((i : Int) < (b.length : Int)) = True := eq_true (by omega)
  have hiw : IntKind.wrap .i64 ((i : Int) + 1) = ((i + 1 : Nat) : Int) := by rw [a0c] <;> omega
  obtain ⟨dr, lr, dd, ll, hd⟩ := f2q (H := H) b i
  have hGr := e9w hH (b := b) (i := i)
  obtain ⟨hl1, hlH, hl0⟩ := f1C (H := H) (b := b) (i := i)
  rw [← a1T (gh H b i)]
  have hmk := fun env => b7I (H := gh H b i) env [] 2 32 (.agg [.bool false, .nil]) .i64 .i64 (i + 1) (by decide) (by omega) (by omega)
  simp only [List.nil_append, List.length_nil] at hmk
  refine Safe.rg rfl ?_
  simp only [b1V, hlt, E3, Nat.reduceLeDiff, Nat.reduceSub, Nat.reduceAdd, Nat.reduceEqDiff, reduceCtorEq, ↓reduceIte]
  refine Safe.cd rfl ?_
  simp only [E3, Nat.reduceLeDiff, Nat.reduceSub, Nat.reduceAdd, Nat.reduceEqDiff, reduceCtorEq, ↓reduceIte]
  refine Safe.rg rfl ?_
  simp only [c3j, E3, Nat.reduceLeDiff, Nat.reduceSub, Nat.reduceAdd, Nat.reduceEqDiff, reduceCtorEq, ↓reduceIte]
  refine Safe.rg rfl ?_
  simp only [c3i, hiw, hmk, E3, Nat.reduceLeDiff, Nat.reduceSub, Nat.reduceAdd, Nat.reduceEqDiff, reduceCtorEq, ↓reduceIte]
  refine Safe.rg rfl ?_
  simp only [c3h, E3, Nat.reduceLeDiff, Nat.reduceSub, Nat.reduceAdd, Nat.reduceEqDiff, reduceCtorEq, ↓reduceIte]
  refine Safe.lp rfl ?_
  refine Safe.keep [0, 2, 4, 5, 6, 7, 16, 17] ?_
  simp only [E3, Nat.reduceLeDiff, Nat.reduceSub, Nat.reduceAdd, Nat.reduceEqDiff, reduceCtorEq, ↓reduceIte]
  refine f0n hm he hlt' h64 hg hd hlH hGr hr (by unfold lid at *; omega) (by unfold lid at *; omega) ?_
  have hli : idxV (hap (gh H b i) [some ⟨2, (vec (i + 1) fun t => uI b t i t).map ZI.av⟩]) 2 (.mu (lid (gh H b i) 0) 0 (i + 1) (some (i + 1))) (.int .i64 (i : Nat)) = some (.loc (lid (gh H b i) 0) i 0) := d8W (by omega)
  have hla : atV (hap (gh H b i) [some ⟨2, (vec (i + 1) fun t => uI b t i t).map ZI.av⟩]) (.loc (lid (gh H b i) 0) i 0) = some (Z (uI b i i i)).cells := f0t (f := fun t => uI b t i t) (by omega)
  have p0 := (a2Q hg i (Nat.le_refl _)).1
  have huz := e8y (b := b) p0
  have hub := (c7U hm p0 (by omega) (i := i) i (Nat.le_refl _)).2
  have hsg := a3h (canZ (uI b i i i)) (c3H hub (by omega))
  rw [a0x] at hsg
  refine Safe.rg rfl ?_
  simp only [b7Z, hli, hla, E3, Nat.reduceLeDiff, Nat.reduceSub, Nat.reduceAdd, Nat.reduceEqDiff, reduceCtorEq, ↓reduceIte]
  first | refine (hsg).acall ?_ | refine (hsg).dcall ?_ | refine (hsg).dgcall ?_
  try simp only [E3, Nat.reduceLeDiff, Nat.reduceSub, Nat.reduceAdd, Nat.reduceEqDiff, reduceCtorEq, ↓reduceIte]
  have hgs := e9x hm (show i < 64 by omega) hg
  by_cases hpos : 0 < dI b (i + 1)
  ·have hng : ((uI b i i i).sign ≤ 0) = False := eq_false (by rw [huz]; have := Int.sign_eq_one_of_pos hpos; omega)
   simp only [hng, E3, Nat.reduceLeDiff, Nat.reduceSub, Nat.reduceAdd, Nat.reduceEqDiff, reduceCtorEq, ↓reduceIte]
   refine Safe.cd rfl ?_
   simp only [E3, Nat.reduceLeDiff, Nat.reduceSub, Nat.reduceAdd, Nat.reduceEqDiff, reduceCtorEq, ↓reduceIte]
   have hg1 := hgs.2 hpos
   refine Safe.freezeB 0 hGr hlH rfl (a1t 2 ZI.av _ ZI.cl) ?_
   have hf0 : ∀ bl, frz (lid (gh H b i) 0) bl (.loc (lid H 0) 0 0) = .loc (lid H 0) 0 0 := fun bl => a2o (.loc _ _ _ (by unfold lid at *; omega))
   have hf2 : ∀ bl, frz (lid (gh H b i) 0) bl (.loc (lid H 2) 0 0) = .loc (lid H 2) 0 0 := fun bl => a2o (.loc _ _ _ (by unfold lid at *; omega))
   refine Safe.keep [0, 2, 4, 5, 6, 16, 17] ?_
   simp only [a9z 0 2 ZI.av (vec (i + 1) fun t => uI b t i t) (i + 1) (some (i + 1)) (a0e _ _).symm, hf0, hf2, E3, Nat.reduceLeDiff, Nat.reduceSub, Nat.reduceAdd, Nat.reduceEqDiff, reduceCtorEq, ↓reduceIte]
   refine Safe.dropG (L := []) hGr hlH ?_ (fun c hc => by cases hc) ?_
   ·simp only [List.length_nil, List.all_cons, List.all_nil, a7W, a2T (id := lid (gh H b i) 0) (b := lid H 0) _ _ (by unfold lid at *; omega), a2T (id := lid (gh H b i) 0) (b := lid H 2) _ _ (by unfold lid at *; omega), c5f, a3M, Bool.and_true, Bool.true_and]
   rw [a1T]
   have hlv : ∀ L, idxV L 2 (.sl 2 ((vec (i + 1) fun t => uI b t i t).map ZI.av)) (.int .i64 (i : Nat)) = some (.ro (Z (uI b i i i)) 0) := fun L => d0T L (f := fun t => uI b t i t) (by omega)
   unfold gh
   by_cases hi0 : i = 0
   ·subst hi0
    rw [if_pos rfl]
    have happ := fun env => e7t (env := env) (n0 := H.length) (wd := 2) (bytes := 32) (id := lid H 1) (off := 0) (len := 1) (d := 1) (y := .sl 2 [.agg [.bool (decide (uI b 0 0 0 < 0)), natV (limbs (uI b 0 0 0).natAbs)]]) (ys := [Z (uI b 0 0 0)]) (G := hap H [some ⟨2, [zz]⟩, some ⟨2, [Z 1]⟩, some ⟨2, [.agg [.mu (lid H 1) 0 1 (some 1), .nil]]⟩]) (r := ⟨2, [Z 1]⟩) (by rw [a0I]; rfl) rfl (by simp)
     (fun h => absurd h.2 (e5R (j := lid H 2) (r := ⟨2, [.agg [.mu (lid H 1) 0 1 (some 1), .nil]]⟩) (off := 0) (len := 1) (oc := some 1) (by simp [lid]) (by unfold hap lid; rw [List.getElem?_append_right (by omega), Nat.add_sub_cancel_left]; rfl) (by simp [Blk.flat, AV.cells])))
     (a1f _ 2 _) (by simp) (by simp) (by simp) (by simp)
    simp only [b9N, c0g, List.cons_append, List.nil_append, List.length_cons, List.length_nil, Nat.reduceAdd, List.drop_zero, List.take_succ_cons, List.take_zero, List.take_nil] at happ
    refine Safe.rg rfl ?_
    simp only [a9s, hlv, happ, d0W, E3, Nat.reduceLeDiff, Nat.reduceSub, Nat.reduceAdd, Nat.reduceEqDiff, reduceCtorEq, ↓reduceIte]
    have hsl := fun L => e2h L (n := 0 + 1) (i := 0) (f := fun t => uI b t 0 t) (by omega)
    have hcb : clb (vecV (vec 0 fun t => uI b t 0 t)) = true := c7G.2 (a0g _)
    have happ2 := fun env L => a9I (H := H) (L := L) H.length env 1 24 false (.sl 1 [vecV (vec 0 fun t => uI b t 0 t)]) [vecV (vec 0 fun t => uI b t 0 t)] (a1f _ 1 _) (by decide) (by simp) (by simp)
    refine Safe.rg rfl ?_
    simp only [a9r, hsl, hcb, happ2, d0V, E3, Nat.reduceLeDiff, Nat.reduceSub, Nat.reduceAdd, Nat.reduceEqDiff, reduceCtorEq, ↓reduceIte]
    refine Safe.rg rfl ?_
    simp only [a9q, hiw, E3, Nat.reduceLeDiff, Nat.reduceSub, Nat.reduceAdd, Nat.reduceEqDiff, reduceCtorEq, ↓reduceIte]
    refine Safe.keep [0, 2, 4, 16, 17] ?_
    simp only [E3, Nat.reduceLeDiff, Nat.reduceSub, Nat.reduceAdd, Nat.reduceEqDiff, reduceCtorEq, ↓reduceIte]
    have := ih 1 ⟨hlt', hg1⟩ (by omega)
    unfold gh at this
    rw [if_neg (by decide)] at this
    have eD : (gsoD b 1).map ZI.av = [Z 1, Z (uI b 0 0 0)] := by
     unfold gsoD
     simp only [vec, List.range_succ, List.range_zero, List.nil_append, List.map_cons, List.map_nil, List.cons_append, e4j]
     rw [huz]; rfl
    have eL : (gsoL b 1).map vecV = [vecV (vec 0 fun t => uI b t 0 t)] := rfl
    rw [eD, eL] at this
    exact this
   ·rw [if_neg hi0]
    have happ := fun env => c7J (L := [some ⟨2, [zz]⟩, some ⟨2, [Z 1]⟩, some ⟨2, [.agg [.mu (lid H 3) 0 (i + 1) none, .mu (lid H 4) 0 i none]]⟩, some ⟨2, (gsoD b i).map ZI.av⟩, some ⟨1, (gsoL b i).map vecV⟩]) hH (i := 3) (n0 := H.length) (wd := 2) (bytes := 32) (len := i + 1) (env := env)
     (y := .sl 2 [.agg [.bool (decide (uI b i i i < 0)), natV (limbs (uI b i i i).natAbs)]]) (xs := (gsoD b i).map ZI.av) (ys := [Z (uI b i i i)]) rfl (by simp [gsoD, a0e]) (a1M H 3) (a1f _ 2 _)
     (fun a ha => by
      simp only [List.flatMap_cons, List.flatMap_nil, List.append_nil] at ha
      exact a0y (a3f (Z_cl _) a ha)) (fun a ha => by obtain ⟨y, _, rfl⟩ := List.mem_map.1 ha; exact a0y (ZI.cl y)) (by simp; omega) (by simp; omega)
    simp only [a5E, a7P, b0K, List.map_cons, List.map_nil, b0L _ ZI.cl, b0L _ a0g, a2K (a0y b0E), a2K (a0y (Z_cl _)), d8G H 3 4 _ _ _ _ _ _ (by decide), List.length_cons, List.length_nil, Nat.zero_add, List.set_cons_succ, List.set_cons_zero] at happ
    refine Safe.rg rfl ?_
    simp only [a9s, hlv, happ, d0W, E3, Nat.reduceLeDiff, Nat.reduceSub, Nat.reduceAdd, Nat.reduceEqDiff, reduceCtorEq, ↓reduceIte]
    have hsl := fun L => e2h L (n := i + 1) (i := i) (f := fun t => uI b t i t) (by omega)
    have hcb : clb (vecV (vec i fun t => uI b t i t)) = true := c7G.2 (a0g _)
    have happ2 := fun env => c7J (L := [some ⟨2, [zz]⟩, some ⟨2, [Z 1]⟩, some ⟨2, [.agg [.mu (lid H 3) 0 (i + 1 + 1) none, .mu (lid H 4) 0 i none]]⟩, some ⟨2, (gsoD b i).map ZI.av ++ [Z (uI b i i i)]⟩, some ⟨1, (gsoL b i).map vecV⟩]) hH (i := 4) (n0 := H.length) (wd := 1) (bytes := 24) (len := i) (env := env)
     (y := .sl 1 [vecV (vec i fun t => uI b t i t)]) (xs := (gsoL b i).map vecV) (ys := [vecV (vec i fun t => uI b t i t)]) rfl (by simp [gsoL, a0f]) (a1M H 4) (a1f _ 1 _)
     (fun a ha => by
      simp only [List.flatMap_cons, List.flatMap_nil, List.append_nil] at ha
      exact a0y (a3f (a0g _) a ha)) (fun a ha => by obtain ⟨y, _, rfl⟩ := List.mem_map.1 ha; exact a0y (a0g y)) (by simp; omega) (by simp; omega)
    simp only [a5E, a7P, b0K, List.map_append, List.map_cons, List.map_nil, b0L _ ZI.cl, b0L _ a0g, a2K (a0y b0E), a2K (a0y (Z_cl _)), d8F H 4 3 _ _ _ _ _ _ (by decide), List.length_cons, List.length_nil, Nat.zero_add, List.set_cons_succ, List.set_cons_zero] at happ2
    refine Safe.rg rfl ?_
    simp only [a9r, hsl, hcb, happ2, d0V, E3, Nat.reduceLeDiff, Nat.reduceSub, Nat.reduceAdd, Nat.reduceEqDiff, reduceCtorEq, ↓reduceIte]
    refine Safe.rg rfl ?_
    simp only [a9q, hiw, E3, Nat.reduceLeDiff, Nat.reduceSub, Nat.reduceAdd, Nat.reduceEqDiff, reduceCtorEq, ↓reduceIte]
    refine Safe.keep [0, 2, 4, 16, 17] ?_
    simp only [E3, Nat.reduceLeDiff, Nat.reduceSub, Nat.reduceAdd, Nat.reduceEqDiff, reduceCtorEq, ↓reduceIte]
    have := ih (i + 1) ⟨hlt', hg1⟩ (by omega)
    unfold gh at this
    rw [if_neg (by omega)] at this
    have eD : (gsoD b (i + 1)).map ZI.av = (gsoD b i).map ZI.av ++ [Z (uI b i i i)] := by
     unfold gsoD
     rw [a4n, List.map_append, huz]; rfl
    have eL : (gsoL b (i + 1)).map vecV = (gsoL b i).map vecV ++ [vecV (vec i fun t => uI b t i t)] := by
     unfold gsoL
     rw [a4q, List.map_append]; rfl
    rw [eD, eL] at this
    exact this
  ·have hng : ((uI b i i i).sign ≤ 0) = True := eq_true (by rw [huz]; have := Int.sign_nonpos_iff (x := dI b (i + 1)); omega)
   simp only [hng, E3, Nat.reduceLeDiff, Nat.reduceSub, Nat.reduceAdd, Nat.reduceEqDiff, reduceCtorEq, ↓reduceIte]
   refine Safe.cd rfl ?_
   simp only [E3, Nat.reduceLeDiff, Nat.reduceSub, Nat.reduceAdd, Nat.reduceEqDiff, reduceCtorEq, ↓reduceIte]
   obtain ⟨X, hX⟩ : ∃ X, gh H b i = hap H (some ⟨2, [zz]⟩ :: X) := by
    unfold gh
    split <;> exact ⟨_, rfl⟩
   rw [hX, a0v]
   simp only [List.cons_append]
   refine Safe.rg rfl ?_
   simp only [b7Y, E3, Nat.reduceLeDiff, Nat.reduceSub, Nat.reduceAdd, Nat.reduceEqDiff, reduceCtorEq, ↓reduceIte]
   refine Safe.rt rfl ?_
   simp only [E3, Nat.reduceLeDiff, Nat.reduceSub, Nat.reduceAdd, Nat.reduceEqDiff, reduceCtorEq, ↓reduceIte]
   unfold d0G
   have hng1 : gd (Gr b) (i + 1) ≠ i + 1 := fun h => hpos (hgs.1 h)
   have := e3M hng1 (b.length - (i + 1))
   rw [show i + 1 + (b.length - (i + 1)) = b.length by omega] at this
   rw [if_neg (by omega)]
   exact ⟨rfl, _, rfl⟩
 ·have hin : i = b.length := by omega
  subst hin
  unfold gh
  rw [if_neg (by omega)]
  refine Safe.rg rfl ?_
  simp only [b1V, Int.lt_irrefl, E3, Nat.reduceLeDiff, Nat.reduceSub, Nat.reduceAdd, Nat.reduceEqDiff, reduceCtorEq, ↓reduceIte]
  refine Safe.cd rfl ?_
  simp only [E3, Nat.reduceLeDiff, Nat.reduceSub, Nat.reduceAdd, Nat.reduceEqDiff, reduceCtorEq, ↓reduceIte]
  refine Safe.freeze 3 hH rfl rfl (a1t 2 ZI.av _ ZI.cl) ?_
  simp only [a3v b0E, a4u H _ 0 0 (show 0 ≠ 3 by decide), a4u H _ 0 0 (show 2 ≠ 3 by decide), c3U, d2h H _ _ _ _ (show 4 ≠ 3 by decide), c3T H 3 2 ZI.av (gsoD b b.length) (b.length + 1) none (by simp [gsoD, a0e]), c6R _ _ vecV _ a0g, E3, Nat.reduceLeDiff, Nat.reduceSub, Nat.reduceAdd, Nat.reduceEqDiff, reduceCtorEq, ↓reduceIte]
  refine Safe.freeze 4 hH rfl rfl (a1t 1 vecV _ a0g) ?_
  simp only [a3v b0E, a4u H _ 0 0 (show 0 ≠ 4 by decide), a4u H _ 0 0 (show 2 ≠ 4 by decide), c3U, c3T H 4 1 vecV (gsoL b b.length) b.length none (by simp [gsoL, a0f]), E3, Nat.reduceLeDiff, Nat.reduceSub, Nat.reduceAdd, Nat.reduceEqDiff, reduceCtorEq, ↓reduceIte]
  refine Safe.rg rfl ?_
  simp only [b7X, E3, Nat.reduceLeDiff, Nat.reduceSub, Nat.reduceAdd, Nat.reduceEqDiff, reduceCtorEq, ↓reduceIte]
  refine Safe.rt rfl ?_
  simp only [E3, Nat.reduceLeDiff, Nat.reduceSub, Nat.reduceAdd, Nat.reduceEqDiff, reduceCtorEq, ↓reduceIte]
  unfold d0G
  rw [if_pos hg]
  exact ⟨rfl, _, rfl⟩
end Go.Abs
namespace Go.Abs
def bigB (bits : Bool) (b : List (List ZI)) (i : Nat) : Bool := (decide (12 < b.length) || (bits && decide (256 < c3F b b.length))) || (b.take i).any fun r => decide (12 < r.length)
theorem e4G (bits : Bool) (b : List (List ZI)) {i : Nat} (h : i < b.length) : bigB bits b (i + 1) = (bigB bits b i || decide (12 < b[i].length)) := by
 unfold bigB
 rw [List.take_succ_eq_append_getElem h, List.any_append]
 simp [Bool.or_assoc]
open Classical in
noncomputable def shE (bits : Bool) (b : List (List ZI)) : Int := if bigB bits b b.length = true then 40 else if b.length = 0 then 41 else if Rect b then 0 else 8
open Classical in
noncomputable def valE (bits : Bool) (b : List (List ZI)) : Int := if shE bits b ≠ 0 then shE bits b else if gd (Gr b) b.length = b.length then 0 else 50
theorem d6A (bits : Bool) (b : List (List ZI)) (e : Nat) (hm : Mok e b) (he : e ≤ 17592186044416) : a0d Pr a6Q [matV b, .bool bits] (.int .i64 (shE bits b)) := by
 have hbl := hm.len
 have hbits := e0W b (hm.mono he)
 have hb0 : bigB bits b 0 = (decide (12 < b.length) || (bits && decide (256 < c3F b b.length))) := by unfold bigB; simp
 refine a0d.intro d2f d2e (Nat.le_of_ble_eq_true rfl) (.int _ _) fun H hH => ?_
 refine Safe.rg rfl ?_
 simp only [b7V, E3, seval]
 have start : Safe ⟨Pr, fun _ _ => false, a6Q, 46, [.tmp 4], H.length⟩ [.code (.seq (.seq (.region a9p false) (.block 0 (.loop b7W))) (.seq (.seq (.region a5l false) (.cond (.t 35) (.seq (.region a9n false) (.ret)) (.skip))) (.seq (.seq (.region a5k false) (.cond (.t 38) (.seq (.region a7r false) (.ret)) (.skip))) (.seq (.region a4t false) (.seq (.region a4s false) (.ret))))))] [(0, matV b), (5, .bool (bigB bits b 0))] (hap H []) fun r' H' => r' = .int .i64 (shE bits b) ∧ ∃ L, H' = hap H L := by
  refine Safe.rg rfl ?_
  simp only [a9p, E3, seval]
  refine Safe.lp rfl ?_
  refine Safe.keep [0, 5, 22, 23, 24] ?_
  try simp only [E3, seval]
  refine Safe.loopN (b.length) (fun i => [(0, matV b), (5, .bool (bigB bits b i)), (22, matV b), (23, .int .i64 b.length), (24, .int .i64 i)]) (fun i => hap H []) rfl rfl (fun i hi ih => ?_) ?_
  ·have hlt : ((i : Int) < (b.length : Int)) = True := eq_true (by omega)
   have hiw : IntKind.wrap .i64 ((i : Int) + 1) = ((i + 1 : Nat) : Int) := by rw [a0c] <;> omega
   have hix : ∀ L, idxV L 1 (matV b) (.int .i64 (i : Nat)) = some (.ro (vecV b[i]) 0) := fun L => a1r L b .i64 i hi
   rw [e4G bits b hi] at ih
   refine Safe.inLoop ?_
   refine Safe.rg rfl ?_
   simp only [a9o, hlt, E3, seval]
   refine Safe.cd rfl ?_
   simp only [E3, seval]
   refine Safe.rg rfl ?_
   simp only [b7U, hix, E3, seval]
   cases hbb : bigB bits b i with
   | true =>
    rw [hbb] at ih
    simp only [Bool.true_or] at ih
    refine Safe.rg rfl ?_
    simp only [a5n, E3, seval]
    refine Safe.rg rfl ?_
    simp only [a5m, hiw, E3, seval]
    refine Safe.keep [0, 5, 22, 23, 24] ?_
    simp only [E3, seval]
    exact ih
   | false =>
    rw [hbb] at ih
    simp only [Bool.false_or] at ih
    by_cases hrl : 12 < b[i].length
    ·have hrl2 : ((b[i].length : Int) > 12) = True := eq_true (by omega)
     simp only [hrl, decide_true] at ih
     refine Safe.rg rfl ?_
     simp only [a5n, hrl2, E3, seval]
     refine Safe.rg rfl ?_
     simp only [a5m, hiw, E3, seval]
     refine Safe.keep [0, 5, 22, 23, 24] ?_
     simp only [E3, seval]
     exact ih
    ·have hrl2 : ((b[i].length : Int) > 12) = False := eq_false (by omega)
     simp only [hrl, decide_false] at ih
     refine Safe.rg rfl ?_
     simp only [a5n, hrl2, E3, seval]
     refine Safe.rg rfl ?_
     simp only [a5m, hiw, E3, seval]
     refine Safe.keep [0, 5, 22, 23, 24] ?_
     simp only [E3, seval]
     exact ih
  ·refine Safe.inLoop ?_
   refine Safe.rg rfl ?_
   simp only [a9o, Int.lt_irrefl, E3, seval]
   refine Safe.cd rfl ?_
   simp only [E3, seval]
   unfold shE
   cases hbb : bigB bits b b.length with
   | true =>
    refine Safe.rg rfl ?_
    simp only [a5l, E3, seval]
    refine Safe.cd rfl ?_
    simp only [E3, seval]
    refine Safe.rg rfl ?_
    simp only [a9n, E3, seval]
    refine Safe.rt rfl ?_
    simp only [E3, seval]
    first | exact ⟨rfl, _, rfl⟩ | exact ⟨_, rfl⟩ | exact ⟨trivial, _, rfl⟩
   | false =>
    refine Safe.rg rfl ?_
    simp only [a5l, E3, seval]
    refine Safe.cd rfl ?_
    simp only [E3, seval]
    by_cases h0 : b.length = 0
    ·have h0' : ((b.length : Int) = 0) = True := eq_true (by omega)
     refine Safe.rg rfl ?_
     simp only [a5k, h0', E3, seval]
     refine Safe.cd rfl ?_
     simp only [E3, seval]
     refine Safe.rg rfl ?_
     simp only [a7r, E3, seval]
     rw [if_pos h0]
     refine Safe.rt rfl ?_
     simp only [E3, seval]
     first | exact ⟨rfl, _, rfl⟩ | exact ⟨_, rfl⟩ | exact ⟨trivial, _, rfl⟩
    ·have h0' : ((b.length : Int) = 0) = False := eq_false (by omega)
     refine Safe.rg rfl ?_
     simp only [a5k, h0', E3, seval]
     refine Safe.cd rfl ?_
     simp only [E3, seval]
     rw [if_neg h0]
     by_cases hr : Rect b
     ·rw [if_pos hr]
      refine Safe.rg rfl ?_
      simp only [a4t, E3, seval]
      first | refine (a1g b e hm hr).acall ?_ | refine (a1g b e hm hr).dcall ?_ | refine (a1g b e hm hr).dgcall ?_
      try simp only [E3, seval]
      refine Safe.rg rfl ?_
      simp only [a4s, E3, seval]
      refine Safe.rt rfl ?_
      simp only [E3, seval]
      first | exact ⟨rfl, _, rfl⟩ | exact ⟨_, rfl⟩ | exact ⟨trivial, _, rfl⟩
     ·rw [if_neg hr]
      refine Safe.rg rfl ?_
      simp only [a4t, E3, seval]
      first | refine (a5y b e hm hr).acall ?_ | refine (a5y b e hm hr).dcall ?_ | refine (a5y b e hm hr).dgcall ?_
      try simp only [E3, seval]
      refine Safe.rg rfl ?_
      simp only [a4s, E3, seval]
      refine Safe.rt rfl ?_
      simp only [E3, seval]
      first | exact ⟨rfl, _, rfl⟩ | exact ⟨_, rfl⟩ | exact ⟨trivial, _, rfl⟩
 by_cases h12 : 12 < b.length
 ·have hbig : ((b.length : Int) > 12) = True := eq_true (by omega)
  rw [hb0] at start
  simp only [h12, decide_true, Bool.true_or] at start
  refine Safe.rg rfl ?_
  simp only [a5o, hbig, E3, seval]
  refine Safe.keep [0, 5] ?_
  simp only [E3, seval]
  exact start
 ·have hbig : ((b.length : Int) > 12) = False := eq_false (by omega)
  rw [hb0] at start
  simp only [h12, decide_false, Bool.false_or] at start
  cases bits with
  | false =>
   simp only [Bool.false_and] at start
   refine Safe.rg rfl ?_
   simp only [a5o, hbig, E3, seval]
   refine Safe.keep [0, 5] ?_
   simp only [E3, seval]
   exact start
  | true =>
   refine Safe.rg rfl ?_
   simp only [a5o, hbig, E3, seval]
   first | refine (hbits).acall ?_ | refine (hbits).dcall ?_ | refine (hbits).dgcall ?_
   try simp only [E3, seval]
   try simp only [E3, seval]
   by_cases hbt : 256 < c3F b b.length
   ·have hb1 : ((c3F b b.length : Int) > 256) = True := eq_true (by omega)
    simp only [hbt, decide_true, Bool.true_and] at start
    simp only [hb1, E3, seval]
    refine Safe.keep [0, 5] ?_
    simp only [E3, seval]
    exact start
   ·have hb1 : ((c3F b b.length : Int) > 256) = False := eq_false (by omega)
    simp only [hbt, decide_false, Bool.true_and] at start
    simp only [hb1, E3, seval]
    refine Safe.keep [0, 5] ?_
    simp only [E3, seval]
    exact start
noncomputable def ofA (bits : Bool) (b : List (List ZI)) : AV := if valE bits b = 0 then .tup [.agg [vecV (gsoD b b.length), matV (gsoL b b.length)], .int .i64 0] else .tup [zz, .int .i64 (valE bits b)]
theorem f1q (bits : Bool) (b : List (List ZI)) : Cl (ofA bits b) := by
 unfold ofA
 split
 ·exact a2S (.agg _ fun c hc => by
   simp only [List.mem_cons, List.not_mem_nil, or_false] at hc
   rcases hc with rfl | rfl
   ·exact a0g _
   ·exact a2g _) (.int _ _)
 ·exact a2S b0E (.int _ _)
theorem d2E {bits : Bool} {b : List (List ZI)} (h : bigB bits b b.length = false) : b.length ≤ 12 ∧ ∀ v ∈ b, v.length ≤ 12 := by
 unfold bigB at h
 rw [List.take_length, Bool.or_eq_false_iff, Bool.or_eq_false_iff] at h
 obtain ⟨⟨h1, _⟩, h2⟩ := h
 refine ⟨by simpa using h1, fun v hv => ?_⟩
 rw [List.any_eq_false] at h2
 simpa using h2 v hv
theorem e2n {bits : Bool} {b : List (List ZI)} (h : shE bits b = 0) : bigB bits b b.length = false ∧ 0 < b.length ∧ Rect b := by
 unfold shE at h
 split at h
 ·exact absurd h (by decide)
 ·split at h
  ·exact absurd h (by decide)
  ·split at h
   ·rename_i h1 h2 h3
    exact ⟨by simpa using h1, by omega, h3⟩
   ·exact absurd h (by decide)
theorem e9f (bits : Bool) (b : List (List ZI)) (e : Nat) (hm : Mok e b) (he : GB e + GB e + 8 < 17592186044000) : a0d Pr d2L [matV b, .bool bits] (ofA bits b) := by
 have hsh := d6A bits b e hm (by unfold GB at he; omega)
 refine a0d.intro e3K e3J (Nat.le_of_ble_eq_true rfl) (f1q bits b) fun H hH => ?_
 refine Safe.rg rfl ?_
 simp only [d5h, E3, seval]
 refine Safe.rg rfl ?_
 simp only [d5g, E3, seval]
 first | refine (hsh).acall ?_ | refine (hsh).dcall ?_ | refine (hsh).dgcall ?_
 try simp only [E3, seval]
 by_cases h0 : shE bits b = 0
 ·obtain ⟨hb, hpos, hr⟩ := e2n h0
  have hbu := e1D b e hm he hr hpos (by have := (d2E hb).1; omega)
  have hv : valE bits b = if gd (Gr b) b.length = b.length then 0 else 50 := by unfold valE; rw [if_neg (fun h => h h0)]
  unfold d0G at hbu
  unfold ofA
  rw [hv]
  rw [h0]
  refine Safe.rg rfl ?_
  simp only [c6K, E3, seval]
  refine Safe.cd rfl ?_
  simp only [E3, seval]
  refine Safe.rg rfl ?_
  simp only [d5e, E3, seval]
  first | refine (hbu).acall ?_ | refine (hbu).dcall ?_ | refine (hbu).dgcall ?_
  try simp only [E3, seval]
  by_cases hg : gd (Gr b) b.length = b.length
  ·simp only [if_pos hg, if_true]
   simp only [E3, seval]
   refine Safe.rg rfl ?_
   simp only [c6J, E3, seval]
   refine Safe.cd rfl ?_
   simp only [E3, seval]
   refine Safe.rg rfl ?_
   simp only [d5c, E3, seval]
   refine Safe.rt rfl ?_
   simp only [E3, seval]
   exact ⟨_, rfl⟩
  ·simp only [if_neg hg]
   rw [if_neg (show ¬(50 : Int) = 0 by decide)]
   simp only [zz, E3, seval]
   refine Safe.rg rfl ?_
   simp only [c6J, E3, seval]
   refine Safe.cd rfl ?_
   simp only [E3, seval]
   refine Safe.rg rfl ?_
   simp only [d5d, E3, seval]
   refine Safe.rt rfl ?_
   simp only [E3, seval]
   exact ⟨_, rfl⟩
 ·have hv : valE bits b = shE bits b := by unfold valE; rw [if_pos h0]
  unfold ofA
  rw [hv, if_neg h0]
  have hne : (shE bits b = 0) = False := eq_false h0
  refine Safe.rg rfl ?_
  simp only [c6K, hne, E3, seval]
  refine Safe.cd rfl ?_
  simp only [E3, seval]
  refine Safe.rg rfl ?_
  simp only [d5f, E3, seval]
  refine Safe.rt rfl ?_
  simp only [E3, seval]
  exact ⟨rfl, _, rfl⟩
theorem c8O (b : List (List ZI)) (e : Nat) (hm : Mok e b) (he : GB e + GB e + 8 < 17592186044000) : a0d Pr a9T [matV b] (.int .i64 (valE true b)) := by
 have hof := e9f true b e hm he
 unfold ofA at hof
 refine a0d.intro d5m d5l (Nat.le_of_ble_eq_true rfl) (.int _ _) fun H hH => ?_
 refine Safe.rg rfl ?_
 simp only [c3q, E3, seval]
 refine Safe.rg rfl ?_
 simp only [c3p, E3, seval]
 first | refine (hof).acall ?_ | refine (hof).dcall ?_ | refine (hof).dgcall ?_
 try simp only [E3, seval]
 by_cases h0 : valE true b = 0
 ·simp only [if_pos h0]
  rw [h0]
  simp only [E3, seval]
  refine Safe.rg rfl ?_
  simp only [b1W, E3, seval]
  refine Safe.rt rfl ?_
  simp only [E3, seval]
  first | exact ⟨rfl, _, rfl⟩ | exact ⟨_, rfl⟩ | exact ⟨trivial, _, rfl⟩
 ·simp only [if_neg h0]
  simp only [zz, E3, seval]
  refine Safe.rg rfl ?_
  simp only [b1W, E3, seval]
  refine Safe.rt rfl ?_
  simp only [E3, seval]
  first | exact ⟨rfl, _, rfl⟩ | exact ⟨_, rfl⟩ | exact ⟨trivial, _, rfl⟩
end Go.Abs
namespace Go.Abs
theorem d5D (u v : List ZI) (p : Nat) (hu : Vok p u) (hv : Vok p v) (hp : p + p + 2 < 17592186044416) (hl : u.length = v.length) : a0d Pr a9L [vecV u, vecV v] (Z (dotZ u v)) := by
 have hul := hu.len
 refine a0d.intro d3x d3v (Nat.le_of_ble_eq_true rfl) (Z_cl _) fun H hH => ?_
 refine Safe.rg rfl ?_
 simp only [c0K, E3, seval]
 refine Safe.rg rfl ?_
 simp only [c0J, E3, seval]
 refine Safe.told0 1 rfl ?_
 refine Safe.rg rfl ?_
 simp only [c0I, E3, seval]
 refine Safe.lp rfl ?_
 refine Safe.keep [0, 1, 4, 5, 6] ?_
 try simp only [E3, seval]
 refine Safe.loopN (u.length) (fun i => [(0, vecV u), (1, vecV v), (4, .loc (lid H 0) 0 0), (5, .loc (lid H 1) 0 0), (6, .int .i64 i)]) (fun i => hap H [some ⟨2, [.agg [.bool false, .nil]]⟩, some ⟨2, [Z (a0T (fun i => zg u i * zg v i) i)]⟩]) rfl rfl (fun i hi ih => ?_) ?_
 ·have hlt : ((i : Int) < (u.length : Int)) = True := eq_true (by omega)
  have hlt2 : ((i : Int) < (v.length : Int)) = True := eq_true (by omega)
  have hiw : IntKind.wrap .i64 ((i : Int) + 1) = ((i + 1 : Nat) : Int) := by rw [a0c] <;> omega
  refine Safe.inLoop ?_
  refine Safe.rg rfl ?_
  simp only [b0Y, hlt, hlt2, E3, seval]
  refine Safe.cd rfl ?_
  simp only [E3, seval]
  refine Safe.rg rfl ?_
  simp only [c0H, a4a _ u _ i (by omega), a4a _ v _ i (by omega), E3, seval]
  first | refine (d1H u v hu hv (by omega) hi (by omega)).acall ?_ | refine (d1H u v hu hv (by omega) hi (by omega)).dcall ?_ | refine (d1H u v hu hv (by omega) hi (by omega)).dgcall ?_
  try simp only [E3, seval]
  first | refine (b7w (a7E hu hv (Nat.le_of_lt hi)) (Nat.lt_of_lt_of_le (a4g hu hv i) (a4H (by omega))) hp).acall ?_ | refine (b7w (a7E hu hv (Nat.le_of_lt hi)) (Nat.lt_of_lt_of_le (a4g hu hv i) (a4H (by omega))) hp).dcall ?_ | refine (b7w (a7E hu hv (Nat.le_of_lt hi)) (Nat.lt_of_lt_of_le (a4g hu hv i) (a4H (by omega))) hp).dgcall ?_
  try simp only [E3, seval]
  refine Safe.rg rfl ?_
  simp only [c0G, hiw, E3, seval]
  refine Safe.keep [0, 1, 4, 5, 6] ?_
  simp only [E3, seval]
  exact ih
 ·refine Safe.inLoop ?_
  refine Safe.rg rfl ?_
  simp only [b0Y, Int.lt_irrefl, E3, seval]
  refine Safe.cd rfl ?_
  simp only [E3, seval]
  refine Safe.rg rfl ?_
  simp only [c0F, E3, seval]
  refine Safe.rt rfl ?_
  simp only [E3, seval]
  first | exact ⟨rfl, _, rfl⟩ | exact ⟨_, rfl⟩ | exact ⟨trivial, _, rfl⟩
def qv (n : Nat) (f : Nat → Rat) : List Rat := (List.range n).map f
def qV (l : List Rat) : AV := .sl 4 (l.map Rv)
theorem c2z (n : Nat) (f : Nat → Rat) : (qv n f).length = n := by simp [qv]
theorem e2E (n : Nat) (f : Nat → Rat) : qv (n + 1) f = qv n f ++ [f n] := by simp [qv, List.range_succ]
theorem f1c (l : List Rat) : Cl (qV l) := .sl _ _ fun c hc => by
 obtain ⟨x, hx, hc⟩ := List.mem_flatMap.1 hc
 obtain ⟨q, _, rfl⟩ := List.mem_map.1 hx
 exact a3f (a4G q) c hc
theorem e2F {n j : Nat} {f : Nat → Rat} (h : j < n) : ((qv n f).map Rv).getD j .top = Rv (f j) := by
 rw [List.getD_eq_getElem?_getD, List.getElem?_map, List.getElem?_eq_getElem (by rw [c2z]; exact h)]
 simp [qv]
theorem f1b (H : Heap) {n : Nat} {f : Nat → Rat} {k : Nat} (h : k < n) : idxV H 4 (qV (qv n f)) (.int .i64 (k : Nat)) = some (.ro (Rv (f k)) 0) := by
 unfold qV
 rw [e2j H 4 Rv (qv n f) .i64 k (by rw [c2z]; exact h)]
 simp [qv]
theorem d8J {l z : Int} {q : Rat} {k : Nat} (hl : l ≠ 0) (h : (l : Rat) * q = z) (hz : z.natAbs < LB ^ k) (hlb : l.natAbs < LB ^ k) : Rok k q := by
 obtain ⟨h1, h2⟩ := e2G (fun e => hl (Rat.intCast_inj.1 (by rw [e]; rfl))) h
 exact ⟨by omega, by omega⟩
section
variable {b : List (List ZI)} {e : Nat} (hm : Mok e b)
include hm
theorem c7P {n k i j : Nat} (hn : n ≤ 64) (hg : gd (Gr b) n = n) (hk : k ≤ n) (hk64 : k < 64) (hi : k ≤ i) : Rok (GB e) (Sg (Gr b) k i j) := by
 have p0 := (a2Q hg k hk).1
 obtain ⟨h1, h2⟩ := c7U hm p0 hk64 j hi
 obtain ⟨h3, h4⟩ := d2w hm (k := k) (by omega)
 refine d8J (l := dI b k) (z := uI b k i j) (by have := e6Q hm hn hg hk; omega) ?_ h2 h4
 rw [h3, h1]; rfl
theorem d7u {n i j : Nat} (hn : n < 64) (hg : gd (Gr b) n = n) (hj : j < n) (hi : j ≤ i) : Rok (GB e) (mug (Gr b) i j) := by
 have p0 := (a2Q hg j (by omega)).1
 obtain ⟨h1, h2⟩ := c7U hm p0 (by omega) j hi
 obtain ⟨h3, h4⟩ := d2w hm (k := j + 1) (by omega)
 have hd := (a2Q hg (j + 1) (by omega)).2
 have h0 := (a2Q hg j (by omega)).2
 refine d8J (l := dI b (j + 1)) (z := uI b j i j) (by have := e6Q hm (by omega) hg (k := j + 1) (by omega); omega) ?_ h2 h4
 rw [h3, h1]
 have hs : Sg (Gr b) j j j ≠ 0 := fun e0 => by
  rw [a9W p0, e0, Rat.mul_zero] at hd
  exact absurd hd (by decide)
 rw [a9W p0]
 unfold mug ug
 rw [Rat.div_def]
 have := Rat.mul_inv_cancel _ hs
 grind
omit hm in
theorem d8O {n k i j : Nat} (hg : gd (Gr b) n = n) (hk : k < n) (hi : k < i) (hj : k < j) : Sg (Gr b) k i j - mug (Gr b) j k * mug (Gr b) i k * Sg (Gr b) k k k = Sg (Gr b) (k + 1) i j := by
 have p0 := (a2Q hg k (by omega)).1
 have hd := (a2Q hg (k + 1) (by omega)).2
 have hs : Sg (Gr b) k k k ≠ 0 := fun e0 => by
  rw [a9W p0, e0, Rat.mul_zero] at hd
  exact absurd hd (by decide)
 exact (e5X (e8m b) hs hi hj).symm
end
theorem d5v (q : Rat) {k : Nat} (hq : Rok k q) (hk : k + k < 17592186043000) : a0d Pr a7F [Rv q] (Rv (q * q)) := by
 have c1 := b2E q q hq hq hk
 refine a0d.intro c4U c4T (Nat.le_of_ble_eq_true rfl) (a4G _) fun H hH => ?_
 simp only [Rv] at c1 ⊢
 refine Safe.rg rfl ?_
 simp only [b0Q, a0i, E3, seval]
 refine Safe.rg rfl ?_
 simp only [b0P, E3, seval]
 first | refine (c1).acall ?_ | refine (c1).dcall ?_ | refine (c1).dgcall ?_
 try simp only [E3, seval]
 refine Safe.rt rfl ?_
 simp only [E3, seval]
 first | exact ⟨rfl, _, rfl⟩ | exact ⟨_, rfl⟩ | exact ⟨trivial, _, rfl⟩
section
variable {b : List (List ZI)} {e i : Nat} {G : Heap} {n0 : Nat} {mu : Nat → Nat → Bool} {f : FuncId} {rs : List ResV} {mr sr mv : AV} {b0 b1 mm ss mq : Nat} {R : AV → Heap → Prop} {rest : List AItem}
noncomputable def muA (b : List (List ZI)) (i : Nat) : AV := if i = 0 then .nil else qV (qv i fun t => mug (Gr b) i t)
theorem b3I (b : List (List ZI)) (i : Nat) : Cl (muA b i) := by
 unfold muA
 split
 ·exact .nil
 ·exact f1c _
theorem c5Y (b : List (List ZI)) (i : Nat) : (muA b i).cells = [muA b i] := by
 unfold muA
 split <;> rfl
theorem e2Z (b : List (List ZI)) {i : Nat} (h : 0 < i) : muA b i = qV (qv i fun t => mug (Gr b) i t) := by
 unfold muA; rw [if_neg (by omega)]
structure FrAt (b : List (List ZI)) (i : Nat) (G : Heap) (mr sr : AV) (b1 mm ss : Nat) : Prop where
 bs : ∀ L, (hrow (hap G L) b1).isSome = true
 bx : ∀ L off, atV (hap G L) (.loc b1 0 off) = some (List.drop off [mr, sr])
 mi : ∀ L j, j < i → idxV (hap G L) 1 mr (.int .i64 (j : Nat)) = some (.loc mm j 0)
 ma : ∀ L j, j < i → atV (hap G L) (.loc mm j 0) = some [muA b j]
 si : ∀ L k, k < i → idxV (hap G L) 4 sr (.int .i64 (k : Nat)) = some (.loc ss k 0)
 sa : ∀ L k, k < i → atV (hap G L) (.loc ss k 0) = some (Rv (Sg (Gr b) k k k)).cells
structure RowAt (b : List (List ZI)) (i j : Nat) (G : Heap) (mv : AV) (mq : Nat) : Prop where
 ri : ∀ L k, k < j → idxV (hap G L) 4 mv (.int .i64 (k : Nat)) = some (.loc mq k 0)
 ra : ∀ L k, k < j → atV (hap G L) (.loc mq k 0) = some (Rv (mug (Gr b) i k)).cells
variable (hm : Mok e b) (he : 4 * GB e + 8 < 17592186043000) (hn : i < b.length) (h64 : b.length ≤ 64) (hg : gd (Gr b) i = i) (hd : FrAt b i G mr sr b1 mm ss)
include hm he hn h64 hg hd
theorem e7P {j : Nat} (hj : j < i) (hr : RowAt b i j G mv mq) (k : Safe ⟨Pr, mu, f, 115, rs, n0⟩ rest [(0, matV b), (2, .loc b0 0 0), (4, .loc b1 0 0), (5, .int .i64 i), (6, mv), (7, .int .i64 j), (8, .loc (lid G 0) 0 0), (9, .int .i64 j)]
   (hap G [some ⟨4, [Rv (Sg (Gr b) j i j)]⟩]) R) :
  Safe ⟨Pr, mu, f, 115, rs, n0⟩ (.inLoop b6i :: .inBlock 4 :: rest) [(0, matV b), (2, .loc b0 0 0), (4, .loc b1 0 0), (5, .int .i64 i), (6, mv), (7, .int .i64 j), (8, .loc (lid G 0) 0 0), (9, .int .i64 0)]
   (hap G [some ⟨4, [Rv (Sg (Gr b) 0 i j)]⟩]) R := by
 refine Safe.loopN j (fun k => [(0, matV b), (2, .loc b0 0 0), (4, .loc b1 0 0), (5, .int .i64 i), (6, mv), (7, .int .i64 j), (8, .loc (lid G 0) 0 0), (9, .int .i64 k)]) (fun k => hap G [some ⟨4, [Rv (Sg (Gr b) k i j)]⟩]) rfl rfl (fun k hk ih => ?_) ?_
 ·have hlt : ((k : Int) < (j : Int)) = True := eq_true (by omega)
  have hiw : IntKind.wrap .i64 ((k : Int) + 1) = ((k + 1 : Nat) : Int) := by rw [a0c] <;> omega
  refine Safe.inLoop ?_
  have hq1 := c7P hm (by omega) hg (k := k) (i := i) (j := j) (by omega) (by omega) (by omega)
  have hq2 := d7u hm (n := i) (by omega) hg (i := j) (j := k) (by omega) (by omega)
  have hq3 := d7u hm (n := i) (by omega) hg (i := i) (j := k) (by omega) (by omega)
  have hq4 := c7P hm (by omega) hg (k := k) (i := k) (j := k) (by omega) (by omega) (by omega)
  have c1 := b2E (mug (Gr b) j k) (mug (Gr b) i k) hq2 hq3 (by omega)
  have c2 := b2E (mug (Gr b) j k * mug (Gr b) i k) (Sg (Gr b) k k k) (b9g hq2 hq3) hq4 (by omega)
  have c3 := c8V (Sg (Gr b) k i j) (mug (Gr b) j k * mug (Gr b) i k * Sg (Gr b) k k k) hq1 (b9g (b9g hq2 hq3) hq4) (by omega)
  rw [d8O hg (k := k) (i := i) (j := j) (by omega) (by omega) hk] at c3
  have bs0 := hd.bs
  have bx0 : ∀ L, atV (hap G L) (.loc b1 0 0) = some [mr, sr] := fun L => hd.bx L 0
  have bx1 : ∀ L, atV (hap G L) (.loc b1 0 1) = some [sr] := fun L => hd.bx L 1
  have mi0 : ∀ L, idxV (hap G L) 1 mr (.int .i64 (j : Nat)) = some (.loc mm j 0) := fun L => hd.mi L j hj
  have ma0 : ∀ L, atV (hap G L) (.loc mm j 0) = some [qV (qv j fun t => mug (Gr b) j t)] := fun L => by rw [hd.ma L j hj, e2Z b (by omega)]
  have qi0 : ∀ L, idxV (hap G L) 4 (qV (qv j fun t => mug (Gr b) j t)) (.int .i64 (k : Nat)) = some (.ro (Rv (mug (Gr b) j k)) 0) := fun L => f1b _ (f := fun t => mug (Gr b) j t) hk
  have ri0 : ∀ L, idxV (hap G L) 4 mv (.int .i64 (k : Nat)) = some (.loc mq k 0) := fun L => hr.ri L k hk
  have ra0 : ∀ L, atV (hap G L) (.loc mq k 0) = some (Rv (mug (Gr b) i k)).cells := fun L => hr.ra L k hk
  have si0 : ∀ L, idxV (hap G L) 4 sr (.int .i64 (k : Nat)) = some (.loc ss k 0) := fun L => hd.si L k (by omega)
  have sa0 : ∀ L, atV (hap G L) (.loc ss k 0) = some (Rv (Sg (Gr b) k k k)).cells := fun L => hd.sa L k (by omega)
  simp only [Rv] at c1 c2 c3
  refine Safe.rg rfl ?_
  simp only [a8y, hlt, E3, seval]
  refine Safe.cd rfl ?_
  simp only [E3, seval]
  refine Safe.rg rfl ?_
  simp only [b3w, bs0, bx0, bx1, mi0, ma0, qi0, ri0, ra0, si0, sa0, a1k, a3Y, a0i, E3, seval]
  first | refine (c1).acall ?_ | refine (c1).dcall ?_ | refine (c1).dgcall ?_
  try simp only [E3, seval]
  try simp only [bs0, bx0, bx1, si0, sa0, a1k, a3Y, a0i, E3, seval]
  first | refine (c2).acall ?_ | refine (c2).dcall ?_ | refine (c2).dgcall ?_
  try simp only [E3, seval]
  try simp only [a1k, a3Y, a0i, E3, seval]
  first | refine (c3).acall ?_ | refine (c3).dcall ?_ | refine (c3).dgcall ?_
  try simp only [E3, seval]
  try simp only [a1k, a3Y, a0i, E3, seval]
  refine Safe.rg rfl ?_
  simp only [b3v, hiw, E3, seval]
  refine Safe.keep [0, 2, 4, 5, 6, 7, 8, 9] ?_
  simp only [E3, seval]
  exact ih
 ·refine Safe.inLoop ?_
  refine Safe.rg rfl ?_
  simp only [a8y, Int.lt_irrefl, E3, seval]
  refine Safe.cd rfl ?_
  simp only [E3, seval]
  refine Safe.keep [0, 2, 4, 5, 6, 7, 8, 9] ?_
  simp only [E3, seval]
  refine Safe.stl 1 _ ?_
  exact k
theorem f1v (hr : RowAt b i i G mv mq) (k : Safe ⟨Pr, mu, f, 115, rs, n0⟩ rest [(0, matV b), (2, .loc b0 0 0), (4, .loc b1 0 0), (5, .int .i64 i), (6, mv), (10, .loc (lid G 0) 0 0)]
   (hap G [some ⟨4, [Rv (Sg (Gr b) i i i)]⟩]) R) :
  Safe ⟨Pr, mu, f, 115, rs, n0⟩ (.inLoop b6h :: .inBlock 6 :: rest) [(0, matV b), (2, .loc b0 0 0), (4, .loc b1 0 0), (5, .int .i64 i), (6, mv), (10, .loc (lid G 0) 0 0), (11, .int .i64 0)]
   (hap G [some ⟨4, [Rv (Sg (Gr b) 0 i i)]⟩]) R := by
 refine Safe.loopN i (fun k => [(0, matV b), (2, .loc b0 0 0), (4, .loc b1 0 0), (5, .int .i64 i), (6, mv), (10, .loc (lid G 0) 0 0), (11, .int .i64 k)]) (fun k => hap G [some ⟨4, [Rv (Sg (Gr b) k i i)]⟩]) rfl rfl (fun k hk ih => ?_) ?_
 ·have hlt : ((k : Int) < (i : Int)) = True := eq_true (by omega)
  have hiw : IntKind.wrap .i64 ((k : Int) + 1) = ((k + 1 : Nat) : Int) := by rw [a0c] <;> omega
  refine Safe.inLoop ?_
  have hq1 := c7P hm (by omega) hg (k := k) (i := i) (j := i) (by omega) (by omega) (by omega)
  have hq3 := d7u hm (n := i) (by omega) hg (i := i) (j := k) (by omega) (by omega)
  have hq4 := c7P hm (by omega) hg (k := k) (i := k) (j := k) (by omega) (by omega) (by omega)
  have c1 := d5v (mug (Gr b) i k) hq3 (by omega)
  have c2 := b2E (mug (Gr b) i k * mug (Gr b) i k) (Sg (Gr b) k k k) (b9g hq3 hq3) hq4 (by omega)
  have c3 := c8V (Sg (Gr b) k i i) (mug (Gr b) i k * mug (Gr b) i k * Sg (Gr b) k k k) hq1 (b9g (b9g hq3 hq3) hq4) (by omega)
  rw [d8O hg (k := k) (i := i) (j := i) (by omega) (by omega) (by omega)] at c3
  have bs0 := hd.bs
  have bx1 : ∀ L, atV (hap G L) (.loc b1 0 1) = some [sr] := fun L => hd.bx L 1
  have ri0 : ∀ L, idxV (hap G L) 4 mv (.int .i64 (k : Nat)) = some (.loc mq k 0) := fun L => hr.ri L k hk
  have ra0 : ∀ L, atV (hap G L) (.loc mq k 0) = some (Rv (mug (Gr b) i k)).cells := fun L => hr.ra L k hk
  have si0 : ∀ L, idxV (hap G L) 4 sr (.int .i64 (k : Nat)) = some (.loc ss k 0) := fun L => hd.si L k (by omega)
  have sa0 : ∀ L, atV (hap G L) (.loc ss k 0) = some (Rv (Sg (Gr b) k k k)).cells := fun L => hd.sa L k (by omega)
  simp only [Rv] at c1 c2 c3
  refine Safe.rg rfl ?_
  simp only [a7f, hlt, E3, seval]
  refine Safe.cd rfl ?_
  simp only [E3, seval]
  refine Safe.rg rfl ?_
  simp only [b3s, bs0, bx1, ri0, ra0, si0, sa0, a1k, a3Y, a0i, E3, seval]
  first | refine (c1).acall ?_ | refine (c1).dcall ?_ | refine (c1).dgcall ?_
  try simp only [E3, seval]
  try simp only [bs0, bx1, si0, sa0, a1k, a3Y, a0i, E3, seval]
  first | refine (c2).acall ?_ | refine (c2).dcall ?_ | refine (c2).dgcall ?_
  try simp only [E3, seval]
  try simp only [a1k, a3Y, a0i, E3, seval]
  first | refine (c3).acall ?_ | refine (c3).dcall ?_ | refine (c3).dgcall ?_
  try simp only [E3, seval]
  try simp only [a1k, a3Y, a0i, E3, seval]
  refine Safe.rg rfl ?_
  simp only [b3r, hiw, E3, seval]
  refine Safe.keep [0, 2, 4, 5, 6, 10, 11] ?_
  simp only [E3, seval]
  exact ih
 ·refine Safe.inLoop ?_
  refine Safe.rg rfl ?_
  simp only [a7f, Int.lt_irrefl, E3, seval]
  refine Safe.cd rfl ?_
  simp only [E3, seval]
  refine Safe.keep [0, 2, 4, 5, 6, 10] ?_
  simp only [E3, seval]
  refine Safe.stl 1 _ ?_
  exact k
end
end Go.Abs
namespace Go.Abs
theorem FrAt.up {b : List (List ZI)} {i : Nat} {G X : Heap} {mr sr : AV} {b1 mm ss : Nat} (h : FrAt b i G mr sr b1 mm ss) : FrAt b i (hap G X) mr sr b1 mm ss :=
 ⟨fun L => by rw [a0v]; exact h.bs _, fun L off => by rw [a0v]; exact h.bx _ off, fun L j hj => by rw [a0v]; exact h.mi _ j hj, fun L j hj => by rw [a0v]; exact h.ma _ j hj, fun L k hk => by rw [a0v]; exact h.si _ k hk, fun L k hk => by rw [a0v]; exact h.sa _ k hk⟩
theorem c8T (b : List (List ZI)) (i : Nat) (G : Heap) (mv : AV) (mq : Nat) : RowAt b i 0 G mv mq := ⟨fun L k hk => by omega, fun L k hk => by omega⟩
theorem d3s (b : List (List ZI)) (i j : Nat) (G : Heap) (o : Option Blk) : RowAt b i j (hap G [o, some ⟨4, (qv j fun t => mug (Gr b) i t).map Rv⟩]) (.mu (lid G 1) 0 j none) (lid G 1) :=
 ⟨fun L k hk => by rw [a0v, b1p G _ 4 1 0 j none .i64 k rfl rfl hk, Nat.zero_add],
   fun L k hk => by rw [a0v, a4r G _ 1 k rfl (by rw [List.length_map, c2z]; exact hk), e2F hk]⟩
section
variable {b : List (List ZI)} {e i : Nat} {G : Heap} {n0 : Nat} {mu : Nat → Nat → Bool} {f : FuncId} {rs : List ResV} {mr sr : AV} {b0 b1 mm ss : Nat} {R : AV → Heap → Prop} {rest : List AItem}
noncomputable def mvF (G : Heap) (j : Nat) : AV := if j = 0 then .nil else .mu (lid G 1) 0 j none
noncomputable def mhF (b : List (List ZI)) (i : Nat) (G : Heap) (j : Nat) : Heap := if j = 0 then hap G [] else hap G [none, some ⟨4, (qv j fun t => mug (Gr b) i t).map Rv⟩]
variable (hm : Mok e b) (he : 4 * GB e + 8 < 17592186043000) (hr : Rect b) (hn : i < b.length) (h64 : b.length ≤ 64) (hg : gd (Gr b) i = i) (hd : FrAt b i G mr sr b1 mm ss) (hG : n0 ≤ G.length) (hGr : a0C G) (hlt0 : b0 < G.length) (hlt1 : b1 < G.length)
include hm he hr hn h64 hg hd hG hGr hlt0 hlt1
theorem f1w (k : Safe ⟨Pr, mu, f, 115, rs, n0⟩ rest [(0, matV b), (2, .loc b0 0 0), (4, .loc b1 0 0), (5, .int .i64 i), (6, mvF G i)] (mhF b i G i) R) :
  Safe ⟨Pr, mu, f, 115, rs, n0⟩ (.inLoop b6j :: .inBlock 2 :: rest) [(0, matV b), (2, .loc b0 0 0), (4, .loc b1 0 0), (5, .int .i64 i), (6, .nil), (7, .int .i64 0)] (hap G []) R := by
 refine Safe.loopN i (fun j => [(0, matV b), (2, .loc b0 0 0), (4, .loc b1 0 0), (5, .int .i64 i), (6, mvF G j), (7, .int .i64 j)]) (fun j => mhF b i G j) rfl rfl (fun j hj ih => ?_) ?_
 ·have hlt : ((j : Int) < (i : Int)) = True := eq_true (by omega)
  have hiw : IntKind.wrap .i64 ((j : Int) + 1) = ((j + 1 : Nat) : Int) := by rw [a0c] <;> omega
  have ri : ∀ L, idxV L 1 (matV b) (.int .i64 (i : Nat)) = some (.ro (vecV (mg b i)) 0) := fun L => by rw [a1F hn]; exact a1r _ b .i64 i hn
  have rj : ∀ L, idxV L 1 (matV b) (.int .i64 (j : Nat)) = some (.ro (vecV (mg b j)) 0) := fun L => by rw [a1F (show j < b.length by omega)]; exact a1r _ b .i64 j (by omega)
  have hdot := d5D (mg b i) (mg b j) e (hm.row i) (hm.row j) (by unfold GB at he; omega) (by rw [hr i hn, hr j (by omega)])
  have hof := d4B (canZ (dotZ (mg b i) (mg b j))) (c3H (a7E (hm.row i) (hm.row j) (Nat.le_refl _)) (by unfold GB at he; omega))
  rw [a0x] at hof
  have e0 : ((dotZ (mg b i) (mg b j) : Int) : Rat) = Sg (Gr b) 0 i j := by rw [c7O]; rfl
  rw [e0] at hof
  have bs0 := hd.bs
  have bx1 : ∀ L, atV (hap G L) (.loc b1 0 1) = some [sr] := fun L => hd.bx L 1
  have si0 : ∀ L, idxV (hap G L) 4 sr (.int .i64 (j : Nat)) = some (.loc ss j 0) := fun L => hd.si L j hj
  have sa0 : ∀ L, atV (hap G L) (.loc ss j 0) = some (Rv (Sg (Gr b) j j j)).cells := fun L => hd.sa L j hj
  have hs0 : Sg (Gr b) j j j ≠ 0 := fun e1 => by
   have p0 := (a2Q hg j (by omega)).1
   have hd1 := (a2Q hg (j + 1) (by omega)).2
   rw [a9W p0, e1, Rat.mul_zero] at hd1
   exact absurd hd1 (by decide)
  have c1 := e0f (Sg (Gr b) j i j) (Sg (Gr b) j j j) (c7P hm (by omega) hg (k := j) (i := i) (j := j) (by omega) (by omega) (by omega)) (c7P hm (by omega) hg (k := j) (i := j) (j := j) (by omega) (by omega) (by omega)) (by omega) hs0
  have em : Sg (Gr b) j i j / Sg (Gr b) j j j = mug (Gr b) i j := rfl
  rw [em] at c1
  refine Safe.inLoop ?_
  by_cases hj0 : j = 0
  ·subst hj0
   unfold mvF mhF
   rw [if_pos rfl, if_pos rfl]
   simp only [Rv] at hof c1
   refine Safe.rg rfl ?_
   simp only [a5a, hlt, E3, Nat.reduceLeDiff, Nat.reduceSub, Nat.reduceAdd, Nat.reduceEqDiff, reduceCtorEq, ↓reduceIte]
   refine Safe.cd rfl ?_
   simp only [E3, Nat.reduceLeDiff, Nat.reduceSub, Nat.reduceAdd, Nat.reduceEqDiff, reduceCtorEq, ↓reduceIte]
   refine Safe.rg rfl ?_
   simp only [a8A, ri, rj, a0i, E3, Nat.reduceLeDiff, Nat.reduceSub, Nat.reduceAdd, Nat.reduceEqDiff, reduceCtorEq, ↓reduceIte]
   first | refine (hdot).acall ?_ | refine (hdot).dcall ?_ | refine (hdot).dgcall ?_
   try simp only [E3, Nat.reduceLeDiff, Nat.reduceSub, Nat.reduceAdd, Nat.reduceEqDiff, reduceCtorEq, ↓reduceIte]
   try simp only [a0i, E3, Nat.reduceLeDiff, Nat.reduceSub, Nat.reduceAdd, Nat.reduceEqDiff, reduceCtorEq, ↓reduceIte]
   first | refine (hof).acall ?_ | refine (hof).dcall ?_ | refine (hof).dgcall ?_
   try simp only [E3, Nat.reduceLeDiff, Nat.reduceSub, Nat.reduceAdd, Nat.reduceEqDiff, reduceCtorEq, ↓reduceIte]
   try simp only [a1k, a3Y, a0i, E3, Nat.reduceLeDiff, Nat.reduceSub, Nat.reduceAdd, Nat.reduceEqDiff, reduceCtorEq, ↓reduceIte]
   refine Safe.rg rfl ?_
   simp only [a8z, E3, Nat.reduceLeDiff, Nat.reduceSub, Nat.reduceAdd, Nat.reduceEqDiff, reduceCtorEq, ↓reduceIte]
   refine Safe.lp rfl ?_
   refine Safe.keep [0, 2, 4, 5, 6, 7, 8, 9] ?_
   simp only [E3, Nat.reduceLeDiff, Nat.reduceSub, Nat.reduceAdd, Nat.reduceEqDiff, reduceCtorEq, ↓reduceIte]
   refine e7P hm he hn h64 hg hd hj (c8T b i G .nil 0) ?_
   refine Safe.rg rfl ?_
   simp only [a7h, bs0, bx1, si0, sa0, a1k, a3Y, a0i, E3, Nat.reduceLeDiff, Nat.reduceSub, Nat.reduceAdd, Nat.reduceEqDiff, reduceCtorEq, ↓reduceIte]
   first | refine (c1).acall ?_ | refine (c1).dcall ?_ | refine (c1).dgcall ?_
   try simp only [E3, Nat.reduceLeDiff, Nat.reduceSub, Nat.reduceAdd, Nat.reduceEqDiff, reduceCtorEq, ↓reduceIte]
   have happ := fun env L => a9I (H := G) (L := L) n0 env 4 64 false (.sl 4 [.agg [.bool (decide ((mug (Gr b) i 0).num < 0)), natV (limbs (mug (Gr b) i 0).num.natAbs), .bool false, natV (limbs (mug (Gr b) i 0).den)]]) [.agg [.bool (decide ((mug (Gr b) i 0).num < 0)), natV (limbs (mug (Gr b) i 0).num.natAbs), .bool false, natV (limbs (mug (Gr b) i 0).den)]] (a1f _ 4 _) (by decide) (by simp) (by simp)
   try simp only [happ, a1k, a3Y, a0i, E3, Nat.reduceLeDiff, Nat.reduceSub, Nat.reduceAdd, Nat.reduceEqDiff, reduceCtorEq, ↓reduceIte]
   refine Safe.rg rfl ?_
   simp only [a7g, hiw, E3, Nat.reduceLeDiff, Nat.reduceSub, Nat.reduceAdd, Nat.reduceEqDiff, reduceCtorEq, ↓reduceIte]
   refine Safe.keep [0, 2, 4, 5, 6, 7] ?_
   simp only [E3, Nat.reduceLeDiff, Nat.reduceSub, Nat.reduceAdd, Nat.reduceEqDiff, reduceCtorEq, ↓reduceIte]
   refine Safe.freezeB 0 hGr hG rfl (a1U (a4G _)) ?_
   have f0 : ∀ bl, frz (lid G 0) bl (.loc b0 0 0) = .loc b0 0 0 := fun bl => a2o (.loc _ _ _ (by unfold lid; omega))
   have f1 : ∀ bl, frz (lid G 0) bl (.loc b1 0 0) = .loc b1 0 0 := fun bl => a2o (.loc _ _ _ (by unfold lid; omega))
   simp only [f0, f1, d2h G _ _ _ _ (show 1 ≠ 0 by decide), E3, Nat.reduceLeDiff, Nat.reduceSub, Nat.reduceAdd, Nat.reduceEqDiff, reduceCtorEq, ↓reduceIte]
   exact ih
  ·unfold mvF mhF at ih ⊢
   rw [if_neg (by omega), if_neg (by omega)] at ih
   rw [if_neg hj0, if_neg hj0]
   simp only [Rv] at hof c1
   refine Safe.rg rfl ?_
   simp only [a5a, hlt, E3, Nat.reduceLeDiff, Nat.reduceSub, Nat.reduceAdd, Nat.reduceEqDiff, reduceCtorEq, ↓reduceIte]
   refine Safe.cd rfl ?_
   simp only [E3, Nat.reduceLeDiff, Nat.reduceSub, Nat.reduceAdd, Nat.reduceEqDiff, reduceCtorEq, ↓reduceIte]
   refine Safe.rg rfl ?_
   simp only [a8A, ri, rj, a0i, E3, Nat.reduceLeDiff, Nat.reduceSub, Nat.reduceAdd, Nat.reduceEqDiff, reduceCtorEq, ↓reduceIte]
   first | refine (hdot).acall ?_ | refine (hdot).dcall ?_ | refine (hdot).dgcall ?_
   try simp only [E3, Nat.reduceLeDiff, Nat.reduceSub, Nat.reduceAdd, Nat.reduceEqDiff, reduceCtorEq, ↓reduceIte]
   try simp only [a0i, E3, Nat.reduceLeDiff, Nat.reduceSub, Nat.reduceAdd, Nat.reduceEqDiff, reduceCtorEq, ↓reduceIte]
   first | refine (hof).acall ?_ | refine (hof).dcall ?_ | refine (hof).dgcall ?_
   try simp only [E3, Nat.reduceLeDiff, Nat.reduceSub, Nat.reduceAdd, Nat.reduceEqDiff, reduceCtorEq, ↓reduceIte]
   try simp only [a1k, a3Y, a0i, E3, Nat.reduceLeDiff, Nat.reduceSub, Nat.reduceAdd, Nat.reduceEqDiff, reduceCtorEq, ↓reduceIte]
   refine Safe.rg rfl ?_
   simp only [a8z, E3, Nat.reduceLeDiff, Nat.reduceSub, Nat.reduceAdd, Nat.reduceEqDiff, reduceCtorEq, ↓reduceIte]
   refine Safe.lp rfl ?_
   refine Safe.keep [0, 2, 4, 5, 6, 7, 8, 9] ?_
   simp only [E3, Nat.reduceLeDiff, Nat.reduceSub, Nat.reduceAdd, Nat.reduceEqDiff, reduceCtorEq, ↓reduceIte]
   have hG' : a0C (hap G [none, some ⟨4, (qv j fun t => mug (Gr b) i t).map Rv⟩]) := c6I hGr (RC.none (RC.row a4G RC.nil))
   have e2 : lid (hap G [none, some ⟨4, (qv j fun t => mug (Gr b) i t).map Rv⟩]) 0 = lid G 2 := by simp [lid, hap]
   suffices h : Safe ⟨Pr, mu, f, 115, rs, n0⟩ _ [(0, matV b), (2, .loc b0 0 0), (4, .loc b1 0 0), (5, .int .i64 i), (6, .mu (lid G 1) 0 j none), (7, .int .i64 j), (8, .loc (lid (hap G [none, some ⟨4, (qv j fun t => mug (Gr b) i t).map Rv⟩]) 0) 0 0), (9, .int .i64 0)] (hap (hap G [none, some ⟨4, (qv j fun t => mug (Gr b) i t).map Rv⟩]) [some ⟨4, [Rv (Sg (Gr b) 0 i j)]⟩]) R by
    rw [a0v, e2] at h
    exact h
   refine e7P hm he hn h64 hg hd.up hj (d3s b i j G none) ?_
   rw [a0v, e2]
   simp only [List.cons_append, List.nil_append]
   refine Safe.rg rfl ?_
   simp only [a7h, bs0, bx1, si0, sa0, a1k, a3Y, a0i, E3, Nat.reduceLeDiff, Nat.reduceSub, Nat.reduceAdd, Nat.reduceEqDiff, reduceCtorEq, ↓reduceIte]
   first | refine (c1).acall ?_ | refine (c1).dcall ?_ | refine (c1).dgcall ?_
   try simp only [E3, Nat.reduceLeDiff, Nat.reduceSub, Nat.reduceAdd, Nat.reduceEqDiff, reduceCtorEq, ↓reduceIte]
   have happ := fun env => c7K (H := G) (env := env) hGr (L := [none, some ⟨4, (qv j fun t => mug (Gr b) i t).map Rv⟩, some ⟨4, [Rv (Sg (Gr b) j i j)]⟩]) 1 (n0 := n0) (Nat.le_trans hG (a1M G 1)) (wd := 4) (bytes := 64) (f := Rv) a4G (qv j fun t => mug (Gr b) i t) (mug (Gr b) i j) (qv (j + 1) fun t => mug (Gr b) i t)
    (y := .agg [.bool (decide ((mug (Gr b) i j).num < 0)), natV (limbs (mug (Gr b) i j).num.natAbs), .bool false, natV (limbs (mug (Gr b) i j).den)]) (len := j) (c2z _ _).symm rfl (RC.none (RC.row a4G (RC.one (a4G _) RC.nil))) rfl (e2E _ _) (by omega) (by omega)
   simp only [List.set_cons_succ, List.set_cons_zero] at happ
   try simp only [happ, a1k, a3Y, a0i, E3, Nat.reduceLeDiff, Nat.reduceSub, Nat.reduceAdd, Nat.reduceEqDiff, reduceCtorEq, ↓reduceIte]
   refine Safe.rg rfl ?_
   simp only [a7g, hiw, E3, Nat.reduceLeDiff, Nat.reduceSub, Nat.reduceAdd, Nat.reduceEqDiff, reduceCtorEq, ↓reduceIte]
   have nr0 : nref (lid G 1) (.loc b0 0 0) = true := a2T _ _ (by unfold lid; omega)
   have nr1 : nref (lid G 1) (.loc b1 0 0) = true := a2T _ _ (by unfold lid; omega)
   refine Safe.keep [0, 2, 4, 5, 6, 7] ?_
   simp only [nr0, nr1, E3, Nat.reduceLeDiff, Nat.reduceSub, Nat.reduceAdd, Nat.reduceEqDiff, reduceCtorEq, ↓reduceIte]
   refine Safe.dropG (L := [none, some ⟨4, (qv (j + 1) fun t => mug (Gr b) i t).map Rv⟩]) hGr hG ?_ (fun c hc a ha => a0y (RC.none (RC.row a4G RC.nil) c hc a ha)) ih
   simp only [List.length_cons, List.length_nil, Nat.zero_add, Nat.reduceAdd, List.all_cons, List.all_nil, a7W, a2T (id := lid G 2) (b := b0) _ _ (by unfold lid; omega), a2T (id := lid G 2) (b := b1) _ _ (by unfold lid; omega), d8L (id := lid G 2) (b := lid G 1) _ _ _ (by unfold lid; omega), a3M, Bool.and_true, Bool.true_and]
 ·refine Safe.inLoop ?_
  refine Safe.rg rfl ?_
  simp only [a5a, Int.lt_irrefl, E3, Nat.reduceLeDiff, Nat.reduceSub, Nat.reduceAdd, Nat.reduceEqDiff, reduceCtorEq, ↓reduceIte]
  refine Safe.cd rfl ?_
  simp only [E3, Nat.reduceLeDiff, Nat.reduceSub, Nat.reduceAdd, Nat.reduceEqDiff, reduceCtorEq, ↓reduceIte]
  refine Safe.keep [0, 2, 4, 5, 6] ?_
  simp only [E3, Nat.reduceLeDiff, Nat.reduceSub, Nat.reduceAdd, Nat.reduceEqDiff, reduceCtorEq, ↓reduceIte]
  refine Safe.stl 1 _ ?_
  exact k
end
end Go.Abs
namespace Go.Abs
theorem e7M (q : Rat) : 0 < q.num ↔ 0 < q := by rw [Rat.lt_iff]; simp
noncomputable def frM (b : List (List ZI)) (i : Nat) : List AV := (List.range i).map (muA b)
def frS (b : List (List ZI)) (i : Nat) : List Rat := qv i fun k => Sg (Gr b) k k k
noncomputable def fh (H : Heap) (b : List (List ZI)) (i : Nat) : Heap := if i = 0 then hap H [some ⟨2, [zz]⟩, some ⟨2, [zz]⟩]
 else hap H [some ⟨2, [zz]⟩, some ⟨2, [.agg [.mu (lid H 2) 0 i none, .mu (lid H 3) 0 i none]]⟩, some ⟨1, frM b i⟩, some ⟨4, (frS b i).map Rv⟩]
theorem e3R (b : List (List ZI)) (i : Nat) : (frM b i).length = i := by simp [frM]
section
variable {H : Heap} (hH : a0C H) {b : List (List ZI)} {i : Nat}
include hH
theorem e9P : a0C (fh H b i) := by
 unfold fh
 split
 ·exact c6I hH (RC.one b0E (RC.one b0E RC.nil))
 ·refine b9Q hH fun bl hb a ha => ?_
  simp only [List.mem_cons, List.not_mem_nil, or_false] at hb
  rcases hb with hb | hb | hb | hb
  ·cases hb; exact (a1U b0E a ha).ref
  ·cases hb
   simp only [Blk.flat, List.flatMap_cons, List.flatMap_nil, List.append_nil, AV.cells, List.mem_cons, List.not_mem_nil, or_false] at ha
   rcases ha with rfl | rfl
   ·exact .mu _ _ _ _ (by simp [lid])
   ·exact .mu _ _ _ _ (by simp [lid])
  ·cases hb; exact d3r (b3I b) a ha
  ·cases hb; exact d3r a4G a ha
omit hH in
theorem f1J : lid H 1 < (fh H b i).length ∧ H.length ≤ (fh H b i).length ∧ lid H 0 < (fh H b i).length := by
 unfold fh
 split <;> simp [hap, lid]
omit hH in
theorem f2s (b) (i : Nat) : ∃ mr sr mm ss, FrAt b i (fh H b i) mr sr (lid H 1) mm ss := by
 unfold fh
 by_cases h0 : i = 0
 ·subst h0
  rw [if_pos rfl]
  refine ⟨.nil, .nil, 0, 0, fun L => by rw [a0v, a0I]; rfl, fun L off => by rw [a0v, d8R (i := 1) (k := 0) rfl (by simp)]; rfl, fun L k hk => by omega, fun L k hk => by omega, fun L j hj => by omega, fun L j hj => by omega⟩
 ·rw [if_neg h0]
  refine ⟨.mu (lid H 2) 0 i none, .mu (lid H 3) 0 i none, lid H 2, lid H 3, fun L => by rw [a0v, a0I]; rfl, fun L off => by rw [a0v, d8R (i := 1) (k := 0) rfl (by simp)]; rfl, fun L k hk => ?_, fun L k hk => ?_, fun L j hj => ?_, fun L j hj => ?_⟩
  ·rw [a0v, b1p H _ 1 2 0 i none .i64 k rfl rfl (by omega), Nat.zero_add]
  ·rw [a0v, a4r H _ 2 k rfl (by rw [e3R]; omega)]
   unfold frM
   rw [List.getD_eq_getElem?_getD, List.getElem?_map, List.getElem?_range hk]
   exact congrArg some (c5Y b k)
  ·rw [a0v, b1p H _ 4 3 0 i none .i64 j rfl rfl hj, Nat.zero_add]
  ·rw [a0v, a4r H _ 3 j rfl (by rw [List.length_map, frS, c2z]; exact hj)]
   unfold frS
   rw [e2F hj]
end
theorem d0s {b : List (List ZI)} {i : Nat} {G : Heap} {n0 : Nat} {mu : Nat → Nat → Bool} {f : FuncId} {rs : List ResV} {b0 b1 : Nat} {R : AV → Heap → Prop} {todo : List AItem} {q : Rat} {c : Bool} (hG : n0 ≤ G.length) (hGr : a0C G) (hlt0 : b0 < G.length) (hlt1 : b1 < G.length)
  (k : Safe ⟨Pr, mu, f, 115, rs, n0⟩ todo [(0, matV b), (2, .loc b0 0 0), (4, .loc b1 0 0), (5, .int .i64 i), (6, muA b i), (10, .ro (Rv q) 0), (100, .bool c)] (hap G []) R) :
  Safe ⟨Pr, mu, f, 115, rs, n0⟩ todo [(0, matV b), (2, .loc b0 0 0), (4, .loc b1 0 0), (5, .int .i64 i), (6, mvF G i), (10, .loc (lid (mhF b i G i) 0) 0 0), (100, .bool c)] (hap (mhF b i G i) [some ⟨4, [Rv q]⟩]) R := by
 have f0 : ∀ j bl, frz (lid G j) bl (.loc b0 0 0) = .loc b0 0 0 := fun j bl => a2o (.loc _ _ _ (by unfold lid; omega))
 have f1 : ∀ j bl, frz (lid G j) bl (.loc b1 0 0) = .loc b1 0 0 := fun j bl => a2o (.loc _ _ _ (by unfold lid; omega))
 have f2 : ∀ j bl, frz (lid G j) bl (.ro (Rv q) 0) = .ro (Rv q) 0 := fun j bl => a2o (.ro _ _)
 have n0' : ∀ j, nref (lid G j) (.loc b0 0 0) = true := fun j => a2T _ _ (by unfold lid; omega)
 have n1' : ∀ j, nref (lid G j) (.loc b1 0 0) = true := fun j => a2T _ _ (by unfold lid; omega)
 have n6 : ∀ j, nref (lid G j) (muA b i) = true := fun j => a0y (b3I b i)
 unfold mvF mhF
 by_cases h0 : i = 0
 ·subst h0
  rw [if_pos rfl, if_pos rfl, a0v, show lid (hap G []) 0 = lid G 0 by simp [lid, hap]]
  refine Safe.freezeB 0 hGr hG rfl (a1U (a4G q)) ?_
  simp only [f0, f1, a0K, E3, seval]
  refine Safe.dropG (L := []) hGr hG ?_ (fun c hc => by cases hc) k
  simp only [List.length_nil, List.all_cons, List.all_nil, a7W, n0', n1', a4p, b4V, a3M, c5h, Bool.and_true, Bool.true_and]
 ·rw [if_neg h0, if_neg h0, a0v, show lid (hap G [none, some ⟨4, (qv i fun t => mug (Gr b) i t).map Rv⟩]) 0 = lid G 2 by simp [lid, hap]]
  simp only [List.cons_append, List.nil_append]
  refine Safe.freezeB 2 hGr hG rfl (a1U (a4G q)) ?_
  simp only [f0, f1, a0K, d2h G _ _ _ _ (show 1 ≠ 2 by decide), c6R _ _ Rv _ a4G, E3, seval]
  refine Safe.freezeB 1 hGr hG rfl (a1t 4 Rv _ a4G) ?_
  simp only [f0, f1, f2, a9z 1 4 Rv (qv i fun t => mug (Gr b) i t) i none (c2z _ _).symm, E3, seval]
  have k' := k
  rw [e2Z b (by omega)] at k'
  refine Safe.dropG (L := [none, none]) hGr hG ?_ (fun c hc => by simp at hc) (Safe.dropG (L := [none]) hGr hG ?_ (fun c hc => by simp at hc) (Safe.dropG (L := []) hGr hG ?_ (fun c hc => by cases hc) k'))
  all_goals simp only [List.length_cons, List.length_nil, List.all_cons, List.all_nil, a7W, n0', n1', c5f, a4p, b4V, a3M, c5h, Bool.and_true, Bool.true_and]
noncomputable def b8i (b : List (List ZI)) (g : Nat) : AV := if g = 0 then zz else .agg [.sl 1 (frM b g), qV (frS b g)]
theorem c6T (b : List (List ZI)) (g : Nat) : Cl (b8i b g) := by
 unfold b8i
 split
 ·exact b0E
 ·exact .agg _ fun c hc => by
   simp only [List.mem_cons, List.not_mem_nil, or_false] at hc
   rcases hc with rfl | rfl
   ·exact .sl _ _ fun c hc => d3r (S := fun _ => False) (wd := 1) (b3I b) c hc |> fun _ => a1t 1 (muA b) _ (b3I b) c hc
   ·exact f1c _
noncomputable def e3l (b : List (List ZI)) : AV := .tup [b8i b (gd (Gr b) b.length), .bool (decide (gd (Gr b) b.length = b.length))]
theorem e6c (b : List (List ZI)) : Cl (e3l b) := a2S (c6T b _) (.bool _)
theorem e3k {H : Heap} (hH : a0C H) {b : List (List ZI)} {i : Nat} (h0 : i ≠ 0) {mu : Nat → Nat → Bool} {f : FuncId} {rs : List ResV} {R : AV → Heap → Prop} {todo : List AItem}
  (k : Safe ⟨Pr, mu, f, 115, rs, H.length⟩ todo [(0, matV b), (2, .loc (lid H 0) 0 0), (4, .loc (lid H 1) 0 0), (5, .int .i64 i)] (hap H [some ⟨2, [zz]⟩, some ⟨2, [.agg [.sl 1 (frM b i), qV (frS b i)]]⟩, none, none]) R) :
  Safe ⟨Pr, mu, f, 115, rs, H.length⟩ todo [(0, matV b), (2, .loc (lid H 0) 0 0), (4, .loc (lid H 1) 0 0), (5, .int .i64 i)] (hap H [some ⟨2, [zz]⟩, some ⟨2, [.agg [.mu (lid H 2) 0 i none, .mu (lid H 3) 0 i none]]⟩, some ⟨1, frM b i⟩, some ⟨4, (frS b i).map Rv⟩]) R := by
 have hfr : frz (lid H 2) ⟨1, frM b i⟩ (.mu (lid H 2) 0 i none) = .sl 1 (frM b i) := c3T H 2 1 (muA b) (List.range i) i none (by simp)
 refine Safe.freeze 2 hH rfl rfl (a1t 1 (muA b) _ (b3I b)) ?_
 simp only [a3v b0E, a4u H _ 0 0 (show 0 ≠ 2 by decide), a4u H _ 0 0 (show 1 ≠ 2 by decide), c3U, d2h H _ _ _ _ (show 3 ≠ 2 by decide), hfr, c6R _ _ Rv _ a4G, E3, seval]
 have hsl : ∀ id bl, frz id bl (.sl 1 (frM b i)) = .sl 1 (frM b i) := fun id bl => a2o (.sl _ _)
 refine Safe.freeze 3 hH rfl rfl (a1t 4 Rv _ a4G) ?_
 simp only [a3v b0E, hsl, a4u H _ 0 0 (show 0 ≠ 3 by decide), a4u H _ 0 0 (show 1 ≠ 3 by decide), c3U, c3T H 3 4 Rv (frS b i) i none (by rw [frS, c2z]), E3, seval]
 exact k
theorem e3j (b : List (List ZI)) (e : Nat) (hm : Mok e b) (he : 4 * GB e + 8 < 17592186043000) (hr : Rect b) (h64 : b.length ≤ 64) : a0d Pr b2y [matV b] (e3l b) := by
 refine a0d.intro d1n d1l (Nat.le_of_ble_eq_true rfl) (e6c b) fun H hH => ?_
 refine Safe.rg rfl ?_
 simp only [b6g, E3, seval]
 refine Safe.rg rfl ?_
 simp only [b6f, E3, seval]
 refine Safe.rg rfl ?_
 simp only [b6e, E3, seval]
 refine Safe.lp rfl ?_
 refine Safe.keep [0, 2, 4, 5] ?_
 simp only [E3, seval]
 refine Safe.loopW (fun i : Nat => b.length - i) (fun i => [(0, matV b), (2, .loc (lid H 0) 0 0), (4, .loc (lid H 1) 0 0), (5, .int .i64 i)]) (fun i => fh H b i)
  (fun i => i ≤ b.length ∧ gd (Gr b) i = i) 0 rfl rfl ⟨Nat.zero_le _, rfl⟩ ?_
 rintro i ⟨hi, hg⟩ ih
 refine Safe.inLoop ?_
 by_cases hlt' : i < b.length
 ·have hlt : ((i : Int) < (b.length : Int)) = True := eq_true (by omega)
  have hiw : IntKind.wrap .i64 ((i : Int) + 1) = ((i + 1 : Nat) : Int) := by rw [a0c] <;> omega
  obtain ⟨mr, sr, mm, ss, hd⟩ := f2s (H := H) b i
  have hGr := e9P hH (b := b) (i := i)
  obtain ⟨hl1, hlH, hl0⟩ := f1J (H := H) (b := b) (i := i)
  rw [← a1T (fh H b i)]
  refine Safe.rg rfl ?_
  simp only [a5b, hlt, E3, seval]
  refine Safe.cd rfl ?_
  simp only [E3, seval]
  refine Safe.rg rfl ?_
  simp only [b6d, E3, seval]
  refine Safe.rg rfl ?_
  simp only [b6c, E3, seval]
  refine Safe.lp rfl ?_
  refine Safe.keep [0, 2, 4, 5, 6, 7] ?_
  simp only [E3, seval]
  refine f1w hm he hr hlt' h64 hg hd hlH hGr hl0 hl1 ?_
  have hd' : FrAt b i (mhF b i (fh H b i) i) mr sr (lid H 1) mm ss := by
   obtain ⟨X, hX⟩ : ∃ X, mhF b i (fh H b i) i = hap (fh H b i) X := by
    unfold mhF
    split <;> exact ⟨_, rfl⟩
   rw [hX]
   exact hd.up
  have hRow : RowAt b i i (mhF b i (fh H b i) i) (mvF (fh H b i) i) (lid (fh H b i) 1) := by
   unfold mhF mvF
   by_cases h0 : i = 0
   ·subst h0
    exact c8T b 0 _ _ _
   ·rw [if_neg h0, if_neg h0]
    exact d3s b i i _ none
  have ri : ∀ L, idxV L 1 (matV b) (.int .i64 (i : Nat)) = some (.ro (vecV (mg b i)) 0) := fun L => by rw [a1F hlt']; exact a1r _ b .i64 i hlt'
  have hdot := d5D (mg b i) (mg b i) e (hm.row i) (hm.row i) (by unfold GB at he; omega) rfl
  have hof := d4B (canZ (dotZ (mg b i) (mg b i))) (c3H (a7E (hm.row i) (hm.row i) (Nat.le_refl _)) (by unfold GB at he; omega))
  rw [a0x] at hof
  have e0 : ((dotZ (mg b i) (mg b i) : Int) : Rat) = Sg (Gr b) 0 i i := by rw [c7O]; rfl
  rw [e0] at hof
  simp only [Rv] at hof
  have hq := c7P hm (n := i) (by omega) hg (k := i) (i := i) (j := i) (by omega) (by omega) (by omega)
  rw [← a1T (mhF b i (fh H b i) i)]
  refine Safe.rg rfl ?_
  simp only [b3u, ri, a0i, E3, seval]
  first | refine (hdot).acall ?_ | refine (hdot).dcall ?_ | refine (hdot).dgcall ?_
  try simp only [E3, seval]
  try simp only [a0i, E3, seval]
  first | refine (hof).acall ?_ | refine (hof).dcall ?_ | refine (hof).dgcall ?_
  try simp only [E3, seval]
  try simp only [a1k, a3Y, a0i, E3, seval]
  refine Safe.rg rfl ?_
  simp only [b3t, E3, seval]
  refine Safe.lp rfl ?_
  refine Safe.keep [0, 2, 4, 5, 6, 10, 11] ?_
  simp only [E3, seval]
  refine f1v hm he hlt' h64 hg hd' hRow ?_
  have hsg := a8Y (canZ (Sg (Gr b) i i i).num) (c3H hq.num (by omega))
  rw [a0x] at hsg
  refine Safe.rg rfl ?_
  simp only [b3q, a1k, E3, seval]
  first | refine (hsg).acall ?_ | refine (hsg).dcall ?_ | refine (hsg).dgcall ?_
  try simp only [E3, seval]
  have hgs : gd (Gr b) (i + 1) = i + 1 ↔ 0 < Sg (Gr b) i i i := by
   rw [b9U, ← e5p hg]
   constructor
   ·intro h
    split at h
    ·rename_i hc; exact hc.2
    ·omega
   ·intro h; rw [if_pos ⟨hg, h⟩]
  by_cases hpos : 0 < Sg (Gr b) i i i
  ·have hnum : 0 < (Sg (Gr b) i i i).num := (e7M _).2 hpos
   have hng : ((Sg (Gr b) i i i).num.sign ≤ 0) = False := eq_false (by have := Int.sign_eq_one_of_pos hnum; omega)
   have hg1 := hgs.2 hpos
   simp only [hng, E3, seval]
   refine Safe.keep [0, 2, 4, 5, 6, 10, 100] ?_
   simp only [E3, seval]
   refine d0s hlH hGr hl0 hl1 ?_
   rw [a1T]
   refine Safe.cd rfl ?_
   simp only [E3, seval]
   unfold fh
   by_cases h0 : i = 0
   ·subst h0
    rw [if_pos rfl]
    have h0l : (0 : Nat) < 1 := by decide
    have e6 : muA b 0 = .nil := rfl
    rw [e6]
    have happ := fun env L => a9I (H := H) (L := L) H.length env 1 24 false (.sl 1 [.nil]) [.nil] (a1f _ 1 _) (by decide) (by simp) (by simp)
    have happ2 := fun env L => a9I (H := H) (L := L) H.length env 4 64 false (.sl 4 [.agg [.bool (decide ((Sg (Gr b) 0 0 0).num < 0)), natV (limbs (Sg (Gr b) 0 0 0).num.natAbs), .bool false, natV (limbs (Sg (Gr b) 0 0 0).den)]]) [Rv (Sg (Gr b) 0 0 0)] (a1f _ 4 _) (by decide) (by simp) (by simp)
    refine Safe.rg rfl ?_
    simp only [a7d, zz, happ, d0W, E3, seval]
    refine Safe.rg rfl ?_
    simp only [a7c, happ2, a1k, d0V, a0i, E3, seval]
    refine Safe.rg rfl ?_
    simp only [a7b, hiw, E3, seval]
    refine Safe.keep [0, 2, 4, 5] ?_
    simp only [E3, seval]
    have := ih 1 ⟨hlt', hg1⟩ (by omega)
    unfold fh at this
    rw [if_neg (by decide)] at this
    exact this
   ·rw [if_neg h0]
    have hfm : ∀ id, (frM b i).map (a3K id) = frM b i := fun id => b0L id (b3I b) _
    have happ := fun env => c7J (L := [some ⟨2, [zz]⟩, some ⟨2, [.agg [.mu (lid H 2) 0 i none, .mu (lid H 3) 0 i none]]⟩, some ⟨1, frM b i⟩, some ⟨4, (frS b i).map Rv⟩]) hH (i := 2) (n0 := H.length) (wd := 1) (bytes := 24) (len := i) (env := env)
     (y := .sl 1 [muA b i]) (xs := frM b i) (ys := [muA b i]) rfl (e3R b i).symm (a1M H 2) (a1f _ 1 _)
     (fun a ha => by
      simp only [List.flatMap_cons, List.flatMap_nil, List.append_nil, c5Y, List.mem_singleton] at ha
      subst ha; exact a0y (b3I b i)) (fun a ha => by obtain ⟨y, _, rfl⟩ := List.mem_map.1 ha; exact a0y (b3I b y)) (by simp; omega) (by simp; omega)
    simp only [a5E, a7P, b0K, List.map_cons, List.map_nil, hfm, b0L _ a4G, a2K (a0y b0E), d8G H 2 3 _ _ _ _ _ _ (by decide), List.length_cons, List.length_nil, Nat.zero_add, List.set_cons_succ, List.set_cons_zero] at happ
    have hcb : clb (muA b i) = true := c7G.2 (b3I b i)
    have hcc := c5Y b i
    have hcf : (muA b i).fit = true := by unfold muA; split <;> rfl
    refine Safe.rg rfl ?_
    simp only [a7d, happ, hcb, hcc, hcf, d0W, E3, seval]
    have happ2 := fun env => c7J (L := [some ⟨2, [zz]⟩, some ⟨2, [.agg [.mu (lid H 2) 0 (i + 1) none, .mu (lid H 3) 0 i none]]⟩, some ⟨1, frM b i ++ [muA b i]⟩, some ⟨4, (frS b i).map Rv⟩]) hH (i := 3) (n0 := H.length) (wd := 4) (bytes := 64) (len := i) (env := env)
     (y := .sl 4 [.agg [.bool (decide ((Sg (Gr b) i i i).num < 0)), natV (limbs (Sg (Gr b) i i i).num.natAbs), .bool false, natV (limbs (Sg (Gr b) i i i).den)]]) (xs := (frS b i).map Rv) (ys := [Rv (Sg (Gr b) i i i)]) rfl (by rw [List.length_map, frS, c2z]) (a1M H 3) (a1f _ 4 _)
     (fun a ha => by
      simp only [List.flatMap_cons, List.flatMap_nil, List.append_nil] at ha
      exact a0y (a3f (a4G _) a ha)) (fun a ha => by obtain ⟨y, _, rfl⟩ := List.mem_map.1 ha; exact a0y (a4G y)) (by simp; omega) (by simp; omega)
    simp only [a5E, a7P, b0K, List.map_append, List.map_cons, List.map_nil, hfm, a2K (a0y (b3I b i)), b0L _ a4G, a2K (a0y b0E), d8F H 3 2 _ _ _ _ _ _ (by decide), List.length_cons, List.length_nil, Nat.zero_add, List.set_cons_succ, List.set_cons_zero] at happ2
    refine Safe.rg rfl ?_
    simp only [a7c, happ2, a1k, d0V, a0i, E3, seval]
    refine Safe.rg rfl ?_
    simp only [a7b, hiw, E3, seval]
    refine Safe.keep [0, 2, 4, 5] ?_
    simp only [E3, seval]
    have := ih (i + 1) ⟨hlt', hg1⟩ (by omega)
    unfold fh at this
    rw [if_neg (by omega)] at this
    have eM : frM b (i + 1) = frM b i ++ [muA b i] := by simp [frM, List.range_succ]
    have eS : (frS b (i + 1)).map Rv = (frS b i).map Rv ++ [Rv (Sg (Gr b) i i i)] := by simp [frS, e2E]
    rw [eM, eS] at this
    exact this
  ·have hnum : ¬ 0 < (Sg (Gr b) i i i).num := fun h => hpos ((e7M _).1 h)
   have hng : ((Sg (Gr b) i i i).num.sign ≤ 0) = True := eq_true (by have := Int.sign_nonpos_iff (x := (Sg (Gr b) i i i).num); omega)
   have hng1 : gd (Gr b) (i + 1) ≠ i + 1 := fun h => hpos (hgs.1 h)
   have hst := e3M hng1 (b.length - (i + 1))
   rw [show i + 1 + (b.length - (i + 1)) = b.length by omega, hg] at hst
   simp only [hng, E3, seval]
   refine Safe.keep [0, 2, 4, 5, 6, 10, 100] ?_
   simp only [E3, seval]
   refine d0s hlH hGr hl0 hl1 ?_
   rw [a1T]
   refine Safe.cd rfl ?_
   simp only [E3, seval]
   unfold e3l b8i
   rw [hst, decide_eq_false (show ¬ i = b.length by omega)]
   unfold fh
   by_cases h0 : i = 0
   ·rw [if_pos h0, if_pos h0]
    refine Safe.rg rfl ?_
    simp only [a7e, zz, E3, seval]
    refine Safe.rt rfl ?_
    simp only [E3, seval]
    exact ⟨_, rfl⟩
   ·rw [if_neg h0, if_neg h0]
    refine Safe.keep [0, 2, 4, 5] ?_
    simp only [E3, seval]
    refine e3k hH h0 ?_
    refine Safe.rg rfl ?_
    simp only [a7e, E3, seval]
    refine Safe.rt rfl ?_
    simp only [E3, seval]
    exact ⟨_, rfl⟩
 ·have hin : i = b.length := by omega
  subst hin
  have hlt : ((b.length : Int) < (b.length : Int)) = False := eq_false (by omega)
  unfold e3l b8i
  rw [hg, decide_eq_true (show b.length = b.length from rfl)]
  unfold fh
  by_cases h0 : b.length = 0
  ·rw [if_pos h0, if_pos h0]
   refine Safe.rg rfl ?_
   simp only [a5b, hlt, E3, seval]
   refine Safe.cd rfl ?_
   simp only [E3, seval]
   refine Safe.rg rfl ?_
   simp only [a7a, zz, E3, seval]
   refine Safe.rt rfl ?_
   simp only [E3, seval]
   exact ⟨_, rfl⟩
  ·rw [if_neg h0, if_neg h0]
   refine Safe.rg rfl ?_
   simp only [a5b, hlt, E3, seval]
   refine Safe.cd rfl ?_
   simp only [E3, seval]
   refine Safe.keep [0, 2, 4, 5] ?_
   simp only [E3, seval]
   refine e3k hH h0 ?_
   refine Safe.rg rfl ?_
   simp only [a7a, E3, seval]
   refine Safe.rt rfl ?_
   simp only [E3, seval]
   exact ⟨_, rfl⟩
end Go.Abs
namespace Go.Abs
theorem d0g {a M : Nat} {f : Nat → Nat} : ∀ {n : Nat}, c6c a f n ≤ M ↔ a ≤ M ∧ ∀ k, k < n → f k ≤ M
 | 0 => ⟨fun h => ⟨h, fun k hk => by omega⟩, fun h => h.1⟩
 | n + 1 => by
  unfold c6c
  rw [Nat.max_le, d0g (n := n)]
  constructor
  ·rintro ⟨⟨h1, h2⟩, h3⟩
   refine ⟨h1, fun k hk => ?_⟩
   by_cases hkn : k = n
   ·subst hkn; exact h3
   ·exact h2 k (by omega)
  ·rintro ⟨h1, h2⟩
   exact ⟨⟨h1, fun k hk => h2 k (by omega)⟩, h2 n (by omega)⟩
theorem d9n {b : List (List ZI)} {M : Nat} : ∀ {i : Nat}, c3F b i ≤ M ↔ ∀ r, r < i → ∀ k, k < (mg b r).length → blen (zg (mg b r) k).natAbs ≤ M
 | 0 => ⟨fun _ r hr => by omega, fun _ => Nat.zero_le _⟩
 | i + 1 => by
  unfold c3F
  rw [d0g, d9n (i := i)]
  constructor
  ·rintro ⟨h1, h2⟩ r hr
   by_cases hri : r = i
   ·subst hri; exact h2
   ·exact h1 r (by omega)
  ·intro h
   exact ⟨fun r hr => h r (by omega), h i (by omega)⟩
def e6x (bits : Bool) (b : List (List ZI)) (i : Nat) : Prop := ∀ r, r < i → (mg b r).length ≤ 12 ∧ (bits = true → ∀ k, k < (mg b r).length → blen (zg (mg b r) k).natAbs ≤ 256)
theorem d9p {bits : Bool} {b : List (List ZI)} : bigB bits b b.length = false ↔ b.length ≤ 12 ∧ e6x bits b b.length := by
 unfold bigB e6x
 rw [List.take_length, Bool.or_eq_false_iff, Bool.or_eq_false_iff, Bool.and_eq_false_iff, decide_eq_false_iff_not, decide_eq_false_iff_not, List.any_eq_false, Nat.not_lt, Nat.not_lt, d9n]
 constructor
 ·rintro ⟨⟨h1, h2⟩, h3⟩
  refine ⟨h1, fun r hr => ⟨?_, fun hb => ?_⟩⟩
  ·have := h3 b[r] (List.getElem_mem hr)
   rw [a1F hr]
   simpa using this
  ·rcases h2 with h2 | h2
   ·rw [hb] at h2; cases h2
   ·exact h2 r hr
 ·rintro ⟨h1, h2⟩
  refine ⟨⟨h1, ?_⟩, fun v hv => ?_⟩
  ·cases bits with
   | false => exact .inl rfl
   | true => exact .inr fun r hr => (h2 r hr).2 rfl
  ·obtain ⟨r, hr, rfl⟩ := List.getElem_of_mem hv
   have := (h2 r hr).1
   rw [a1F hr] at this
   simpa using this
theorem d6C {bits : Bool} {b : List (List ZI)} (h : ¬ (b.length ≤ 12 ∧ e6x bits b b.length)) : shE bits b = 40 := by
 unfold shE
 rw [if_pos]
 cases hb : bigB bits b b.length with
 | true => rfl
 | false => exact absurd (d9p.1 hb) h
theorem e2m {bits : Bool} {b : List (List ZI)} (h : bigB bits b b.length = false) : (b.length = 0 → shE bits b = 41) ∧ (b.length ≠ 0 → Rect b → shE bits b = 0) ∧ (b.length ≠ 0 → ¬ Rect b → shE bits b = 8) := by
 unfold shE
 rw [if_neg (by rw [h]; simp)]
 exact ⟨fun h0 => by rw [if_pos h0], fun h0 hr => by rw [if_neg h0, if_pos hr], fun h0 hr => by rw [if_neg h0, if_neg hr]⟩
theorem d7R (bits : Bool) (b : List (List ZI)) (e : Nat) (hm : Mok e b) (he : e ≤ 17592186044416) : a0d Pr a9J [matV b, .bool bits] (.int .i64 (shE bits b)) := by
 have hbl := hm.len
 refine a0d.intro c8b c7X (Nat.le_of_ble_eq_true rfl) (.int _ _) fun H hH => ?_
 refine Safe.rg rfl ?_
 simp only [b3g, E3, seval]
 by_cases h12 : b.length ≤ 12
 ·have hbig : ((b.length : Int) > 12) = False := eq_false (by omega)
  refine Safe.rg rfl ?_
  simp only [a6X, hbig, E3, seval]
  refine Safe.cd rfl ?_
  simp only [E3, seval]
  refine Safe.rg rfl ?_
  simp only [b3e, E3, seval]
  refine Safe.lp rfl ?_
  refine Safe.keep [0, 1, 5] ?_
  simp only [E3, seval]
  refine Safe.loopW (fun i : Nat => b.length - i) (fun i => [(0, matV b), (1, .bool bits), (5, .int .i64 i)]) (fun _ => hap H []) (fun i => i ≤ b.length ∧ e6x bits b i) 0 rfl rfl ⟨Nat.zero_le _, fun r hr => by omega⟩ ?_
  rintro i ⟨hi, hgd⟩ ih
  refine Safe.inLoop ?_
  by_cases hlt' : i < b.length
  ·have hlt : ((i : Int) < (b.length : Int)) = True := eq_true (by omega)
   have hiw : IntKind.wrap .i64 ((i : Int) + 1) = ((i + 1 : Nat) : Int) := by rw [a0c] <;> omega
   have hix : ∀ L, idxV L 1 (matV b) (.int .i64 (i : Nat)) = some (.ro (vecV b[i]) 0) := fun L => a1r L b .i64 i hlt'
   have hml : (mg b i).length = b[i].length := by rw [a1F hlt']
   refine Safe.rg rfl ?_
   simp only [a6W, hlt, E3, seval]
   refine Safe.cd rfl ?_
   simp only [E3, seval]
   by_cases hr12 : 12 < b[i].length
   ·have hrl : ((b[i].length : Int) > 12) = True := eq_true (by omega)
    refine Safe.rg rfl ?_
    simp only [a6V, hix, hrl, E3, seval]
    refine Safe.cd rfl ?_
    simp only [E3, seval]
    refine Safe.rg rfl ?_
    simp only [b3d, E3, seval]
    rw [d6C fun h => by have := (h.2 i hlt').1; omega]
    refine Safe.rt rfl ?_
    simp only [E3, seval]
    first | exact ⟨rfl, _, rfl⟩ | exact ⟨_, rfl⟩ | exact ⟨trivial, _, rfl⟩
   ·have hrl : ((b[i].length : Int) > 12) = False := eq_false (by omega)
    refine Safe.rg rfl ?_
    simp only [a6V, hix, hrl, E3, seval]
    refine Safe.cd rfl ?_
    simp only [E3, seval]
    refine Safe.rg rfl ?_
    simp only [b3c, E3, seval]
    refine Safe.lp rfl ?_
    refine Safe.keep [0, 1, 5, 6] ?_
    simp only [E3, seval]
    refine Safe.loopW (fun k : Nat => b[i].length - k) (fun k => [(0, matV b), (1, .bool bits), (5, .int .i64 i), (6, .int .i64 k)]) (fun _ => hap H []) (fun k => k ≤ b[i].length ∧ (bits = true → ∀ t, t < k → blen (zg (mg b i) t).natAbs ≤ 256)) 0 rfl rfl ⟨Nat.zero_le _, fun _ t ht => by omega⟩ ?_
    rintro k ⟨hk, hgk⟩ ihk
    refine Safe.inLoop ?_
    by_cases hkl : k < b[i].length
    ·have hlk : ((k : Int) < (b[i].length : Int)) = True := eq_true (by omega)
     have hkw : IntKind.wrap .i64 ((k : Int) + 1) = ((k + 1 : Nat) : Int) := by have := (hm.get hlt').len; rw [a0c] <;> omega
     have hvx : ∀ L, idxV L 2 (vecV b[i]) (.int .i64 (k : Nat)) = some (.ro b[i][k].av 0) := fun L => a4a L b[i] .i64 k hkl
     have hz : b[i][k].z = zg (mg b i) k := by rw [a1F hlt', c3y hkl]
     refine Safe.rg rfl ?_
     simp only [a6U, hix, hlk, E3, seval]
     refine Safe.cd rfl ?_
     simp only [E3, seval]
     cases bits with
     | false =>
      refine Safe.rg rfl ?_
      simp only [a6T, E3, seval]
      refine Safe.cd rfl ?_
      simp only [E3, seval]
      refine Safe.rg rfl ?_
      simp only [a5J, hkw, E3, seval]
      refine Safe.keep [0, 1, 5, 6] ?_
      simp only [E3, seval]
      exact ihk (k + 1) ⟨hkl, fun h => by cases h⟩ (by omega)
     | true =>
      have hzk := (hm.get hlt').get hkl
      generalize hxe : b[i][k] = x at *
      obtain ⟨n, m⟩ := x
      have hbt := a1X m ⟨hzk.lim, by have := hzk.len; simp only at this; omega⟩
      have hbe : blen (val m) = blen (zg (mg b i) k).natAbs := by rw [← hz]; simp [ZI.z, b4Q]
      rw [hbe] at hbt
      simp only [ZI.av] at hvx
      refine Safe.rg rfl ?_
      simp only [a6T, hix, hvx, E3, seval]
      first | refine (hbt).acall ?_ | refine (hbt).dcall ?_ | refine (hbt).dgcall ?_
      try simp only [E3, seval]
      by_cases hb256 : blen (zg (mg b i) k).natAbs ≤ 256
      ·have hb1 : ((blen (zg (mg b i) k).natAbs : Int) > 256) = False := eq_false (by omega)
       simp only [hb1, E3, seval]
       refine Safe.cd rfl ?_
       simp only [E3, seval]
       refine Safe.rg rfl ?_
       simp only [a5J, hkw, E3, seval]
       refine Safe.keep [0, 1, 5, 6] ?_
       simp only [E3, seval]
       refine ihk (k + 1) ⟨hkl, fun _ t ht => ?_⟩ (by omega)
       by_cases htk : t = k
       ·subst htk; exact hb256
       ·exact hgk rfl t (by omega)
      ·have hb1 : ((blen (zg (mg b i) k).natAbs : Int) > 256) = True := eq_true (by omega)
       simp only [hb1, E3, seval]
       refine Safe.cd rfl ?_
       simp only [E3, seval]
       refine Safe.rg rfl ?_
       simp only [b0X, E3, seval]
       rw [d6C fun h => hb256 ((h.2 i hlt').2 rfl k (by omega))]
       refine Safe.rt rfl ?_
       simp only [E3, seval]
       first | exact ⟨rfl, _, rfl⟩ | exact ⟨_, rfl⟩ | exact ⟨trivial, _, rfl⟩
    ·have hlk : ((k : Int) < (b[i].length : Int)) = False := eq_false (by omega)
     refine Safe.rg rfl ?_
     simp only [a6U, hix, hlk, E3, seval]
     refine Safe.cd rfl ?_
     simp only [E3, seval]
     refine Safe.rg rfl ?_
     simp only [b0W, hiw, E3, seval]
     refine Safe.keep [0, 1, 5] ?_
     simp only [E3, seval]
     refine ih (i + 1) ⟨hlt', fun r hr => ?_⟩ (by omega)
     by_cases hri : r = i
     ·subst hri
      exact ⟨by omega, fun hb t ht => hgk hb t (by omega)⟩
     ·exact hgd r (by omega)
  ·have hin : i = b.length := by omega
   subst hin
   have hbB := d9p.2 ⟨h12, hgd⟩
   obtain ⟨hs1, hs2, hs3⟩ := e2m hbB
   refine Safe.rg rfl ?_
   simp only [a6W, Int.lt_irrefl, E3, seval]
   refine Safe.cd rfl ?_
   simp only [E3, seval]
   by_cases h0 : b.length = 0
   ·have h0' : ((b.length : Int) = 0) = True := eq_true (by omega)
    refine Safe.rg rfl ?_
    simp only [a5I, h0', E3, seval]
    refine Safe.cd rfl ?_
    simp only [E3, seval]
    refine Safe.rg rfl ?_
    simp only [b0V, E3, seval]
    rw [hs1 h0]
    refine Safe.rt rfl ?_
    simp only [E3, seval]
    first | exact ⟨rfl, _, rfl⟩ | exact ⟨_, rfl⟩ | exact ⟨trivial, _, rfl⟩
   ·have h0' : ((b.length : Int) = 0) = False := eq_false (by omega)
    refine Safe.rg rfl ?_
    simp only [a5I, h0', E3, seval]
    refine Safe.cd rfl ?_
    simp only [E3, seval]
    have hx0 : ∀ L, idxV L 1 (matV b) (.int .i64 0) = some (.ro (vecV b[0]) 0) := fun L => a1r L b .i64 0 (by omega)
    have hm0 : (mg b 0).length = b[0].length := by rw [a1F (by omega)]
    refine Safe.rg rfl ?_
    simp only [b0U, E3, seval]
    refine Safe.lp rfl ?_
    refine Safe.keep [0, 7] ?_
    simp only [E3, seval]
    refine Safe.loopW (fun i : Nat => b.length - i) (fun i => [(0, matV b), (7, .int .i64 i)]) (fun _ => hap H []) (fun i => i ≤ b.length ∧ ∀ r, r < i → (mg b r).length = (mg b 0).length) 0 rfl rfl ⟨Nat.zero_le _, fun r hr => by omega⟩ ?_
    rintro i ⟨hi2, hrc⟩ ih2
    refine Safe.inLoop ?_
    by_cases hlt' : i < b.length
    ·have hlt : ((i : Int) < (b.length : Int)) = True := eq_true (by omega)
     have hiw : IntKind.wrap .i64 ((i : Int) + 1) = ((i + 1 : Nat) : Int) := by rw [a0c] <;> omega
     have hix : ∀ L, idxV L 1 (matV b) (.int .i64 (i : Nat)) = some (.ro (vecV b[i]) 0) := fun L => a1r L b .i64 i hlt'
     have hml : (mg b i).length = b[i].length := by rw [a1F hlt']
     refine Safe.rg rfl ?_
     simp only [a5H, hlt, E3, seval]
     refine Safe.cd rfl ?_
     simp only [E3, seval]
     by_cases hll : b[i].length = b[0].length
     ·have hl2 : ((b[i].length : Int) = (b[0].length : Int)) = True := eq_true (by omega)
      refine Safe.rg rfl ?_
      simp only [a5G, hix, hx0, hl2, E3, seval]
      refine Safe.cd rfl ?_
      simp only [E3, seval]
      refine Safe.rg rfl ?_
      simp only [b0S, hiw, E3, seval]
      refine Safe.keep [0, 7] ?_
      simp only [E3, seval]
      refine ih2 (i + 1) ⟨hlt', fun r hr => ?_⟩ (by omega)
      by_cases hri : r = i
      ·subst hri; omega
      ·exact hrc r (by omega)
     ·have hl2 : ((b[i].length : Int) = (b[0].length : Int)) = False := eq_false (by omega)
      refine Safe.rg rfl ?_
      simp only [a5G, hix, hx0, hl2, E3, seval]
      refine Safe.cd rfl ?_
      simp only [E3, seval]
      refine Safe.rg rfl ?_
      simp only [b0T, E3, seval]
      rw [hs3 h0 fun h : Rect b => hll (by have := h i hlt'; omega)]
      refine Safe.rt rfl ?_
      simp only [E3, seval]
      first | exact ⟨rfl, _, rfl⟩ | exact ⟨_, rfl⟩ | exact ⟨trivial, _, rfl⟩
    ·have hin : i = b.length := by omega
     subst hin
     refine Safe.rg rfl ?_
     simp only [a5H, Int.lt_irrefl, E3, seval]
     refine Safe.cd rfl ?_
     simp only [E3, seval]
     refine Safe.rg rfl ?_
     simp only [b0R, E3, seval]
     rw [hs2 h0 (show Rect b from hrc)]
     refine Safe.rt rfl ?_
     simp only [E3, seval]
     first | exact ⟨rfl, _, rfl⟩ | exact ⟨_, rfl⟩ | exact ⟨trivial, _, rfl⟩
 ·have hbig : ((b.length : Int) > 12) = True := eq_true (by omega)
  refine Safe.rg rfl ?_
  simp only [a6X, hbig, E3, seval]
  refine Safe.cd rfl ?_
  simp only [E3, seval]
  refine Safe.rg rfl ?_
  simp only [b3f, E3, seval]
  rw [d6C fun h => h12 h.1]
  refine Safe.rt rfl ?_
  simp only [E3, seval]
  first | exact ⟨rfl, _, rfl⟩ | exact ⟨_, rfl⟩ | exact ⟨trivial, _, rfl⟩
noncomputable def c0a (bits : Bool) (b : List (List ZI)) : AV := .tup [if valE bits b = 0 then b8i b b.length else zz, .int .i64 (valE bits b)]
theorem d0C (bits : Bool) (b : List (List ZI)) : Cl (c0a bits b) := by
 unfold c0a
 split
 ·exact a2S (c6T b _) (.int _ _)
 ·exact a2S b0E (.int _ _)
theorem d0z (b : List (List ZI)) (g : Nat) : ∃ x y, b8i b g = .agg [x, y] := by
 unfold b8i zz
 split <;> exact ⟨_, _, rfl⟩
theorem d7U (bits : Bool) (b : List (List ZI)) (e : Nat) (hm : Mok e b) (he : 4 * GB e + 8 < 17592186043000) : a0d Pr a9K [matV b, .bool bits] (c0a bits b) := by
 have hsh := d7R bits b e hm (by unfold GB at he; omega)
 refine a0d.intro c8d c8c (Nat.le_of_ble_eq_true rfl) (d0C bits b) fun H hH => ?_
 refine Safe.rg rfl ?_
 simp only [b3m, E3, seval]
 refine Safe.rg rfl ?_
 simp only [b3l, E3, seval]
 first | refine (hsh).acall ?_ | refine (hsh).dcall ?_ | refine (hsh).dgcall ?_
 try simp only [E3, seval]
 unfold c0a
 by_cases h0 : shE bits b = 0
 ·obtain ⟨hb, hpos, hr⟩ := e2n h0
  have hmk := e3j b e hm he hr (by have := (d2E hb).1; omega)
  have hv : valE bits b = if gd (Gr b) b.length = b.length then 0 else 50 := by unfold valE; rw [if_neg (fun h => h h0)]
  rw [hv]
  rw [h0]
  unfold e3l at hmk
  obtain ⟨x, y, hxy⟩ := d0z b (gd (Gr b) b.length)
  have hcl := c6T b (gd (Gr b) b.length)
  rw [hxy] at hmk hcl
  refine Safe.rg rfl ?_
  simp only [a6Z, E3, seval]
  refine Safe.cd rfl ?_
  simp only [E3, seval]
  refine Safe.rg rfl ?_
  simp only [b3j, E3, seval]
  first | refine (hmk).acall ?_ | refine (hmk).dcall ?_ | refine (hmk).dgcall ?_
  try simp only [E3, seval]
  by_cases hg : gd (Gr b) b.length = b.length
  ·rw [hg] at hxy
   simp only [if_pos hg, if_true, hxy, decide_eq_true hg]
   try simp only [E3, seval]
   refine Safe.rg rfl ?_
   simp only [a6Y, E3, seval]
   refine Safe.cd rfl ?_
   simp only [E3, seval]
   refine Safe.rg rfl ?_
   simp only [b3h, E3, seval]
   refine Safe.rt rfl ?_
   simp only [E3, seval]
   exact ⟨_, rfl⟩
  ·simp only [if_neg hg, decide_eq_false hg]
   rw [if_neg (show ¬(50 : Int) = 0 by decide)]
   try simp only [zz, E3, seval]
   refine Safe.rg rfl ?_
   simp only [a6Y, E3, seval]
   refine Safe.cd rfl ?_
   simp only [E3, seval]
   refine Safe.rg rfl ?_
   simp only [b3i, E3, seval]
   refine Safe.rt rfl ?_
   simp only [E3, seval]
   exact ⟨_, rfl⟩
 ·have hv : valE bits b = shE bits b := by unfold valE; rw [if_pos h0]
  rw [hv, if_neg h0]
  have hne : (shE bits b = 0) = False := eq_false h0
  refine Safe.rg rfl ?_
  simp only [a6Z, hne, E3, seval]
  refine Safe.cd rfl ?_
  simp only [E3, seval]
  refine Safe.rg rfl ?_
  simp only [b3k, E3, seval]
  refine Safe.rt rfl ?_
  simp only [E3, seval]
  exact ⟨rfl, _, rfl⟩
theorem c6P (b : List (List ZI)) (e : Nat) (hm : Mok e b) (he : 4 * GB e + 8 < 17592186043000) : a0d Pr a5t [matV b] (.int .i64 (valE true b)) := by
 have hof := d7U true b e hm he
 unfold c0a at hof
 obtain ⟨x, y, hxy⟩ : ∃ x y, (if valE true b = 0 then b8i b b.length else zz) = .agg [x, y] := by
  split
  ·exact d0z b _
  ·exact ⟨_, _, rfl⟩
 have hcl := d0C true b
 unfold c0a at hcl
 rw [hxy] at hof hcl
 refine a0d.intro c8f c8e (Nat.le_of_ble_eq_true rfl) (.int _ _) fun H hH => ?_
 refine Safe.rg rfl ?_
 simp only [b3p, E3, seval]
 refine Safe.rg rfl ?_
 simp only [b3o, E3, seval]
 first | refine (hof).acall ?_ | refine (hof).dcall ?_ | refine (hof).dgcall ?_
 try simp only [E3, seval]
 try simp only [E3, seval]
 refine Safe.rg rfl ?_
 simp only [b3n, E3, seval]
 refine Safe.rt rfl ?_
 simp only [E3, seval]
 first | exact ⟨rfl, _, rfl⟩ | exact ⟨_, rfl⟩ | exact ⟨trivial, _, rfl⟩
end Go.Abs
namespace Go.Abs
theorem e1N {y q : Int} {k : Nat} (h1 : (y * q).natAbs < LB ^ k) (h2 : y.natAbs < LB ^ k) (hk : k < 17592186044000) (h0 : y ≠ 0) : a0d Pr b2x [Z (y * q), Z y] (.tup [Z q, .int .i64 0]) := by
 have hf := c8M h1 h2 hk h0
 have hs := a3h (canZ 0) (e5c _)
 rw [a0x] at hs
 refine a0d.intro d0Q d0P (Nat.le_of_ble_eq_true rfl) (a2S (Z_cl _) (.int _ _)) fun H hH => ?_
 refine Safe.rg rfl ?_
 simp only [b5Q, E3, seval]
 refine Safe.rg rfl ?_
 simp only [b5P, E3, seval]
 first | refine (hf).acall ?_ | refine (hf).dcall ?_ | refine (hf).dgcall ?_
 try simp only [E3, seval]
 try simp only [E3, seval]
 refine Safe.rg rfl ?_
 simp only [b5O, E3, seval]
 refine Safe.cd rfl ?_
 simp only [E3, seval]
 refine Safe.rg rfl ?_
 simp only [b5N, E3, seval]
 first | refine (hs).acall ?_ | refine (hs).dcall ?_ | refine (hs).dgcall ?_
 try simp only [E3, seval]
 try simp only [E3, seval]
 refine Safe.cd rfl ?_
 simp only [E3, seval]
 refine Safe.rg rfl ?_
 simp only [b5M, E3, seval]
 refine Safe.rt rfl ?_
 simp only [E3, seval]
 first | exact ⟨rfl, _, rfl⟩ | exact ⟨_, rfl⟩ | exact ⟨trivial, _, rfl⟩
theorem e6L (g : FuncId) (caps : List AV) (v : List (List ZI)) (f : Nat → List ZI) (hv : v.length ≤ 2097152) (hc : ∀ c ∈ caps, Cl c) (hf : ∀ (i : Nat) (h : i < v.length), a0d Pr g (vecV v[i] :: caps) (vecV (f i))) (H : Heap) :
  a0m Pr a2W [matV v, .fn g caps] H fun r' H' => r' = .mu (lid H 0) 0 v.length (some v.length) ∧ H' = hap H [some ⟨1, (mat v.length f).map vecV⟩] := by
 have hcl : ∀ id, caps.all (nref id) = true := fun id => List.all_eq_true.2 fun c h => a0y (hc c h)
 refine a0m.open b1r b1q (Nat.le_of_ble_eq_true rfl) fun hH => ?_
 refine Safe.rg rfl ?_
 simp only [a5V, E3, seval]
 refine Safe.rg rfl ?_
 simp only [a5U, b7I _ _ 1 24 _ _ _ v.length (by decide) (by omega) (by omega), E3, seval]
 refine Safe.rg rfl ?_
 simp only [a5T, E3, seval]
 refine Safe.lp rfl ?_
 refine Safe.keep [1, 5, 11, 12, 13] ?_
 try simp only [E3, seval]
 refine Safe.loopN (v.length) (fun i => [(1, .fn g caps), (5, .mu (lid H 0) 0 i (some v.length)), (11, matV v), (12, .int .i64 v.length), (13, .int .i64 i)]) (fun i => hap H [some ⟨1, (mat i f).map vecV⟩]) rfl rfl (fun i hi ih => ?_) ?_
 ·have hlt : (i : Int) < (v.length : Int) := by omega
  have hiw : IntKind.wrap .i64 ((i : Int) + 1) = ((i + 1 : Nat) : Int) := by rw [a0c] <;> omega
  refine Safe.inLoop ?_
  refine Safe.rg rfl ?_
  simp only [a2z, hlt, E3, seval]
  refine Safe.cd rfl ?_
  simp only [E3, seval]
  refine Safe.rg rfl ?_
  simp only [a5S, a1r _ v _ i (by omega), E3, seval]
  refine Safe.rg rfl ?_
  simp only [a5R, E3, seval]
  first | refine (hf i hi).acall ?_ | refine (hf i hi).dcall ?_ | refine (hf i hi).dgcall ?_
  try simp only [E3, seval]
  rw [b8M (H := H) 0 (a1M H 0) (f := vecV) (mat i f) (f i) (mat (i + 1) f) ?hlen ?hl ?hy ?hl2 ?hc]
  case hlen => first | rfl | (simp only [a0e, a0f, List.length_map, List.length_take]; done) | (simp only [a0e, a0f, List.length_map, List.length_take]; omega)
  case hl => rfl
  case hy => rfl
  case hl2 => first | exact a4n _ _ | exact a4q _ _ | exact a5C _ (by omega) | exact a2e _ _ (by omega)
  case hc => omega
  simp only [hcl, E3, seval]
  refine Safe.rg rfl ?_
  simp only [a5Q, hiw, E3, seval]
  refine Safe.keep [1, 5, 11, 12, 13] ?_
  simp only [E3, seval]
  exact ih
 ·refine Safe.inLoop ?_
  refine Safe.rg rfl ?_
  simp only [a2z, Int.lt_irrefl, E3, seval]
  refine Safe.cd rfl ?_
  simp only [E3, seval]
  refine Safe.rg rfl ?_
  simp only [a5P, E3, seval]
  refine Safe.rt rfl ?_
  simp only [E3, seval]
  try exact ⟨rfl, rfl⟩
theorem e2H (a b : List (List ZI)) (p q : Nat) (ha : Mok p a) (hb : Mok q b) (hp : p + q + 2 < 17592186044416) (hf : Fits a b) (h0 : 0 < a.length) (H : Heap) :
  a0m Pr a9S [matV a, matV b] H fun r' H' => r' = .tup [.mu (lid H 1) 0 a.length (some a.length), .int .i64 0] ∧ H' = hap H [none, some ⟨1, (b9k a b).map vecV⟩] := by
 obtain ⟨hra, hrb, hw⟩ := hf
 have he := e6L a3X [.ro (matV b) 0] a (fun i => d8i (mg a i) b) ha.len (d5P (c4Q b 0)) fun i h => by
  have := e0j a[i] b p q (ha.get h) hb hp hrb (by rw [d8I hra h]; exact hw (by omega))
  rw [a1F h]; exact this
 refine a0m.open c8u c8t (Nat.le_of_ble_eq_true rfl) fun hH => ?_
 refine Safe.rg rfl ?_
 simp only [b3Y, E3, seval]
 refine Safe.freeze 0 (b := ⟨1, [matV b]⟩) hH rfl rfl (a1U (a2g b)) ?_
 simp only [a0K, E3, seval]
 refine Safe.rg rfl ?_
 simp only [b3X, E3, seval]
 first | refine (a1g a p ha hra).acall ?_ | refine (a1g a p ha hra).dcall ?_ | refine (a1g a p ha hra).dgcall ?_
 try simp only [E3, seval]
 refine Safe.rg rfl ?_
 simp only [b3W, E3, seval]
 first | refine (a1g b q hb hrb).acall ?_ | refine (a1g b q hb hrb).dcall ?_ | refine (a1g b q hb hrb).dgcall ?_
 try simp only [E3, seval]
 have h0' : (a.length : Int) > 0 := by omega
 have hw' : (wid a : Int) = (b.length : Int) := by have := hw (by omega); omega
 refine Safe.rg rfl ?_
 simp only [b3V, h0', hw', E3, seval]
 refine Safe.cd rfl ?_
 simp only [E3, seval]
 refine Safe.rg rfl ?_
 simp only [b3U, E3, seval]
 refine (he _).mono ?_
 rintro r' H' ⟨rfl, rfl⟩
 have e1 : lid (hap H [none]) 0 = lid H 1 := by simp [lid, hap]
 rw [e1, a0v]
 simp only [E3, seval]
 refine Safe.rt rfl ?_
 simp only [E3, seval]
 first | exact rfl | exact ⟨rfl, rfl⟩
end Go.Abs
namespace Go.Abs
theorem d0F {n i : Nat} (A : Nat → Nat → Rat) (y : Nat → Rat) (hi : i < n) : ∀ m, det n (a0N A i fun r => if r < m then y r else 0) = sumR (fun t => y t * det n (a0N A i fun r => if r = t then 1 else 0)) m
 | 0 => a6i hi fun r => by simp [a0N]
 | m + 1 => by
  have e : (fun r => if r < m + 1 then y r else 0) = fun r => 1 * (if r < m then y r else 0) + y m * (if r = m then (1 : Rat) else 0) := by
   funext r
   by_cases h : r < m
   ·rw [if_pos (by omega), if_pos h, if_neg (by omega)]; grind
   ·by_cases h2 : r = m
    ·subst h2; rw [if_pos (by omega), if_neg h, if_pos rfl]; grind
    ·rw [if_neg (by omega), if_neg h, if_neg h2]; grind
  rw [e, b2P 1 (y m) _ _ hi, d0F A y hi m]
  show _ = sumR _ m + _
  grind
theorem d1b (f : Nat → Int) : ∀ n, ((a0T f n : Int) : Rat) = sumR (fun i => (f i : Rat)) n
 | 0 => rfl
 | n + 1 => by
  show ((a0T f n + f n : Int) : Rat) = sumR _ n + _
  rw [Rat.intCast_add, d1b f n]
section
variable {g : List (List ZI)} {e : Nat} (hm : Mok e g) (hn : g.length ≤ 64) (hb : ∀ i, (h : i < g.length) → g[i].length = g.length)
include hm hn hb
theorem e4o {i : Nat} (hi : i < g.length) (x : Nat → Int) : a0T (fun t => cofI g t i * a0T (fun j => zg (mg g t) j * x j) g.length) g.length = detI g.length (Bm g) * x i := by
 have h1 := d0F (Bm g) (fun r => ((a0T (fun j => zg (mg g r) j * x j) g.length : Int) : Rat)) hi g.length
 have h2 := e4l (A := Bm g) (fun j => (x j : Rat)) hi g.length (Nat.le_refl _)
 rw [if_pos hi] at h2
 have h3 : det g.length (a0N (Bm g) i fun r => if r < g.length then ((a0T (fun j => zg (mg g r) j * x j) g.length : Int) : Rat) else 0) = det g.length (a0N (Bm g) i fun r => sumR (fun j => Bm g r j * (x j : Rat)) g.length) := by
  refine a1z fun r c hr hc => ?_
  unfold a0N
  split
  ·show (if r < g.length then _ else _) = _
   rw [if_pos hr, d1b]
   exact a1n fun j _ => by rw [Rat.intCast_mul]; rfl
  ·rfl
 rw [h3, h2] at h1
 refine Rat.intCast_inj.1 ?_
 rw [d1b, Rat.intCast_mul, c3Y hm hn, Rat.mul_comm (det _ _), h1]
 refine a1n fun t ht => ?_
 rw [Rat.intCast_mul, e4n g hm hn hb ht hi, Rat.mul_comm]
end
theorem b9b (f : Nat → Int) {s : Nat} : ∀ {n : Nat}, s < n → a0T (fun j => f j * (if j = s then 1 else 0)) n = f s
 | n + 1, h => by
  show a0T _ n + f n * (if n = s then 1 else 0) = f s
  by_cases hs : n = s
  ·subst hs
   rw [if_pos rfl, a1i (g := fun _ => 0) fun j hj => by rw [if_neg (by omega), Int.mul_zero], b8Z]
   omega
  ·rw [if_neg hs, b9b f (by omega)]; omega
def b2p (b : List (List ZI)) (i c : Nat) : Int := a0T (fun t => cofI (a0s b) t i * zg (mg b t) c) b.length
def a1s (b : List (List ZI)) : List (List ZI) := mat b.length fun i => vec (wid b) (b2p b i)
theorem a2Y (b : List (List ZI)) : (a0s b).length = b.length := by unfold a0s; rw [a0f]
theorem b8e (b : List (List ZI)) : ∀ i, (h : i < (a0s b).length) → (a0s b)[i].length = (a0s b).length := fun i h => by
 have hb : i < b.length := by rwa [a2Y] at h
 rw [a2Y, ← a1F h]
 unfold a0s
 rw [b3J hb, a0e]
theorem d7N {b : List (List ZI)} {i j : Nat} (hi : i < b.length) (hj : j < b.length) : zg (mg (a0s b) i) j = dotZ (mg b i) (mg b j) := by
 unfold a0s
 rw [b3J hi, d2W hj]
theorem a9y {b : List (List ZI)} {e : Nat} (hm : Mok e b) : Mok (e + e + 2) (a0s b) := b9C hm.len fun i _ => b8U hm.len fun j _ => a7E (hm.row i) (hm.row j) (Nat.le_refl _)
theorem d8b {b : List (List ZI)} {i c : Nat} (hi : i < b.length) (hc : c < wid b) : zg (mg (a1s b) i) c = b2p b i c := by
 unfold a1s
 rw [b3J hi, d2W hc]
theorem a2O (b : List (List ZI)) : (a1s b).length = b.length := by unfold a1s; rw [a0f]
theorem e6N {b : List (List ZI)} {i : Nat} (hi : i < b.length) : (mg (a1s b) i).length = wid b := by
 unfold a1s
 rw [b3J hi, a0e]
section
variable {b : List (List ZI)} {e : Nat} (hm : Mok e b) (hn : b.length ≤ 64) (hr : Rect b)
include hm hn hr
theorem e3X {i j : Nat} (hi : i < b.length) (hj : j < b.length) : dotZ (mg (a1s b) i) (mg (a1s b) j) = detI b.length (Bm (a0s b)) * cofI (a0s b) j i := by
 have hg := a9y hm
 have hgl := a2Y b
 have e1 : dotZ (mg (a1s b) i) (mg (a1s b) j) = a0T (fun c => a0T (fun s => cofI (a0s b) s i * zg (mg b s) c) b.length * a0T (fun t => cofI (a0s b) t j * zg (mg b t) c) b.length) (wid b) := by
  unfold dotZ
  rw [e6N hi]
  exact a1i fun c hc => by rw [d8b hi hc, d8b hj hc]; rfl
 have e2 : ∀ c, a0T (fun s => cofI (a0s b) s i * zg (mg b s) c) b.length * a0T (fun t => cofI (a0s b) t j * zg (mg b t) c) b.length = a0T (fun s => a0T (fun t => cofI (a0s b) s i * (cofI (a0s b) t j * (zg (mg b t) c * zg (mg b s) c))) b.length) b.length := fun c => by
  rw [← b2B]
  refine a1i fun s _ => ?_
  rw [← a5D]
  refine a1i fun t _ => ?_
  rw [Int.mul_assoc, Int.mul_left_comm (zg (mg b s) c), Int.mul_comm (zg (mg b s) c)]
 rw [e1, a1i fun c _ => e2 c, b9a]
 have e3 : ∀ s, s < b.length → a0T (fun c => a0T (fun t => cofI (a0s b) s i * (cofI (a0s b) t j * (zg (mg b t) c * zg (mg b s) c))) b.length) (wid b) = cofI (a0s b) s i * (detI b.length (Bm (a0s b)) * (if j = s then 1 else 0)) := fun s hs => by
  rw [b9a]
  have h := e4o hg (by rw [hgl]; exact hn) (b8e b) (i := j) (by rw [hgl]; exact hj) (fun r => if r = s then 1 else 0)
  rw [hgl] at h
  rw [← h, ← a5D]
  refine a1i fun t ht => ?_
  rw [b9b (fun r => zg (mg (a0s b) t) r) hs, d7N ht hs]
  rw [a5D, a5D]
  unfold dotZ
  rw [hr t ht]; rfl
 rw [a1i e3]
 have e4 : ∀ s, cofI (a0s b) s i * (detI b.length (Bm (a0s b)) * (if j = s then (1 : Int) else 0)) = detI b.length (Bm (a0s b)) * (cofI (a0s b) s i * (if s = j then 1 else 0)) := fun s => by
  by_cases h : j = s
  ·rw [if_pos h, if_pos h.symm]; rw [Int.mul_one, Int.mul_one, Int.mul_comm]
  ·rw [if_neg h, if_neg (Ne.symm h)]; simp
 rw [a1i fun s _ => e4 s, a5D, b9b (fun s => cofI (a0s b) s i) hj]
theorem e3Y (hm2 : ∃ k, Mok k (a1s b)) {i c : Nat} (hi : i < b.length) (hc : c < wid b) : b2p (a1s b) i c * detI b.length (Bm (a0s b)) = zg (mg b i) c * detI b.length (Bm (a0s (a1s b))) := by
 obtain ⟨k, hk⟩ := hm2
 have hg2 := a9y hk
 have hl2 : (a0s (a1s b)).length = b.length := by rw [a2Y, a2O]
 have h := e4o hg2 (by rw [hl2]; exact hn) (b8e (a1s b)) (i := i) (by rw [hl2]; exact hi) (fun j => zg (mg b j) c)
 rw [hl2] at h
 rw [Int.mul_comm (zg (mg b i) c), ← h]
 unfold b2p
 rw [a2O, ← b2B]
 refine a1i fun t ht => ?_
 rw [d8b ht hc, Int.mul_assoc]
 congr 1
 unfold b2p
 rw [← b2B]
 refine a1i fun j hj => ?_
 rw [d7N (by rw [a2O]; exact ht) (by rw [a2O]; exact hj), e3X hm hn hr ht hj]
 simp only [Int.mul_comm, Int.mul_left_comm, Int.mul_assoc]
end
end Go.Abs
namespace Go.Abs
theorem e9u {b : List (List ZI)} (hn : b.length ≤ 64) : sqE (a0s b) = 0 := by
 have hl := a2Y b
 have hrow : ∀ i, i < b.length → (mg (a0s b) i).length = b.length := fun i hi => by
  unfold a0s
  rw [b3J hi, a0e]
 have hw : b.length ≠ 0 → wid (a0s b) = b.length := fun h0 => hrow 0 (by omega)
 have hw0 : b.length = 0 → wid (a0s b) = 0 := fun h0 => by
  unfold wid
  rw [f2p (by rw [hl, h0]; exact Nat.le_refl _)]; rfl
 have hwl : wid (a0s b) = b.length := by
  by_cases h0 : b.length = 0
  ·rw [hw0 h0, h0]
  ·exact hw h0
 have hr : Rect (a0s b) := fun i hi => by
  rw [hl] at hi
  rw [hrow i hi, hrow 0 (by omega)]
 have he : elE (a0s b) = 0 := by
  rcases c7t (a0s b) with ⟨h, _⟩ | ⟨_, h, _⟩ | ⟨_, _, _, h⟩
  ·exact absurd hr h
  ·exfalso
   rw [hl, hwl] at h
   omega
  ·exact h
 unfold sqE
 rw [if_pos he, if_pos (by rw [hl, hwl])]
theorem e6w {b : List (List ZI)} {e : Nat} (hm : Mok e b) (hn : b.length ≤ 64) : detI b.length (Bm (a0s b)) = dI b b.length := by
 refine Rat.intCast_inj.1 ?_
 rw [c3Y (a9y hm) (by omega), (d2w hm (k := b.length) (by omega)).1, f2w]
 exact a1z fun r c hr hc => by
  show ((zg (mg (a0s b) r) c : Int) : Rat) = Gr b r c
  rw [d7N hr hc]; rfl
section
variable {b : List (List ZI)} {e : Nat} (hm : Mok e b) (hn : b.length ≤ 64) (hK : KB (e + e + 2) + KB (e + e + 2) + e + 100 < 1099511627776) (hr : Rect b) (hD : detI b.length (Bm (a0s b)) ≠ 0)
def kkI (b : List (List ZI)) : Int := sgD (detI b.length (Bm (a0s b))) * (gcdF (detI b.length (Bm (a0s b))) (qF (a0s b)) (b.length * b.length) : Int)
include hm hn hD
theorem c3P : detI b.length (Bm (a0s b)) = (a1B (xF (a0s b)) (b.length * b.length) : Int) * kkI b ∧ (∀ i t, i < b.length → t < b.length → kkI b * outI (xF (a0s b)) (b.length * b.length) (i * b.length + t) = cofI (a0s b) t i) := by
 have hgl := a2Y b
 have h := d4Z (a0s b) (a9y hm) (by rw [hgl]; exact hn) (b8e b) (by rw [hgl]; exact hD)
 rw [hgl] at h
 obtain ⟨h1, h2⟩ := h
 refine ⟨by rw [Int.mul_comm]; exact h1, fun i t hi ht => ?_⟩
 have hlt : i * b.length + t < b.length * b.length := by
  have := Nat.mul_le_mul_right b.length (show i + 1 ≤ b.length by omega)
  rw [Nat.succ_mul] at this
  omega
 have h3 := h2 (i * b.length + t) hlt
 have h4 := f1d (a0s b) (i := i) (k := t) (by rw [hgl]; exact ht)
 rw [hgl] at h4
 rw [h4] at h3
 exact h3.symm
include hK
theorem b7R : (kkI b).natAbs < LB ^ (KB (e + e + 2) + 1) ∧ kkI b ≠ 0 ∧ (a1B (xF (a0s b)) (b.length * b.length) : Int).natAbs < LB ^ (KB (e + e + 2) + 1) ∧ (detI b.length (Bm (a0s b))).natAbs < LB ^ (KB (e + e + 2) + 1) := by
 have hdk := d2t (n := b.length) (a9y hm) hn (by omega)
 obtain ⟨h1, _⟩ := c3P hm hn hD
 have hp := b1R (xF (a0s b)) (b.length * b.length)
 have hk0 : kkI b ≠ 0 := fun h => hD (by rw [h1, h, Int.mul_zero])
 have ha : (detI b.length (Bm (a0s b))).natAbs = a1B (xF (a0s b)) (b.length * b.length) * (kkI b).natAbs := by rw [h1, Int.natAbs_mul]; rfl
 have hkp : 0 < (kkI b).natAbs := Int.natAbs_pos.2 hk0
 refine ⟨?_, hk0, ?_, hdk⟩
 ·have := Nat.le_mul_of_pos_left (kkI b).natAbs hp
  omega
 ·have := Nat.le_mul_of_pos_right (a1B (xF (a0s b)) (b.length * b.length)) hkp
  show a1B (xF (a0s b)) (b.length * b.length) < _
  omega
theorem e2K {i t : Nat} (hi : i < b.length) (ht : t < b.length) : (outI (xF (a0s b)) (b.length * b.length) (i * b.length + t)).natAbs < LB ^ (KB (e + e + 2) + 1) := by
 obtain ⟨_, h2⟩ := c3P hm hn hD
 obtain ⟨_, hk0, _⟩ := b7R hm hn hK hD
 have hc := e8g (a0s b) (a9y hm) (by rw [a2Y]; exact hn) (b8e b) (c := t) (i := i) (by rw [a2Y]; exact hi) (by omega)
 rw [← h2 i t hi ht, Int.natAbs_mul] at hc
 have := Nat.le_mul_of_pos_left (outI (xF (a0s b)) (b.length * b.length) (i * b.length + t)).natAbs (Int.natAbs_pos.2 hk0)
 omega
theorem d7J : Mok (KB (e + e + 2) + 1) (invM (a0s b)) := by
 unfold invM
 rw [a2Y]
 exact b9C hm.len fun i hi => b8U hm.len fun t ht => e2K hm hn hK hD hi ht
omit hm hn hD hK in
theorem e3A {i : Nat} (hi : i < b.length) : mg (invM (a0s b)) i = vec b.length fun t => outI (xF (a0s b)) (b.length * b.length) (i * b.length + t) := by
 unfold invM
 rw [a2Y, b3J hi]
omit hm hn hD hK in
theorem b1S (b : List (List ZI)) : (invM (a0s b)).length = b.length := by unfold invM; rw [a0f, a2Y]
include hr in
omit hm hn hD hK in
theorem e6o : Fits (invM (a0s b)) b := by
 have hrow : ∀ i, i < b.length → (mg (invM (a0s b)) i).length = b.length := fun i hi => by rw [e3A hi, a0e]
 refine ⟨fun i hi => ?_, hr, fun h0 => ?_⟩
 ·rw [b1S] at hi
  rw [hrow i hi, hrow 0 (by omega)]
 ·rw [b1S] at h0
  exact hrow 0 h0
omit hK in
theorem d3b {i : Nat} (hi : i < b.length) : (vec (mg (b9k (invM (a0s b)) b) i).length fun c => kkI b * zg (mg (b9k (invM (a0s b)) b) i) c) = vec (wid b) (b2p b i) := by
 obtain ⟨_, h2⟩ := c3P hm hn hD
 unfold b9k
 rw [b3J (by rw [b1S]; exact hi)]
 unfold d8i
 rw [a0e]
 refine c4z fun c hc => ?_
 rw [d2W hc]
 unfold cmbS b2p
 rw [← a5D]
 refine a1i fun t ht => ?_
 rw [e3A hi, d2W ht, ← h2 i t hi ht, Int.mul_assoc]
end
end Go.Abs
namespace Go.Abs
theorem e6f (H L : Heap) (i : Nat) : lid (hap H L) i = lid H (L.length + i) := by simp [lid, hap, Nat.add_assoc]
def sclR (b : List (List ZI)) (i : Nat) : List (List ZI) := mat b.length fun r => if r < i then vec (wid b) (b2p b r) else mg (b9k (invM (a0s b)) b) r
theorem e5t (b : List (List ZI)) {i : Nat} (hi : i < b.length) : (sclR b i).set i (vec (wid b) (b2p b i)) = sclR b (i + 1) := by
 unfold sclR
 apply List.ext_getElem?
 intro j
 rw [List.getElem?_set]
 by_cases hj : j < b.length
 ·simp only [mat, List.length_map, List.length_range, List.getElem?_map, List.getElem?_range hj, Option.map_some]
  by_cases h : i = j
  ·subst h
   rw [if_pos rfl, if_pos hi, if_pos (by omega)]
  ·rw [if_neg h]
   by_cases h2 : j < i
   ·rw [if_pos h2, if_pos (by omega)]
   ·rw [if_neg h2, if_neg (by omega)]
 ·rw [if_neg (by omega), List.getElem?_eq_none (by rw [a0f]; omega), List.getElem?_eq_none (by rw [a0f]; omega)]
theorem d6F (b : List (List ZI)) (e : Nat) (hm : Mok e b) (hn : b.length ≤ 64) (h0 : 0 < b.length) (hK : KB (e + e + 2) + KB (e + e + 2) + e + 100 < 1099511627776) (hr : Rect b) (hD : detI b.length (Bm (a0s b)) ≠ 0) : a0d Pr a9V [matV b] (.tup [matV (a1s b), Z (detI b.length (Bm (a0s b)))]) := by
 have hgl := a2Y b
 have hgm := a9y hm
 have hsq := e9u hn
 have hg := e9v b e hm (by unfold KB at hK; omega) hr
 have hdet := e9b (a0s b) hgm (by omega) hsq
 have hinv := e9a (a0s b) hgm (by omega) hsq (by rw [hgl]; exact hD)
 rw [hgl] at hdet hinv
 obtain ⟨hkk, _⟩ := c3P hm hn hD
 obtain ⟨hs1, hs2, hs3, hs4⟩ := b7R hm hn hK hD
 have hex := e1N (y := (a1B (xF (a0s b)) (b.length * b.length) : Int)) (q := kkI b) (k := KB (e + e + 2) + 1) (by rw [← hkk]; exact hs4) hs3 (by omega) (fun h => hD (by rw [hkk, h, Int.zero_mul]))
 rw [← hkk] at hex
 have hpr := e2H (invM (a0s b)) b (KB (e + e + 2) + 1) e (d7J hm hn hK hD) hm (by omega) (e6o hr) (by rw [b1S]; exact h0)
 rw [b1S] at hpr
 have hpm : ∀ i, Vok (KB (e + e + 2) + 1 + e + 2) (mg (b9k (invM (a0s b)) b) i) := fun i => by
  refine Mok.row ?_ i
  unfold b9k
  refine b9C (by rw [b1S]; have := hm.len; omega) fun r hr' => ?_
  exact b8U (hm.row 0).len fun c _ => c3Z ((d7J hm hn hK hD).row r) hm c (Nat.le_refl _)
 refine a0d.intro c8D c8B (Nat.le_of_ble_eq_true rfl) (a2S (a2g _) (Z_cl _)) fun H hH => ?_
 refine Safe.rg rfl ?_
 simp only [b4z, E3, seval]
 refine Safe.rg rfl ?_
 simp only [b4y, E3, seval]
 first | refine (hg).acall ?_ | refine (hg).dcall ?_ | refine (hg).dgcall ?_
 try simp only [E3, seval]
 try simp only [E3, seval]
 refine Safe.rg rfl ?_
 simp only [b4x, E3, seval]
 first | refine (hdet).acall ?_ | refine (hdet).dcall ?_ | refine (hdet).dgcall ?_
 try simp only [E3, seval]
 try simp only [E3, seval]
 refine Safe.rg rfl ?_
 simp only [b4w, E3, seval]
 first | refine (hinv).acall ?_ | refine (hinv).dcall ?_ | refine (hinv).dgcall ?_
 try simp only [E3, seval]
 try simp only [E3, seval]
 refine Safe.rg rfl ?_
 simp only [b4v, E3, seval]
 first | refine (hex).acall ?_ | refine (hex).dcall ?_ | refine (hex).dgcall ?_
 try simp only [E3, seval]
 try simp only [E3, seval]
 refine Safe.rg rfl ?_
 simp only [b4u, E3, seval]
 refine (hpr _).mono ?_
 rintro r' H' ⟨rfl, rfl⟩
 rw [a0v]
 simp only [e6f, List.length_cons, List.length_nil, Nat.reduceAdd, List.cons_append, List.nil_append]
 simp only [E3, seval]
 refine Safe.rg rfl ?_
 simp only [b4t, E3, seval]
 refine Safe.lp rfl ?_
 refine Safe.keep [0, 3, 6, 11, 13, 45, 46] ?_
 simp only [E3, seval]
 have hp0 : (b9k (invM (a0s b)) b).map vecV = (sclR b 0).map vecV := by
  unfold sclR b9k
  rw [b1S]
  refine congrArg (List.map vecV) (d4O fun i hi => ?_)
  rw [if_neg (by omega), b3J hi]
 rw [hp0]
 refine Safe.loopN b.length (fun i => [(0, matV b), (3, .loc (lid H 0) 0 0), (6, .loc (lid H 1) 0 0), (11, .loc (lid H 3) 0 0), (13, .mu (lid H 5) 0 b.length (some b.length)), (45, .int .i64 b.length), (46, .int .i64 i)])
  (fun i => hap H [some ⟨2, [.agg [.bool false, .nil]]⟩, some ⟨2, [Z (detI b.length (Bm (a0s b)))]⟩, some ⟨2, [Z (a1B (xF (a0s b)) (b.length * b.length) : Int)]⟩, some ⟨2, [Z (kkI b)]⟩, none, some ⟨1, (sclR b i).map vecV⟩]) rfl rfl (fun i hi ih => ?_) ?_
 ·have hlt : ((i : Int) < (b.length : Int)) = True := eq_true (by omega)
  have hiw : IntKind.wrap .i64 ((i : Int) + 1) = ((i + 1 : Nat) : Int) := by rw [a0c] <;> omega
  have htm := d7v (canZ (kkI b)) (mg (b9k (invM (a0s b)) b) i) (KB (e + e + 2) + 1) (KB (e + e + 2) + 1 + e + 2) (a0q hs1) (hpm i) (by omega)
  rw [a0x, a2p, d3b hm hn hD hi] at htm
  have hat : ∀ L, atV (hap H ([some ⟨2, [.agg [.bool false, .nil]]⟩, some ⟨2, [Z (detI b.length (Bm (a0s b)))]⟩, some ⟨2, [Z (a1B (xF (a0s b)) (b.length * b.length) : Int)]⟩, some ⟨2, [Z (kkI b)]⟩, none, some ⟨1, (sclR b i).map vecV⟩] ++ L)) (.loc (lid H 5) i 0) = some [vecV (mg (b9k (invM (a0s b)) b) i)] := fun L => by
   rw [a4r H _ 5 i rfl (by rw [List.length_map, sclR, a0f]; exact hi)]
   rw [List.getD_eq_getElem?_getD, List.getElem?_map, List.getElem?_eq_getElem (by rw [sclR, a0f]; exact hi)]
   unfold sclR
   rw [d1Q, if_neg (by omega)]; rfl
  have hat0 := hat []
  rw [List.append_nil] at hat0
  have hix : idxV (hap H [some ⟨2, [.agg [.bool false, .nil]]⟩, some ⟨2, [Z (detI b.length (Bm (a0s b)))]⟩, some ⟨2, [Z (a1B (xF (a0s b)) (b.length * b.length) : Int)]⟩, some ⟨2, [Z (kkI b)]⟩, none, some ⟨1, (sclR b i).map vecV⟩]) 1 (.mu (lid H 5) 0 b.length (some b.length)) (.int .i64 (i : Nat)) = some (.loc (lid H 5) i 0) := by
   rw [b1p H _ 1 5 0 b.length (some b.length) .i64 i rfl rfl hi, Nat.zero_add]
  refine Safe.inLoop ?_
  refine Safe.rg rfl ?_
  simp only [a7z, hlt, E3, seval]
  refine Safe.cd rfl ?_
  simp only [E3, seval]
  refine Safe.rg rfl ?_
  simp only [b4s, E3, seval]
  refine Safe.rg rfl ?_
  simp only [b4r, hix, hat0, E3, seval]
  first | refine (htm).acall ?_ | refine (htm).dcall ?_ | refine (htm).dgcall ?_
  try simp only [E3, seval]
  have hst : ∀ env, a2s 1 (.loc (lid H 5) i 0) (vecV (vec (wid b) (b2p b i))) env (hap H [some ⟨2, [.agg [.bool false, .nil]]⟩, some ⟨2, [Z (detI b.length (Bm (a0s b)))]⟩, some ⟨2, [Z (a1B (xF (a0s b)) (b.length * b.length) : Int)]⟩, some ⟨2, [Z (kkI b)]⟩, none, some ⟨1, (sclR b i).map vecV⟩]) =
    some (.top, env, hap H [some ⟨2, [.agg [.bool false, .nil]]⟩, some ⟨2, [Z (detI b.length (Bm (a0s b)))]⟩, some ⟨2, [Z (a1B (xF (a0s b)) (b.length * b.length) : Int)]⟩, some ⟨2, [Z (kkI b)]⟩, none, some ⟨1, (sclR b (i + 1)).map vecV⟩]) := fun env => by
   rw [a7O env H _ 1 5 i 0 (vecV (vec (wid b) (b2p b i))) rfl (by rw [List.length_map, sclR, a0f]; exact hi) rfl rfl (Nat.le_refl 1)]
   rw [← e5t b hi, List.map_set]
   rfl
  try simp only [hix, hst, E3, seval]
  refine Safe.rg rfl ?_
  simp only [b2o, hiw, E3, seval]
  refine Safe.keep [0, 3, 6, 11, 13, 45, 46] ?_
  simp only [E3, seval]
  exact ih
 ·refine Safe.inLoop ?_
  refine Safe.rg rfl ?_
  simp only [a7z, Int.lt_irrefl, E3, seval]
  refine Safe.cd rfl ?_
  simp only [E3, seval]
  have hfin : (sclR b b.length).map vecV = (a1s b).map vecV := by
   unfold sclR a1s
   refine congrArg (List.map vecV) (d4O fun i hi => ?_)
   rw [if_pos hi]
  rw [hfin]
  refine Safe.freeze 5 hH rfl rfl (a1t 1 vecV _ a0g) ?_
  refine Safe.keep [3, 6, 13] ?_
  simp only [a4u H _ 0 0 (show 0 ≠ 5 by decide), a4u H _ 0 0 (show 1 ≠ 5 by decide), a9z 5 1 vecV (a1s b) b.length (some b.length) (a2O b).symm, E3, seval]
  refine Safe.rg rfl ?_
  simp only [b2n, E3, seval]
  refine Safe.rt rfl ?_
  simp only [E3, seval]
  first | exact ⟨rfl, _, rfl⟩ | exact ⟨_, rfl⟩ | exact ⟨trivial, _, rfl⟩
theorem e1U {b : List (List ZI)} {e : Nat} (hm : Mok e b) (h : valE true b = 0) : 0 < b.length ∧ b.length ≤ 12 ∧ Rect b ∧ 0 < detI b.length (Bm (a0s b)) ∧ wid b ≤ 12 := by
 unfold valE at h
 split at h
 ·rename_i h1; exact absurd h h1
 ·rename_i h1
  have h1 : shE true b = 0 := by simpa using h1
  obtain ⟨hb, hpos, hr⟩ := e2n h1
  obtain ⟨h12, hc⟩ := d2E hb
  split at h
  ·rename_i hg
   refine ⟨hpos, h12, hr, ?_, ?_⟩
   ·rw [e6w hm (by omega)]
    exact e6Q hm (by omega) hg (Nat.le_refl _)
   ·unfold wid
    rw [a1F hpos]
    exact hc _ (List.getElem_mem hpos)
  ·exact absurd h (by decide)
noncomputable def sclA (b : List (List ZI)) : AV := if valE true b = 0 then .tup [matV (a1s b), Z (detI b.length (Bm (a0s b))), .int .i64 0] else .tup [matV [], Z 0, .int .i64 (valE true b)]
theorem e8N (b : List (List ZI)) : Cl (sclA b) := by
 unfold sclA
 split <;> exact cl3m _ _ _
theorem c2B (b : List (List ZI)) (e : Nat) (hm : Mok e b) (hK : KB (e + e + 2) + KB (e + e + 2) + e + 100 < 1099511627776) (he : GB e + GB e + 8 < 17592186044000) : a0d Pr a5w [matV b] (sclA b) := by
 have hv := c8O b e hm he
 have hcl := e8N b
 unfold sclA at hcl ⊢
 by_cases h0 : valE true b = 0
 ·rw [if_pos h0] at hcl ⊢
  rw [h0] at hv
  obtain ⟨hpos, h12, hr, hD, _⟩ := e1U hm h0
  have hs := d6F b e hm (by omega) hpos hK hr (by omega)
  refine a0d.intro b4E b4D (Nat.le_of_ble_eq_true rfl) hcl fun H hH => ?_
  refine Safe.rg rfl ?_
  simp only [a7C, E3, seval]
  refine Safe.rg rfl ?_
  simp only [a7B, E3, seval]
  first | refine (hv).acall ?_ | refine (hv).dcall ?_ | refine (hv).dgcall ?_
  try simp only [E3, seval]
  refine Safe.rg rfl ?_
  simp only [a7A, E3, seval]
  refine Safe.cd rfl ?_
  simp only [E3, seval]
  refine Safe.rg rfl ?_
  simp only [b4B, E3, seval]
  first | refine (hs).acall ?_ | refine (hs).dcall ?_ | refine (hs).dgcall ?_
  try simp only [E3, seval]
  try simp only [E3, seval]
  refine Safe.rg rfl ?_
  simp only [b4A, E3, seval]
  refine Safe.rt rfl ?_
  simp only [E3, seval]
  first | exact ⟨rfl, _, rfl⟩ | exact ⟨_, rfl⟩ | exact ⟨trivial, _, rfl⟩
 ·rw [if_neg h0] at hcl ⊢
  have hne : (valE true b = 0) = False := eq_false h0
  refine a0d.introL b4E b4D (Nat.le_of_ble_eq_true rfl) hcl fun H hH => ?_
  refine Safe.rg rfl ?_
  simp only [a7C, E3, seval]
  refine Safe.rg rfl ?_
  simp only [a7B, E3, seval]
  first | refine (hv).acall ?_ | refine (hv).dcall ?_ | refine (hv).dgcall ?_
  try simp only [E3, seval]
  refine Safe.rg rfl ?_
  simp only [a7A, hne, E3, seval]
  refine Safe.cd rfl ?_
  simp only [E3, seval]
  refine Safe.rg rfl ?_
  simp only [b4C, E3, seval]
  refine Safe.rt rfl ?_
  simp only [one3, E3, seval]
  exact ⟨f2u _, _, rfl⟩
end Go.Abs
namespace Go.Abs
def Rd (F : Fence) : Prop := F = Fence.wide ∨ ∃ l, F = Fence.wide.inRound l
theorem Rd.fn {F : Fence} (h : Rd F) (f : FuncId) : F.fn f := by
 rcases h with rfl | ⟨l, rfl⟩ <;> trivial
theorem Rd.depth {F : Fence} (h : Rd F) : F.depth = none := by
 rcases h with rfl | ⟨l, rfl⟩ <;> rfl
theorem Rd.calls {F : Fence} (hF : Rd F) {n : Nat} {P : Program} {f : FuncId} {args : Array Value} {w : World} {R : Ending → World → Prop} (h : Calls P f args w R) : CallsIn F n P f args w R := by
 rcases hF with rfl | ⟨l, rfl⟩
 ·exact callsIn_wide.2 h
 ·exact CallsIn.inRound l (callsIn_wide.2 h)
theorem Rd.rows {F : Fence} (hF : Rd F) {n : Nat} {P : Program} {row : String} {args : Array Value} {w : World} {R : Value → World → Prop} (h : Rows P row args w R) : RowsIn F n P row args w R := by
 have : RowsIn Fence.wide n P row args w R := fun c cs _ => let ⟨v, w', r, s⟩ := h c cs; ⟨v, w', r, stepsIn_wide.2 s⟩
 rcases hF with rfl | ⟨l, rfl⟩
 ·exact this
 ·exact this
theorem f2o {F : Fence} (hF : Rd F) {P : Program} {o : Oper} {tmps : Array Value} {ds : List Deferred} {w : World} {next : Act → World → Prop} (h : o.wp P ⟨tmps, []⟩ w next fun _ _ _ => False) (hn : ∀ a w, next a w → a.defers = []) (hd : ∀ c, o.op ≠ .defer c)
  {next' : Act → World → Prop} {Q : Exit → Act → World → Prop} {n : Nat} (hk : ∀ tmps' w', next ⟨tmps', []⟩ w' → next' ⟨tmps', ds⟩ w') : o.wpIn F n P ⟨tmps, ds⟩ w next' Q := by
 refine ⟨fun f _ => hF.fn f, ?_⟩
 rw [Oper.semAt_eq _ _ _ hd]
 unfold Oper.wp at h
 have he : (Act.mk tmps ds).eval = (Act.mk tmps []).eval := rfl
 rw [he]
 have put : ∀ (d : Option Tmp) (v : Value), (Act.mk tmps ds).put d v = ⟨((Act.mk tmps []).put d v).tmps, ds⟩ := fun d v => by cases d <;> rfl
 have put0 : ∀ (d : Option Tmp) (v : Value), (Act.mk tmps []).put d v = ⟨((Act.mk tmps []).put d v).tmps, []⟩ := fun d v => by cases d <;> rfl
 generalize (execOp (Act.mk tmps []).eval o).run P w = r at h ⊢
 cases r with
 | ok x w' =>
  cases x with
  | value v =>
   simp only [Oper.upon] at h
   rw [put0] at h
   simp only [Oper.uponIn]
   rw [put]
   exact hk _ _ h
  | skip =>
   simp only [Oper.upon] at h
   rw [put0] at h
   simp only [Oper.uponIn]
   rw [put]
   exact hk _ _ h
  | enter f args =>
   simp only [Oper.upon] at h
   refine ⟨fun hs => (by rw [hF.depth] at hs; cases hs), hF.calls (h.mono ?_)⟩
   rintro e w'' hq
   cases e with
   | returned v =>
    simp only at hq ⊢
    rw [put0] at hq
    rw [put]
    exact hk _ _ hq
   | panicked chain => exact hq.elim
   | outgrown => obtain ⟨_, _, hf⟩ := hq; exact hf.elim
  | row row args =>
   simp only [Oper.upon] at h
   refine ⟨fun hs => (by rw [hF.depth] at hs; cases hs), hF.rows (h.mono ?_)⟩
   rintro v w'' hq
   rw [put0] at hq
   rw [put]
   exact hk _ _ hq
  | defer d =>
   simp only [Oper.upon] at h
   have := hn _ _ h
   cases hod : o.dst <;> simp [Act.put, hod] at this
  | _ => exact absurd h (by simp [Oper.upon])
 | halt x w' =>
  cases x with
  | panic v => exact absurd h (by simp [Oper.upon])
  | _ => exact absurd h (by simp [Oper.upon])
theorem f0l {P : Program} {m : Bool} {op : Op} {ao : AOp} (h : caop P m op = some ao) : ∀ c, op ≠ .defer c := fun c e => by
 subst e
 simp [caop, a6q, ceff] at h
def KcD (n0 nt : Nat) (E : Emb) (K : Env → Heap → Prop) (ds : List Deferred) (a : Act) (w : World) : Prop := a.defers = ds ∧ Kc n0 nt E K ⟨a.tmps, []⟩ w
theorem c4c {F : Fence} (hF : Rd F) {P : Program} {nt n n0 : Nat} {E : Emb} {env : Env} {tmps : Array Value} {ds : List Deferred} {o : Oper} {mutable : Bool} {ao : AOp} (hc : caop P mutable o.op = some ao) (hd : d8e nt o.dst = true) (hsz : tmps.size = nt)
  (hok : HOk E) (he : a0B E env tmps) (hn : n0 ≤ E.H.length) {K : Env → Heap → Prop} (h : a3W P n0 ao o.dst K env E.H) {Q : Exit → Act → World → Prop} {next : Act → World → Prop} (hnext : ∀ a w, KcD n0 nt E K ds a w → next a w) :
  o.wpIn F n P ⟨tmps, ds⟩ E.w next Q :=
 f2o hF (a9H hc hd hsz hok he hn h (next := Kc n0 nt E K) fun _ _ h => h) (fun a w h => by obtain ⟨φ, env', H', q1, q2, q3, q4, _⟩ := h; exact q4) (f0l hc) fun tmps' w' h => hnext _ _ ⟨rfl, h⟩
section
variable {F : Fence} {P : Program} {n nt : Nat}
theorem e4N (hF : Rd F) {mu : Nat → Nat → Bool} {rid : Nat} {ops : Array Oper} {n0 : Nat} {K : Env → Heap → Prop} {Q : Exit → Act → World → Prop} {E0 : Emb} {ds : List Deferred} (hQ : ∀ a w, KcD n0 nt E0 K ds a w → Q .normal a w) :
  ∀ (l0 : List Oper) (k : Nat) (l : List AIns), a2C P mu nt rid ops k l0 = some l → ∀ (E : Emb) (env : Env) (tmps : Array Value), tmps.size = nt → HOk E → a0B E env tmps → n0 ≤ E.H.length → Ext (· < n0) E0 E →
   aops P n0 l K env E.H → wpListIn F n P ops Q l0 ⟨tmps, ds⟩ E.w
 | [], k, l, hl, E, env, tmps, hsz, hok, he, hn, hx, h => by
  simp [a2C] at hl; subst hl
  exact hQ _ _ ⟨rfl, E.φ, env, E.H, h, hok, he, rfl, hsz, hn, hx⟩
 | o :: l0, k, l, hl, E, env, tmps, hsz, hok, he, hn, hx, h => by
  simp only [a2C] at hl
  split at hl
  ·rename_i i l' hi hl'
   cases hl
   unfold cins at hi
   split at hi
   ·rename_i hd
    split at hi
    ·rename_i g a hg ha
     cases hi
     have next : ∀ a w, KcD n0 nt E (aops P n0 l' K) ds a w → wpListIn F n P ops Q l0 a w := by
      intro a w ⟨hds, φ, env', H', q1, q2, q3, q4, q5, q6, q7⟩
      have : a = ⟨a.tmps, ds⟩ := by cases a; simp at hds; simp [hds]
      rw [this]
      exact e4N hF hQ l0 (k + 1) l' hl' ⟨φ, H', w⟩ env' a.tmps q5 q2 q3 q6 (hx.trans q7) q1
     have hw := b5U (o := o) he hg
     simp only [aops] at h
     unfold wpListIn
     split at h
     ·simp only at hw
      rw [if_pos hw]
      exact c4c hF ha hd hsz hok he hn h next
     ·rename_i t want _
      simp only at hw
      simp only [b0b] at h
      have pass : Region.wanted o (yielded ops tmps) = false → aops P n0 l' K (put o.dst (.tup []) env) E.H → wpListIn F n P ops Q (o :: l0) ⟨tmps, ds⟩ E.w := by
       intro hf h
       unfold wpListIn
       rw [if_neg (by rw [hf]; simp)]
       have pp : ((Act.mk tmps ds).put o.dst undef) = ⟨((Act.mk tmps []).put o.dst undef).tmps, ds⟩ := by cases o.dst <;> rfl
       rw [pp]
       refine ⟨fun f _ => hF.fn f, next _ _ ⟨rfl, E.φ, _, E.H, h, hok, ?_, rfl, ?_, hn, Ext.refl _ _⟩⟩
       ·subst hsz; exact a4d he hd b6b
       ·rw [b7x]; exact hsz
      split at h
      ·rename_i c hc
       have hw' := hw.1 c hc
       split at h
       ·rename_i hcw
        rw [if_pos (by rw [hw', hcw]; simp)]
        exact c4c hF ha hd hsz hok he hn h next
       ·rename_i hcw
        have := pass (by rw [hw']; simpa using hcw) h
        unfold wpListIn at this
        exact this
      ·rename_i hc
       have hw' := hw.2 hc
       rw [if_neg (by cases want <;> simp)] at h
       have := pass hw' h
       unfold wpListIn at this
       exact this
      ·exact h.elim
    ·simp at hi
   ·simp at hi
  ·simp at hl
theorem e2D (hF : Rd F) {mu : Nat → Nat → Bool} {id : Nat} {ops : Array Oper} {l : List AIns} (hl : a2C P mu nt id ops 0 ops.toList = some l) {n0 : Nat} {E0 : Emb} {K K' : Env → Heap → Prop} {ds : List Deferred} {a : Act} {w : World} (hk : KcD n0 nt E0 K ds a w) (h : ∀ env H, K env H → aops P n0 l K' env H) {Q : Exit → Act → World → Prop}
  (hQ : ∀ a w, KcD n0 nt E0 K' ds a w → Q .normal a w) : (Code.region id ops false).wpIn F n P Q a w := by
 obtain ⟨hds, φ, env, H, q1, q2, q3, q4, q5, q6, q7⟩ := hk
 have : a = ⟨a.tmps, ds⟩ := by cases a; simp at hds; simp [hds]
 rw [this]
 exact wpIn_region_list (e4N hF (E0 := E0) hQ ops.toList 0 l hl ⟨φ, H, w⟩ env a.tmps q5 q2 q3 q6 q7 (h env H q1))
end
end Go.Abs
namespace Go.Abs
open Go.RowKit Go.Shelf Go.Proofs
attribute [local go_sem] Oper.semAt_some
def d2K (K : Nat → Prop) (X Y : World) : Prop := ∀ k, K k → Y.heap[k]? = X.heap[k]?
theorem d2K.refl (K : Nat → Prop) (X : World) : d2K K X X := fun _ _ => rfl
theorem d2K.trans {K : Nat → Prop} {X Y Z : World} (h : d2K K X Y) (k : d2K K Y Z) : d2K K X Z := fun i hi => (k i hi).trans (h i hi)
theorem d2K.cell {K : Nat → Prop} {X Y : World} (h : d2K K X Y) {p : Addr} (hk : K p.block) : Y.cell? p = X.cell? p := by
 unfold World.cell?
 rw [h _ hk]
set_option maxRecDepth 100000 in
set_option maxHeartbeats 2000000 in
theorem e6M (F : Fence) (n : Nat) (hf : F.fn a0w) (hro : F.round = none) (hn : 1 ≤ n) (l Bs q b off len cap : Nat) (vs : Nat → Value) (hreach : len * 24 ≤ 140737488351232) (K : Nat → Prop) (hb : K b) (J : Nat → World → Prop) (W : World)
  (hK : ∀ k W', J k W' → d2K K W W')
  (hY : ∀ (k : Nat) (W' : World), J k W' → k < len → YieldAt F (n - 1) Pr l #[.int .i64 (k : Int), vs k] W' fun e W'' => e = .returned (.bool true) ∧ J (k + 1) W'')
  (hBs : W.cell? ⟨Bs, q, none⟩ = some (.slice (some ⟨b, off, none⟩) len cap)) (hc : ∀ j, j < len → W.cell? ⟨b, off + j, none⟩ = some (vs j)) (h0 : J 0 W) :
  CallsIn F n Pr a0w #[.func (.yield l) #[] #[], .pointer (some ⟨Bs, q, none⟩)] W fun e W' => (∃ v, e = .returned v) ∧ J len W' := by
 refine callsIn_of_wp Try.func28 rfl hf ?_ hro
 simp only [Try.ntmps28, List.size_toArray, List.length_cons, List.length_nil, Nat.reduceAdd, Nat.reduceSub, Array.replicate_succ, Array.replicate_zero, List.push_toArray, List.append_toArray, List.nil_append, List.cons_append]
 gi_wp2
 gi_loopw [7] (fun i wr => ∃ k : Nat, k ≤ len ∧ i = .int .i64 k ∧ J k wr) (fun i _ => len - (intOf i).toNat)
 case atStart => exact ⟨0, Nat.zero_le _, rfl, h0⟩
 case round =>
  obtain ⟨k, hk, rfl, hJs⟩ := hrel
  have hcx : k < len → wr.cell? ⟨b, off + k, none⟩ = some (vs k) := fun h => ((hK k wr hJs).cell (p := ⟨b, off + k, none⟩) hb).trans (hc k h)
  by_cases hlt : k < len
  ·obtain ⟨fn, tmps, assign, body, hy, hR⟩ := hY k wr hJs hlt
   have hcx' := hcx hlt
   gi_wp2
   refine hR.mono ?_
   rintro e W3 ⟨rfl, hJ3⟩
   gi_wp2
   go_roundw
   case rel => exact ⟨k + 1, by omega, by simp, hJ3⟩
   case measure => simp [intOf]; omega
  ·obtain rfl : k = len := by omega
   gi_wp2
   go_end0
   exact ⟨⟨_, rfl⟩, hJs⟩
end Go.Abs
namespace Go.Abs
open Go.RowKit
theorem e5x {E : Emb} {w : World} (hc : ∀ (p : Addr) v, E.w.cell? p = some v → w.cell? p = some v) (hs : ∀ (id : Nat) blk b, E.H[id]? = some (some blk) → E.φ id = some b → a1w w b = a1w E.w b) {v : Value} {a : AV} (hr : Rep E v a) : Rep ⟨E.φ, E.H, w⟩ v a := by
 induction hr with
 | top v => exact .top v
 | int k n => exact .int k n
 | bool b => exact .bool b
 | str s => exact .str s
 | nil => exact .nil
 | lit v => exact .lit v
 | sl base cap wd xs vs b o hcap hpos hw hcl hbase hlen hcell hrep ih => exact .sl base cap wd xs vs b o hcap hpos hw hcl hbase hlen (fun k v hk => ⟨hc _ _ (hcell k v hk).1, (hcell k v hk).2⟩) ih
 | mu blk id off len oc b q cap hlive hb hq hlen hsz hoc => exact .mu blk id off len oc b q cap hlive hb hq hlen (by rw [show a1w (Emb.mk E.φ E.H w).w b = a1w E.w b from hs id blk b hlive hb]; exact hsz) hoc
 | mu0 blk id off oc hlive hb hoc => exact .mu0 blk id off oc hlive hb hoc
 | loc blk id i off b hlive hb => exact .loc blk id i off b hlive hb
 | mp blk k id b hlive hb hw => exact .mp blk k id b hlive hb hw
 | dead v a id hr hd h1 => exact .dead v a id hr hd h1
 | ro x off b o vs hb hpos hcl hlen hcell hrep ih => exact .ro x off b o vs hb hpos hcl hlen (fun k v hk => ⟨hc _ _ (hcell k v hk).1, (hcell k v hk).2⟩) ih
 | agg vs cs hlen h1 hrep ih => exact .agg vs cs hlen h1 ih
 | tup vs cs hlen hrep ih => exact .tup vs cs hlen ih
 | fn f vs cs hlen hrep ih => exact .fn f vs cs hlen ih
 | bfn f vs cs hlen hrep ih => exact .bfn f vs cs hlen ih
section
variable {E : Emb} {l : Nat} {o : Obj}
theorem a7Q (o' : Obj) (hl : E.w.heap[l]? = some o) (ho : o.isCells = false) (hm : ¬ E.Mut l) {v : Value} {a : AV} (hr : Rep E v a) : Rep ⟨E.φ, E.H, E.w.putObj l o'⟩ v a := by
 refine e5x (fun p v h => cell_kept h (grownBy_putObj' _ _ _) fun r e => by cases e; exact ⟨o, hl, ho⟩) (fun id blk b h1 h2 => ?_) hr
 have : b ≠ l := fun e => hm ⟨id, blk, h1, e ▸ h2⟩
 simp only [a1w, World.putObj_heap_other this]
theorem b2C (o' : Obj) (hl : E.w.heap[l]? = some o) (ho : o.isCells = false) (hm : ¬ E.Mut l) (hok : HOk E) : HOk ⟨E.φ, E.H, E.w.putObj l o'⟩ := by
 have hne : ∀ (id : Nat) blk b, E.H[id]? = some (some blk) → E.φ id = some b → (E.w.putObj l o').heap[b]? = E.w.heap[b]? := fun id blk b h1 h2 => World.putObj_heap_other fun e => hm ⟨id, blk, h1, e ▸ h2⟩
 refine ⟨fun id blk b h1 h2 h3 => ?_, hok.wids, fun id blk b h1 h2 => ?_, hok.emp, hok.inj⟩
 ·rcases hok.obj id blk b h1 h2 h3 with ⟨L, q1, q2⟩ | ⟨mid, n, seen, m, q1, q2, q3, q4⟩
  ·exact .inl ⟨L, q1, (hne id blk b h1 h3).trans q2⟩
  ·exact .inr ⟨mid, n, seen, m, q1, (hne id blk b h1 h3).trans q2, q3, q4⟩
 ·obtain ⟨c, e, r⟩ := hok.row id blk b h1 h2
  exact ⟨c, e, fun hw => (hne id blk b h1 h2).trans (r.heap hw), r.fits, r.one, fun k v a hk ha => a7Q o' hl ho hm (r.rep k v a hk ha)⟩
theorem a7R (o' : Obj) {S : Nat → Prop} {E0 : Emb} (hx : Ext S E0 E) (hm : ¬ E.Mut l) (hs : E0.w.heap.size ≤ l) : Ext S E0 ⟨E.φ, E.H, E.w.putObj l o'⟩ := by
 refine ⟨hx.os, hx.tape, hx.output, by simpa using hx.size, hx.len, hx.phi, hx.live, fun id blk' b si hi hb hp => ?_, hx.muts, fun b hb hn => ?_⟩
 ·have : b ≠ l := fun e => hm ⟨id, blk', hb, by rw [hx.phi id si hi, hp, e]⟩
  rw [← hx.rowsz id blk' b si hi hb hp]
  simp only [a1w, World.putObj_heap_other this]
 ·rw [← hx.keep b hb hn]
  exact World.putObj_heap_other (by omega)
end
def At (n0 nt : Nat) (E0 : Emb) (ds : List Deferred) (C : Act → World → Prop) (env : Env) (H : Heap) : Prop :=
 ∀ (φ : Nat → Option Nat) (w : World) (tmps : Array Value), tmps.size = nt → HOk ⟨φ, H, w⟩ → a0B ⟨φ, H, w⟩ env tmps → n0 ≤ H.length → Ext (· < n0) E0 ⟨φ, H, w⟩ → C ⟨tmps, ds⟩ w
section
variable {n0 nt : Nat} {E0 : Emb} {ds : List Deferred} {C : Act → World → Prop} {env : Env} {H L : Heap}
theorem At.weaken {env' : Env} (he : ∀ t, look env' t = look env t ∨ look env' t = .top) (h : At n0 nt E0 ds C env' H) : At n0 nt E0 ds C env H := by
 intro φ w tmps hsz hok hr hn hx
 refine h φ w tmps hsz hok (fun t => ?_) hn hx
 rcases he t with e | e
 ·rw [e]; exact hr t
 ·rw [e]; exact .top _
theorem At.keep (ts : List Nat) (h : At n0 nt E0 ds C (keep env ts) H) : At n0 nt E0 ds C env H := At.weaken (d4U env ts) h
theorem At.freeze (i : Nat) {b : Blk} (hH : a0C H) (hl : L[i]? = some (some b)) (hcl : ∀ c ∈ b.flat, Cl c) (hi : n0 ≤ lid H i)
  (h : At n0 nt E0 ds C (frzE (lid H i) b env) (hap H ((frzL (lid H i) b L).set i none))) (hpos : 0 < b.wd := by exact Nat.zero_lt_succ _) : At n0 nt E0 ds C env (hap H L) := by
 intro φ w tmps hsz hok he hn hx
 have hl' : (hap H L)[lid H i]? = some (some b) := by
  unfold hap lid
  rw [List.getElem?_append_right (by omega), Nat.add_sub_cancel_left]; exact hl
 have hok' := d5w hok hpos hl' hcl
 have he' : a0B ⟨φ, frzH (lid H i) b (hap H L), w⟩ (frzE (lid H i) b env) tmps := fun t => by rw [c6B]; exact b9X hok hpos hl' hcl (he t)
 have hx' := hx.trans ((b9Z (E := ⟨φ, hap H L, w⟩) (id := lid H i) (b := b)).sub fun _ _ => trivial)
 simp only at hok' he' hx'
 rw [b8h hH] at hok' he' hx'
 exact h φ w tmps hsz hok' he' (by simpa [hap, frzL] using hn) hx'
theorem At.drop {o : Option Blk} (hH : a0C H) (hi : n0 ≤ lid H L.length) (he : env.all (fun p => nref (lid H L.length) p.2) = true)
  (hL : ∀ b, some b ∈ L → ∀ a ∈ b.flat, nref (lid H L.length) a = true) (h : At n0 nt E0 ds C env (hap H L)) : At n0 nt E0 ds C env (hap H (L ++ [o])) := by
 intro φ w tmps hsz hok hrep hn hx
 have hlen : (hap H (L ++ [o])).length = lid H L.length + 1 := by simp [hap, lid, Nat.add_assoc]
 have lt : ∀ {a}, Ref (· < (hap H (L ++ [o])).length) a → Ref (· ≠ lid H L.length) a → Ref (· < lid H L.length) a := fun h1 h2 => (h1.both h2).mono fun i ⟨q1, q2⟩ => by rw [hlen] at q1; show i < _; omega
 have htake : (hap H (L ++ [o])).take (lid H L.length) = hap H L := by
  simp only [hap, lid, ← List.append_assoc]
  rw [show H.length + L.length = (H ++ L).length by simp, List.take_left']
  rfl
 have hcut := HOk.cut (E := ⟨φ, hap H (L ++ [o]), w⟩) hok (lid H L.length) (by
  intro j bj hj hbj a ha
  refine lt (hok.refs hbj a ha) ?_
  simp only [hap] at hbj
  rcases Nat.lt_or_ge j H.length with hlt | hge
  ·rw [List.getElem?_append_left hlt] at hbj
   exact (hH j bj hbj a ha).mono fun i hi => by show i ≠ H.length + L.length; have : i < H.length := hi; omega
  ·rw [List.getElem?_append_right hge] at hbj
   have hj2 : j - H.length < L.length := by simp only [lid] at hj; omega
   rw [List.getElem?_append_left hj2] at hbj
   exact a0j.1 (hL bj (List.mem_of_getElem? hbj) a ha))
 simp only [htake] at hcut
 exact h φ w tmps hsz hcut.1 (fun t => (hrep t).mono hcut.2 (lt (hrep t).ref (c6A he t))) (by simpa [hap, lid] using hi) (hx.trans (hcut.2.sub fun i hi' => Nat.lt_of_lt_of_le hi' hi))
end
section
variable {F : Fence} {P : Program} {n n0 nt : Nat} {E0 : Emb} {ds : List Deferred} {env : Env} {H L : Heap} {Q : Exit → Act → World → Prop}
theorem At.region (hF : Rd F) {mu : Nat → Nat → Bool} {id : Nat} {ops : Array Oper} {l : List AIns} (hl : a2C P mu nt id ops 0 ops.toList = some l) (h : aops P n0 l (At n0 nt E0 ds (Q .normal)) env H) :
  At n0 nt E0 ds ((Code.region id ops false).wpIn F n P Q) env H := by
 intro φ w tmps hsz hok he hn hx
 refine e2D hF hl (E0 := ⟨φ, H, w⟩) (K := fun e H' => e = env ∧ H' = H) (K' := At n0 nt E0 ds (Q .normal)) ⟨rfl, φ, env, H, ⟨rfl, rfl⟩, hok, he, rfl, hsz, hn, Ext.refl _ _⟩ (by rintro _ _ ⟨rfl, rfl⟩; exact h) ?_
 rintro a w' ⟨hds, φ', env', H', k', ok', he', _, sz', n', x'⟩
 have : a = ⟨a.tmps, ds⟩ := by cases a; simp at hds; simp [hds]
 rw [this]
 exact k' φ' w' a.tmps sz' ok' he' n' (hx.trans x')
theorem At.seq {x y : Code} (h : At n0 nt E0 ds (x.wpIn F n P (Exit.then (y.wpIn F n P Q) Q)) env H) : At n0 nt E0 ds ((Code.seq x y).wpIn F n P Q) env H := fun φ w tmps hsz hok he hn hx => wpIn_seq (h φ w tmps hsz hok he hn hx)
theorem At.block {id : Nat} {x : Code} (h : At n0 nt E0 ds (x.wpIn F n P (Exit.inBlock id Q)) env H) : At n0 nt E0 ds ((Code.block id x).wpIn F n P Q) env H := fun φ w tmps hsz hok he hn hx => wpIn_block (h φ w tmps hsz hok he hn hx)
theorem At.cond {t : Nat} {b : Bool} {x y : Code} (ht : look env t = .bool b) (h : At n0 nt E0 ds ((if b then x else y).wpIn F n P Q) env H) : At n0 nt E0 ds ((Code.cond (.tmp t) x y).wpIn F n P Q) env H := fun φ w tmps hsz hok he hn hx => by
 have h0 := he t
 rw [ht] at h0
 refine wpIn_cond (t := b) ?_ (h φ w tmps hsz hok he hn hx)
 show tmps.getD t undef = .bool b
 generalize tmps.getD t undef = u at h0
 cases h0 with
 | bool => rfl
 | dead v a i hr hd h1 => simp [AV.ref] at hr
theorem At.skip (h : At n0 nt E0 ds (Q .normal) env H) : At n0 nt E0 ds (Code.skip.wpIn F n P Q) env H := fun φ w tmps hsz hok he hn hx => wpIn_skip (h φ w tmps hsz hok he hn hx)
theorem At.ret (h : At n0 nt E0 ds (Q .ret) env H) : At n0 nt E0 ds (Code.ret.wpIn F n P Q) env H := fun φ w tmps hsz hok he hn hx => wpIn_ret (h φ w tmps hsz hok he hn hx)
end
end Go.Abs
namespace Go.Abs
open Go.RowKit Go.Proofs
def JJ (n1 : Nat) (E1 : Emb) (W1 : World) (l : Nat) (rc : Loop) (KI : Nat → Heap → Prop) (i : Nat) (W : World) : Prop :=
 ∃ φ H, KI i H ∧ HOk ⟨φ, H, W⟩ ∧ n1 ≤ H.length ∧ Ext (· < n1) E1 ⟨φ, H, W⟩ ∧ W1.heap.size ≤ W.heap.size ∧ W.heap[l]? = some (.loop rc) ∧
  (∀ k, E1.w.heap.size ≤ k → k < W1.heap.size → k ≠ l → W.heap[k]? = W1.heap[k]?) ∧ (∀ k, E1.w.heap.size ≤ k → k < W1.heap.size → ¬ Emb.Mut ⟨φ, H, W⟩ k)
theorem a1G {w : World} {l : Nat} {o : Obj} (h : w.heap[l]? = some o) : l < w.heap.size := (Array.getElem?_eq_some_iff.1 h).1
theorem c7u {m : Nat} (hm : 1 ≤ m) {nt : Nat} {E : Emb} {W1 : World} {env : Env} {tmps : Array Value} {p1 p2 l fn : Nat} {assign body : Code} {dfs : Nat} {v : List (List ZI)}
  (hok : HOk E) (he : a0B E env tmps) (hsz : tmps.size = nt)
  (g1 : W1.os = E.w.os) (g2 : W1.tape = E.w.tape) (g3 : W1.output = E.w.output) (g4 : E.w.heap.size ≤ W1.heap.size) (g5 : ∀ b, b < E.w.heap.size → W1.heap[b]? = E.w.heap[b]?)
  (hl : E.w.heap.size ≤ l) (hrec : W1.heap[l]? = some (.loop { state := .ready, pending := none, fn, tmps, params := #[p1, p2], assign, body, defers := dfs }))
  (hp1 : p1 < nt) (hp2 : p2 < nt) {Bs q b off cap : Nat} {vs : Nat → Value} (hreach : v.length * 24 ≤ 140737488351232)
  (hBs : E.w.cell? ⟨Bs, q, none⟩ = some (.slice (some ⟨b, off, none⟩) v.length cap)) (hc : ∀ j, j < v.length → E.w.cell? ⟨b, off + j, none⟩ = some (vs j)) (hmb : ¬ E.Mut b) (hb : b < E.w.heap.size)
  (hr : ∀ (j : Nat) (h : j < v.length), Rep E (vs j) (vecV v[j]))
  (KI : Nat → Heap → Prop) (KA : Nat → Env → Heap → Prop) (h0 : KI 0 E.H)
  (hassign : ∀ (i : Nat) (hi : i < v.length) (E1 : Emb) (H' : Heap), KI i H' → Ext (· < E.H.length) E E1 → At E.H.length nt E1 [] (assign.wpIn (Fence.wide.inRound l) (m - 1) Pr (Exit.then (KcD E.H.length nt E1 (KA i) []) (fun _ _ _ => False))) (put (some p2) (vecV v[i]) (put (some p1) (.int .i64 i) env)) H')
  (hbody : ∀ (i : Nat) (hi : i < v.length) (E1 : Emb) (env' : Env) (H' : Heap), (∃ r, E1.w.heap[l]? = some (.loop r)) → ¬ E1.Mut l → KA i env' H' → Ext (· < E.H.length) E E1 →
   At E.H.length nt E1 [] (body.wpIn (Fence.wide.inRound l) (m - 1) Pr (fun e a w' => e = .normal ∧ ∃ φ H'', KI (i + 1) H'' ∧ HOk ⟨φ, H'', w'⟩ ∧ E.H.length ≤ H''.length ∧ Ext (· < E.H.length) E1 ⟨φ, H'', w'⟩)) env' H') :
  CallsIn Fence.wide m Pr a0w #[.func (.yield l) #[] #[], .pointer (some ⟨Bs, q, none⟩)] W1 fun e W' => (∃ v, e = .returned v) ∧
   JJ E.H.length E W1 l { state := .ready, pending := none, fn, tmps, params := #[p1, p2], assign, body, defers := dfs } KI v.length W' := by
 obtain ⟨rc, hrc⟩ : ∃ rc : Loop, rc = { state := .ready, pending := none, fn, tmps, params := #[p1, p2], assign, body, defers := dfs } := ⟨_, rfl⟩
 rw [← hrc] at hrec ⊢
 have hcell : ∀ (p : Addr) v, E.w.cell? p = some v → W1.cell? p = some v := fun p v h => by
  obtain ⟨o, ho, _⟩ := cells_of_cell h
  have e := g5 p.block (a1G ho)
  unfold World.cell? at h ⊢
  rw [e]; exact h
 have hok1 : HOk ⟨E.φ, E.H, W1⟩ := HOk.of_heap g1 g2 g3 g4 g5 hok
 have hx1 : Ext (· < E.H.length) E ⟨E.φ, E.H, W1⟩ := Ext.of_heap g1 g2 g3 g4 g5 hok
 refine e6M Fence.wide m trivial rfl hm l Bs q b off v.length cap vs hreach (fun k => k < E.w.heap.size ∧ ¬ E.Mut k) ⟨hb, hmb⟩ (JJ E.H.length E W1 l rc KI) W1 ?_ ?_ (hcell _ _ hBs) (fun j hj => hcell _ _ (hc j hj)) ?_
 ·rintro k W' ⟨φ, H', q1, q2, q3, q4, _⟩ i ⟨hi, him⟩
  rw [g5 i hi]
  exact q4.keep i hi him
 ·rintro i W ⟨φ, H', q1, q2, q3, q4, q5, q6, q7, q8⟩ hi
  have hlW : l < W1.heap.size := a1G hrec
  have hy := run_yield (P := Pr) (args := #[.int .i64 (i : Int), vs i]) q6 (by rw [hrc]; rfl)
  refine ⟨_, _, _, _, hy, roundIn_of_wpIn trivial ?_⟩
  have he1 : a0B ⟨φ, H', W⟩ env tmps := fun t => (he t).mono' q4
  have he2 := a4d he1 (d := some p1) (by simp [d8e, hsz, hp1]) (.int .i64 (i : Int))
  have he3 := a4d he2 (d := some p2) (by simp [d8e, Act.put, hsz, hp2]) ((hr i hi).mono' q4)
  have hfold : (rc.params.zip #[.int .i64 (i : Int), vs i]).foldl (fun tmps (t, a) => tmps.setIfInBounds t a) rc.tmps = ((Act.mk ((Act.mk tmps []).put (some p1) (.int .i64 (i : Int))).tmps []).put (some p2) (vs i)).tmps := by
   rw [hrc]; simp [Act.put]
  rw [hfold]
  have hA := hassign i hi ⟨φ, H', W⟩ H' q1 q4 φ W _ (by simp [Act.put, hsz]) q2 he3 q3 (Ext.refl _ _)
  have e1 : rc.assign = assign := by rw [hrc]
  have e2 : rc.body = body := by rw [hrc]
  rw [e1, e2]
  refine wpIn_mono hA ?_
  rintro e a Wa hq
  cases e with
  | normal =>
   obtain ⟨hds, φa, enva, Ha, ka, oka, rea, _, sza, lena, exta⟩ := hq
   have hma : ¬ Emb.Mut ⟨φa, Ha, Wa⟩ l := fun h => q8 l hl hlW (exta.muts l (a1G q6) h)
   have hla : Wa.heap[l]? = some (.loop rc) := (exta.keep l (a1G q6) (q8 l hl hlW)).trans q6
   refine ⟨_, run_beginRound hla (by rw [hrc]), ?_⟩
   have okb := b2C (E := ⟨φa, Ha, Wa⟩) (.loop { rc with state := .busy }) hla rfl hma oka
   have reb : a0B ⟨φa, Ha, Wa.putObj l (.loop { rc with state := .busy })⟩ enva a.tmps := fun t => a7Q (E := ⟨φa, Ha, Wa⟩) _ hla rfl hma (rea t)
   have x1 := q4.trans exta
   have x2 := a7R (.loop { rc with state := .busy }) x1 hma hl
   have hlb : (Wa.putObj l (.loop { rc with state := .busy })).heap[l]? = some (.loop { rc with state := .busy }) := World.putObj_heap_same (a1G hla)
   have hB := hbody i hi ⟨φa, Ha, Wa.putObj l (.loop { rc with state := .busy })⟩ enva Ha ⟨_, hlb⟩ hma ka x2 φa _ a.tmps sza okb reb lena (Ext.refl _ _)
   have : a = ⟨a.tmps, []⟩ := by cases a; simp at hds; simp [hds]
   rw [this]
   refine wpIn_mono hB ?_
   rintro e a2 We ⟨rfl, φe, He, ke, oke, lene, exte⟩
   have hme : ¬ Emb.Mut ⟨φe, He, We⟩ l := fun h => hma (exte.muts l (a1G hlb) h)
   have hle : We.heap[l]? = some (.loop { rc with state := .busy }) := (exte.keep l (a1G hlb) hma).trans hlb
   have hend := run_endRound (P := Pr) none hle
   refine ⟨_, _, hend, rfl, ?_⟩
   have erc : ({ { rc with state := .busy } with state := if (none : Option Code).isNone then .ready else .done, pending := none } : Loop) = rc := by rw [hrc]; rfl
   rw [erc]
   have x3 := x2.trans exte
   refine ⟨φe, He, ke, b2C (E := ⟨φe, He, We⟩) _ hle rfl hme oke, lene, a7R _ x3 hme hl, ?_, World.putObj_heap_same (a1G hle), fun k hk1 hk2 hk3 => ?_, fun k hk1 hk2 h => ?_⟩
   ·have s1 := exta.size
    have s2 := exte.size
    simp only [World.putObj_size] at s1 s2 ⊢
    omega
   ·have s1 : W.heap.size ≤ Wa.heap.size := exta.size
    rw [World.putObj_heap_other hk3, exte.keep k (by simp only [World.putObj_size]; omega) (fun h => q8 k hk1 hk2 (exta.muts k (by show k < W.heap.size; omega) h)), World.putObj_heap_other hk3, exta.keep k (by show k < W.heap.size; omega) (q8 k hk1 hk2)]
    exact q7 k hk1 hk2 hk3
   ·have s1 : W.heap.size ≤ Wa.heap.size := exta.size
    exact q8 k hk1 hk2 (exta.muts k (by show k < W.heap.size; omega) (exte.muts k (by simp only [World.putObj_size]; omega) h))
  | _ => exact hq.elim
 ·refine ⟨E.φ, E.H, h0, hok1, Nat.le_refl _, hx1, Nat.le_refl _, hrec, fun _ _ _ _ => rfl, fun k hk1 hk2 ⟨id, blk, h1, h2⟩ => ?_⟩
  have := hok.lt h1 h2
  omega
end Go.Abs
namespace Go.Abs
open Go.RowKit Go.Proofs
theorem e3S (v : List (List ZI)) : (v.map vecV).flatMap AV.cells = v.map vecV := by
 induction v with
 | nil => rfl
 | cons x r ih => simp only [List.map_cons, List.flatMap_cons, ih]; simp [vecV, AV.cells]
theorem d0D {E : Emb} {u : Value} {v : List (List ZI)} (hv : 0 < v.length) (hr : Rep E u (.fn a0w [.ro (matV v) 0])) :
  ∃ (Bs q b off cap : Nat) (vs : Nat → Value), u = .func (.func a0w) #[] #[.pointer (some ⟨Bs, q, none⟩)] ∧ E.w.cell? ⟨Bs, q, none⟩ = some (.slice (some ⟨b, off, none⟩) v.length cap) ∧
   (∀ j, j < v.length → E.w.cell? ⟨b, off + j, none⟩ = some (vs j)) ∧ ¬ E.Mut b ∧ b < E.w.heap.size ∧ ∀ (j : Nat) (h : j < v.length), Rep E (vs j) (vecV v[j]) := by
 cases hr with
 | dead v a i hr hd h1 => simp [AV.ref] at hr
 | fn f us cs hlen hrep =>
  obtain ⟨p, rfl⟩ : ∃ p, us = [p] := by
   cases us with
   | nil => simp at hlen
   | cons p r => cases r with
    | nil => exact ⟨p, rfl⟩
    | cons q r => simp at hlen
  have h1 := hrep 0 p _ rfl rfl
  cases h1 with
  | dead v a i hr hd h1 => simp [AV.ref] at hr
  | ro x off b o ws hb hpos hcl hlen2 hcell hrep2 =>
   have hws : ws.length = 1 := by simpa [matV, AV.cells] using hlen2
   obtain ⟨u0, rfl⟩ : ∃ u0, ws = [u0] := by
    cases ws with
    | nil => simp at hws
    | cons p r => cases r with
     | nil => exact ⟨p, rfl⟩
     | cons q r => simp at hws
   have h2 := hcell 0 u0 rfl
   have h3 := hrep2 0 u0 (matV v) rfl (by simp [matV, AV.cells])
   generalize hm : matV v = mv at h3
   cases h3 with
   | dead v a i hr hd h1 => subst hm; simp [AV.ref, matV] at hr
   | sl base cap wd xs vs b2 o2 hcap hpos2 hw hcl2 hbase hlen3 hcell3 hrep3 =>
    simp only [matV, AV.sl.injEq] at hm
    obtain ⟨rfl, rfl⟩ := hm
    have hfl := e3S v
    rw [hfl] at hlen3 hrep3
    simp only [List.length_map] at hlen3
    have hne : v.map vecV ≠ [] := by
     intro e
     have := congrArg List.length e
     simp at this
     subst this
     simp at hv
    obtain ⟨rfl, hmb⟩ := hbase.resolve_left hne
    have hvs : ∀ (j : Nat), j < v.length → vs[j]? = some (vs.getD j undef) := fun j hj => by
     rw [List.getD_eq_getElem?_getD, List.getElem?_eq_getElem (by omega)]; rfl
    have hc0 := (hcell3 0 _ (hvs 0 hv)).1
    obtain ⟨ob, hob, _⟩ := cells_of_cell hc0
    refine ⟨b, o + 0, b2, o2, cap, fun j => vs.getD j undef, rfl, ?_, fun j hj => (hcell3 j _ (hvs j hj)).1, hmb, a1G hob, fun j hj => hrep3 j _ _ (hvs j hj) (by simp [hj])⟩
    have := h2.1
    simpa using this
   | _ => simp [matV] at hm
theorem c0D {a : Act} {t : Nat} {l : Nat} {w : World} {lb : Array Value} (hg : a.eval (.tmp t) = .func (.func a0w) #[] lb) :
  (resolve a.eval (rangeCall (.tmp t) l) 0).run Pr w = .ok { target := .fn (.func a0w) lb, args := #[.func (.yield l) #[] #[]] } w := by
 simp only [resolve, hg]
 simp [go_sem]
theorem c6G {l : Nat} {w : World} {lb : Array Value} : (invoke (.fn (.func a0w) lb) #[.func (.yield l) #[] #[]]).run Pr w = .ok (.enter a0w (#[.func (.yield l) #[] #[]] ++ lb)) w := by
 have eg : ∀ args w, (callFunc a0w args).run Pr w = .ok (.enter a0w args) w := enters_of Try.func28 (by kernel_rfl) rfl
 simp [invoke, go_sem, eg]
section
variable {n n0 nt : Nat} {E0 : Emb} {ds : List Deferred} {env : Env} {H : Heap} {Q : Exit → Act → World → Prop} {t p1 p2 : Nat} {assign body : Code} {v : List (List ZI)}
def b8N (n1 : Nat) (E1 : Emb) (K : Heap → Prop) (e : Exit) (a : Act) (w : World) : Prop := e = .normal ∧ ∃ φ H, K H ∧ HOk ⟨φ, H, w⟩ ∧ n1 ≤ H.length ∧ Ext (· < n1) E1 ⟨φ, H, w⟩
theorem At.rangeO (hn : 2 ≤ n) (hv : 0 < v.length) (hreach : v.length * 24 ≤ 140737488351232) (ht : look env t = .fn a0w [.ro (matV v) 0]) (hp1 : p1 < nt) (hp2 : p2 < nt)
  (KI : Nat → Heap → Prop) (KA : Nat → Env → Heap → Prop) (h0 : KI 0 H)
  (hassign : ∀ (i : Nat) (hi : i < v.length) (l : Nat) (E1 : Emb) (H' : Heap), KI i H' → At H.length nt E1 [] (assign.wpIn (Fence.wide.inRound l) (n - 1 - 1) Pr (Exit.then (KcD H.length nt E1 (KA i) []) (fun _ _ _ => False))) (put (some p2) (vecV v[i]) (put (some p1) (.int .i64 i) env)) H')
  (hbody : ∀ (i : Nat) (hi : i < v.length) (l : Nat) (E1 : Emb) (env' : Env) (H' : Heap), (∃ r, E1.w.heap[l]? = some (.loop r)) → ¬ E1.Mut l → KA i env' H' →
   At H.length nt E1 [] (body.wpIn (Fence.wide.inRound l) (n - 1 - 1) Pr (b8N H.length E1 (KI (i + 1)))) env' H')
  (hdone : ∀ (D : Nat) (E1 : Emb) (H' : Heap), KI v.length H' → E0.w.heap.size ≤ D → D < E1.w.heap.size → Ext (· < n0) E0 E1 → E1.w.heap[D]? = some (.deferred (some [])) → ¬ E1.Mut D → At n0 nt E1 ({ target := .collected D, args := #[] } :: ds) (Q .normal) env H') :
  At n0 nt E0 ds ((Code.rangeFunc (.tmp t) #[p1, p2] assign body).wpIn Fence.wide n Pr Q) env H := by
 intro φ w tmps hsz hok he hn0 hx
 have h0t := he t
 rw [ht] at h0t
 obtain ⟨Bs, q, b, off, cap, vs, hu, c1, c2, c3, c4, c5⟩ := d0D hv h0t
 refine wpIn_rangeFunc ?_
 intro fn hfn
 obtain ⟨W1, hW1⟩ : ∃ W1, W1 = (w.alloc (.deferred (some []))).alloc (.loop { state := .ready, pending := none, fn, tmps, params := #[p1, p2], assign, body, defers := w.heap.size }) := ⟨_, rfl⟩
 have hs1 : W1.heap.size = w.heap.size + 2 := by rw [hW1]; simp
 have hg5 : ∀ b, b < w.heap.size → W1.heap[b]? = w.heap[b]? := fun b hb => by
  rw [hW1, Below.heap_alloc _ _ _ (by simp; omega), Below.heap_alloc _ _ _ hb]
 have hL1 : W1.heap[w.heap.size + 1]? = some (.loop { state := .ready, pending := none, fn, tmps, params := #[p1, p2], assign, body, defers := w.heap.size }) := by
  rw [hW1]
  have := World.alloc_heap_new (w.alloc (.deferred (some []))) (.loop { state := .ready, pending := none, fn, tmps, params := #[p1, p2], assign, body, defers := w.heap.size })
  rwa [World.size_alloc] at this
 have hK1 : W1.heap[w.heap.size]? = some (.deferred (some [])) := by
  rw [hW1]; exact (Below.heap_alloc _ _ _ (by simp)).trans (World.alloc_heap_new w _)
 have hR := c7u (m := n - 1) (by omega) (E := ⟨φ, H, w⟩) (W1 := W1) (l := w.heap.size + 1) hok he hsz (by rw [hW1]; rfl) (by rw [hW1]; rfl) (by rw [hW1]; rfl) (by rw [hs1]; simp) hg5 (by simp) hL1 hp1 hp2 hreach c1 c2 c3 c4 c5 KI KA h0
  (fun i hi E1 H' h _ => hassign i hi _ E1 H' h) (fun i hi E1 env' H' h1 h2 h3 _ => hbody i hi _ E1 env' H' h1 h2 h3)
 refine ⟨w.heap.size + 1, [{ target := .collected w.heap.size, args := #[] }], W1, _, W1, a0w, _, W1, by rw [hW1]; exact run_enterLoop_outer _ _ _ _ _, c0D (by exact hu), fun _ _ => trivial, c6G, fun h => (by cases h), ?_⟩
 refine hR.mono ?_
 rintro e W2 ⟨⟨v', rfl⟩, φ', H', q1, q2, q3, q4, q5, q6, q7, q8⟩
 have hm1 := q8 (w.heap.size + 1) (by simp) (by omega)
 have hmD := q8 w.heap.size (by simp) (by omega)
 refine ⟨none, _, run_endLoop q6 (by simp), ?_⟩
 refine hdone w.heap.size ⟨φ', H', W2.putObj (w.heap.size + 1) _⟩ H' q1 hx.size (by simp only [World.putObj_size]; omega) (hx.trans ((a7R (E := ⟨φ', H', W2⟩) _ q4 hm1 (by simp)).sub fun i hi => Nat.lt_of_lt_of_le hi hn0)) ?_ hmD φ' _ tmps hsz (b2C (E := ⟨φ', H', W2⟩) _ q6 rfl hm1 q2)
  (fun t => a7Q (E := ⟨φ', H', W2⟩) _ q6 rfl hm1 ((he t).mono' q4)) (Nat.le_trans hn0 q3) (Ext.refl _ _)
 exact (World.putObj_heap_other (by omega)).trans ((q7 w.heap.size (by simp) (by omega) (by omega)).trans hK1)
theorem At.rangeN {l0 : Nat} (hl0 : ∃ r, E0.w.heap[l0]? = some (.loop r)) (hm0 : ¬ E0.Mut l0) (hn : 2 ≤ n) (hv : 0 < v.length) (hreach : v.length * 24 ≤ 140737488351232) (ht : look env t = .fn a0w [.ro (matV v) 0]) (hp1 : p1 < nt) (hp2 : p2 < nt)
  (KI : Nat → Heap → Prop) (KA : Nat → Env → Heap → Prop) (h0 : KI 0 H)
  (hassign : ∀ (i : Nat) (hi : i < v.length) (l : Nat) (E1 : Emb) (H' : Heap), KI i H' → At H.length nt E1 [] (assign.wpIn (Fence.wide.inRound l) (n - 1 - 1) Pr (Exit.then (KcD H.length nt E1 (KA i) []) (fun _ _ _ => False))) (put (some p2) (vecV v[i]) (put (some p1) (.int .i64 i) env)) H')
  (hbody : ∀ (i : Nat) (hi : i < v.length) (l : Nat) (E1 : Emb) (env' : Env) (H' : Heap), (∃ r, E1.w.heap[l]? = some (.loop r)) → ¬ E1.Mut l → KA i env' H' →
   At H.length nt E1 [] (body.wpIn (Fence.wide.inRound l) (n - 1 - 1) Pr (b8N H.length E1 (KI (i + 1)))) env' H')
  (hdone : ∀ (E1 : Emb) (H' : Heap), KI v.length H' → E1.H = H' → Ext (· < n0) E0 E1 → At n0 nt E1 ds (Q .normal) env H') :
  At n0 nt E0 ds ((Code.rangeFunc (.tmp t) #[p1, p2] assign body).wpIn (Fence.wide.inRound l0) n Pr Q) env H := by
 intro φ w tmps hsz hok he hn0 hx
 have h0t := he t
 rw [ht] at h0t
 obtain ⟨Bs, q, b, off, cap, vs, hu, c1, c2, c3, c4, c5⟩ := d0D hv h0t
 refine wpIn_rangeFunc ?_
 intro fn hfn
 obtain ⟨r0, hr0⟩ := hl0
 have hl0w : w.heap[l0]? = some (.loop r0) := (hx.keep l0 (a1G hr0) hm0).trans hr0
 obtain ⟨W1, hW1⟩ : ∃ W1, W1 = w.alloc (.loop { state := .ready, pending := none, fn, tmps, params := #[p1, p2], assign, body, defers := r0.defers }) := ⟨_, rfl⟩
 have hs1 : W1.heap.size = w.heap.size + 1 := by rw [hW1]; simp
 have hg5 : ∀ b, b < w.heap.size → W1.heap[b]? = w.heap[b]? := fun b hb => by
  rw [hW1, Below.heap_alloc _ _ _ hb]
 have hL1 : W1.heap[w.heap.size]? = some (.loop { state := .ready, pending := none, fn, tmps, params := #[p1, p2], assign, body, defers := r0.defers }) := by
  rw [hW1]
  exact World.alloc_heap_new w _
 have hR := c7u (m := n - 1) (by omega) (E := ⟨φ, H, w⟩) (W1 := W1) (l := w.heap.size) hok he hsz (by rw [hW1]; rfl) (by rw [hW1]; rfl) (by rw [hW1]; rfl) (by rw [hs1]; simp) hg5 (Nat.le_refl _) hL1 hp1 hp2 hreach c1 c2 c3 c4 c5 KI KA h0
  (fun i hi E1 H' h _ => hassign i hi _ E1 H' h) (fun i hi E1 env' H' h1 h2 h3 _ => hbody i hi _ E1 env' H' h1 h2 h3)
 refine ⟨w.heap.size, [], W1, _, W1, a0w, _, W1, by rw [hW1]; exact run_enterLoop_inner hl0w _ _ _ _ _, c0D (by exact hu), fun _ _ => trivial, c6G, fun h => (by cases h), ?_⟩
 refine CallsIn.mono (CallsIn.inRound l0 hR) ?_
 rintro e W2 ⟨⟨v', rfl⟩, φ', H', q1, q2, q3, q4, q5, q6, q7, q8⟩
 have hm1 := q8 w.heap.size (Nat.le_refl _) (by omega)
 refine ⟨none, _, run_endLoop q6 (by simp), ?_⟩
 exact hdone ⟨φ', H', W2.putObj w.heap.size _⟩ H' q1 rfl (hx.trans ((a7R (E := ⟨φ', H', W2⟩) _ q4 hm1 (Nat.le_refl _)).sub fun i hi => Nat.lt_of_lt_of_le hi hn0)) φ' _ tmps hsz (b2C (E := ⟨φ', H', W2⟩) _ q6 rfl hm1 q2)
  (fun t => a7Q (E := ⟨φ', H', W2⟩) _ q6 rfl hm1 ((he t).mono' q4)) (Nat.le_trans hn0 q3) (Ext.refl _ _)
end
end Go.Abs
namespace Go.Abs
open Go.RowKit Go.Proofs
section
variable {F : Fence} {P : Program} {n n0 nt : Nat} {ops : Array Oper} {Q : Exit → Act → World → Prop}
theorem e9c (hF : Rd F) {i : Nat} {o : Oper} {mutable : Bool} {x : AIns} (ho : ops[i]? = some o) (hi : cins P mutable nt ops o = some x) {E : Emb} {env : Env} {tmps : Array Value} {ds : List Deferred} (hsz : tmps.size = nt)
  (hok : HOk E) (he : a0B E env tmps) (hn : n0 ≤ E.H.length) {K : Env → Heap → Prop} (h : aops P n0 [x] K env E.H) {next : Act → World → Prop} (hnext : ∀ a w, KcD n0 nt E K ds a w → next a w) : wpOpIn F n P ops Q i next ⟨tmps, ds⟩ E.w := by
 unfold wpOpIn
 rw [ho]
 simp only
 unfold cins at hi
 split at hi
 ·rename_i hd
  split at hi
  ·rename_i g a hg ha
   cases hi
   have hw := b5U (o := o) he hg
   simp only [aops] at h
   split at h
   ·simp only at hw
    rw [if_pos hw]
    exact c4c hF ha hd hsz hok he hn h hnext
   ·rename_i t want _
    simp only at hw
    simp only [b0b] at h
    have pass : K (put o.dst (.tup []) env) E.H → (∀ f, o.about P E.w (Act.eval ⟨tmps, ds⟩) = some f → F.fn f) ∧ next ((Act.mk tmps ds).put o.dst undef) E.w := by
     intro h
     have pp : ((Act.mk tmps ds).put o.dst undef) = ⟨((Act.mk tmps []).put o.dst undef).tmps, ds⟩ := by cases o.dst <;> rfl
     rw [pp]
     refine ⟨fun f _ => hF.fn f, hnext _ _ ⟨rfl, E.φ, _, E.H, h, hok, ?_, rfl, ?_, hn, Ext.refl _ _⟩⟩
     ·subst hsz; exact a4d he hd b6b
     ·rw [b7x]; exact hsz
    split at h
    ·rename_i c hc
     have hw' := hw.1 c hc
     split at h
     ·rename_i hcw
      rw [if_pos (by rw [hw', hcw]; simp)]
      exact c4c hF ha hd hsz hok he hn h hnext
     ·rename_i hcw
      rw [if_neg (by rw [hw']; simpa using hcw)]
      exact pass h
    ·rename_i hc
     have hw' := hw.2 hc
     rw [if_neg (by cases want <;> simp)] at h
     rw [if_neg (by rw [hw']; simp)]
     exact pass h
    ·exact h.elim
  ·simp at hi
 ·simp at hi
theorem e7v (hF : Rd F) {mu : Nat → Nat → Bool} {rid : Nat} {l : List AIns} (hl : a2C P mu nt rid ops 0 ops.toList = some l) (hback : b4K 0 ops.toList = true) {ds : List Deferred} {E0 : Emb} (J : (Nat → Bool) → Env → Heap → Prop)
  (hstep : ∀ (lst : Nat → Bool) (i : Nat) (o : Oper) (x : AIns), ops[i]? = some o → l[i]? = some x → lst i = false → (∀ e ∈ o.after, Region.binds .any e = true → lst e.on = true) → ∀ env H, J lst env H → aops P n0 [x] (J fun j => lst j || j == i) env H)
  (hQ : ∀ lst : Nat → Bool, (∀ j, j < ops.size → lst j = true) → ∀ a w, KcD n0 nt E0 (J lst) ds a w → Q .normal a w) :
  ∀ (fuel : Nat) (rem : List Nat) (listed : Array Bool), listed.size = ops.size → rem.Nodup → (∀ i, i ∈ rem ↔ listed.getD i true = false) → rem.length ≤ fuel → ∀ a w, KcD n0 nt E0 (J fun j => listed.getD j false) ds a w → wpAnyIn F n P .any ops Q fuel listed a w := by
 obtain ⟨hlen, hget⟩ := a6j _ _ _ hl
 have done : ∀ listed : Array Bool, listed.size = ops.size → (∀ i, listed.getD i true ≠ false) → ∀ a w, KcD n0 nt E0 (J fun j => listed.getD j false) ds a w → Q .normal a w := by
  intro listed hsz hm a w hk
  refine hQ _ (fun j hj => ?_) a w hk
  have := hm j
  have hj' : j < listed.size := by omega
  simp [hj'] at this ⊢
  exact this
 have minr : ∀ (k : Nat) (listed : Array Bool), listed.size = ops.size → (∀ j, j < k → listed.getD j true ≠ false) → listed.getD k true = false → k ∈ Region.ready .any ops listed := by
  intro k listed hsz hb hk
  have hlt : k < ops.size := by
   rw [← hsz]
   rcases Nat.lt_or_ge k listed.size with h' | h'
   ·exact h'
   ·simp [Array.getElem?_eq_none h'] at hk
  rw [mem_ready]
  refine ⟨hk, ops[k], by simp [hlt], fun e he hbd => ?_⟩
  have hlt2 := a6N hback k ops[k] (by simp [hlt]) e he hbd
  have hno := hb e.on (by omega)
  have hlt3 : e.on < listed.size := by omega
  simp [hlt3] at hno ⊢
  exact hno
 have noready : ∀ listed : Array Bool, listed.size = ops.size → Region.ready .any ops listed = [] → ∀ i, listed.getD i true ≠ false := by
  intro listed hsz hr i
  induction i using Nat.strongRecOn with
  | _ i ih =>
   intro hi
   have := minr i listed hsz ih hi
   rw [hr] at this
   cases this
 intro fuel
 induction fuel with
 | zero =>
  intro rem listed hsz hnd hm hf a w hk
  have : rem = [] := List.length_eq_zero_iff.1 (Nat.le_zero.1 hf)
  subst this
  have hall : ∀ i, listed.getD i true ≠ false := fun i h => by have := (hm i).2 h; simp at this
  refine ⟨?_, done listed hsz hall a w hk⟩
  cases hr : Region.ready .any ops listed with
  | nil => rfl
  | cons i r => exact absurd (mem_ready.1 (show i ∈ Region.ready .any ops listed by rw [hr]; simp)).1 (hall i)
 | succ fuel ih =>
  intro rem listed hsz hnd hm hf a w hk
  refine ⟨fun hr => done listed hsz (noready listed hsz hr) a w hk, fun i hi => ?_⟩
  obtain ⟨hun, o, ho, hedges⟩ := mem_ready.1 hi
  have himem := (hm i).2 hun
  obtain ⟨x, hx, hcx⟩ := hget i o (by simpa using ho)
  have hilt : i < listed.size := by
   rcases Nat.lt_or_ge i listed.size with h' | h'
   ·exact h'
   ·simp [Array.getElem?_eq_none h'] at hun
  obtain ⟨hds, φ, env, H, q1, q2, q3, q4, q5, q6, q7⟩ := hk
  have ha : a = ⟨a.tmps, ds⟩ := by cases a; simp at hds; simp [hds]
  rw [ha]
  have hlf : listed.getD i false = false := by
   simp [hilt] at hun ⊢
   exact hun
  refine e9c hF ho hcx (E := ⟨φ, H, w⟩) q5 q2 q3 q6 (hstep (fun j => listed.getD j false) i o x ho (by simpa using hx) hlf hedges env H q1) ?_
  rintro a' w' ⟨hds', φ', env', H', r1, r2, r3, r4, r5, r6, r7⟩
  refine ih (rem.erase i) (listed.setIfInBounds i true) (by simp [hsz]) (hnd.erase i) (fun j => ?_) (by rw [List.length_erase_of_mem himem]; have := List.length_pos_of_mem himem; omega) a' w' ⟨hds', φ', env', H', ?_, r2, r3, r4, r5, r6, q7.trans r7⟩
  ·rw [hnd.mem_erase_iff]
   by_cases hj : j = i
   ·subst hj; simp [hilt]
   ·rw [getD_set_ne true (Ne.symm hj), ← hm j]; simp [hj]
  ·have : (fun j => (listed.setIfInBounds i true).getD j false) = fun j => listed.getD j false || j == i := by
    funext j
    by_cases hj : j = i
    ·subst hj; simp [hilt]
    ·rw [getD_set_ne false (Ne.symm hj)]; simp [hj]
   rw [this]; exact r1
theorem At.regionJ (hF : Rd F) (hmix : P.follows .mixedOrders = true) {mu : Nat → Nat → Bool} {id : Nat} {l : List AIns} (hl : a2C P mu nt id ops 0 ops.toList = some l) (hback : b4K 0 ops.toList = true) {E0 : Emb} {ds : List Deferred} {env : Env} {H : Heap} (J : (Nat → Bool) → Env → Heap → Prop)
  (h0 : J (fun _ => false) env H)
  (hstep : ∀ (lst : Nat → Bool) (i : Nat) (o : Oper) (x : AIns), ops[i]? = some o → l[i]? = some x → lst i = false → (∀ e ∈ o.after, Region.binds .any e = true → lst e.on = true) → ∀ env H, J lst env H → aops P n0 [x] (J fun j => lst j || j == i) env H)
  (hQ : ∀ lst : Nat → Bool, (∀ j, j < ops.size → lst j = true) → ∀ env H, J lst env H → At n0 nt E0 ds (Q .normal) env H) : At n0 nt E0 ds ((Code.region id ops true).wpIn F n P Q) env H := by
 intro φ w tmps hsz hok he hn hx
 have hx0 := a9A (· < n0) φ H w (w.drawn + 1)
 have hxA := a9A All φ H w (w.drawn + 1)
 refine wpIn_region_any hmix (e7v hF hl hback (E0 := ⟨φ, H, { w with drawn := w.drawn + 1 }⟩) (ds := ds) J hstep ?_ ops.size (List.range ops.size) (Array.replicate ops.size false) (by simp) List.nodup_range ?_ (by simp) ⟨tmps, ds⟩ _ ?_)
 ·rintro lst hlst a w' ⟨hds, φ', env', H', r1, r2, r3, r4, r5, r6, r7⟩
  have ha : a = ⟨a.tmps, ds⟩ := by cases a; simp at hds; simp [hds]
  rw [ha]
  exact hQ lst hlst env' H' r1 φ' w' a.tmps r5 r2 r3 r6 ((hx.trans hx0).trans r7)
 ·intro i
  rw [List.mem_range]
  constructor
  ·intro hi; simp [hi]
  ·intro hi
   rcases Nat.lt_or_ge i ops.size with h' | h'
   ·exact h'
   ·simp [Array.getElem?_eq_none (show (Array.replicate ops.size false).size ≤ i by simpa using h')] at hi
 ·have : (fun j => (Array.replicate ops.size false).getD j false) = fun _ => false := by
   funext j
   rcases Nat.lt_or_ge j ops.size with h' | h'
   ·simp [h']
   ·simp [Array.getElem?_eq_none (show (Array.replicate ops.size false).size ≤ j by simpa using h')]
  rw [this]
  exact ⟨rfl, φ, env, H, h0, c3R hok, he.mono (hxA.sub fun _ _ => trivial), rfl, hsz, hn, Ext.refl _ _⟩
end
end Go.Abs
namespace Go.Abs
open Go.RowKit Go.Proofs
noncomputable def d1h : Code → Nat → Option (Array Oper)
 | .region i ops _, id => if i == id then some ops else none
 | .seq a b, id => (d1h a id).or (d1h b id)
 | .block _ a, id => d1h a id
 | .loop a, id => d1h a id
 | .cond _ a b, id => (d1h a id).or (d1h b id)
 | .rangeFunc _ _ a b, id => (d1h a id).or (d1h b id)
 | _, _ => none
noncomputable def pops (id : Nat) : Array Oper := ((Try.f7.body.bind fun c => d1h c id)).getD #[]
def b8D : List AIns := [⟨some 2, none, .e (.box 1 (.t 0))⟩, ⟨some 3, none, .e (.box 1 (.t 1))⟩, ⟨some 4, none, .e (.box 1 (.c .nil))⟩, ⟨some 5, none, .e (.box 1 (.c (.int .i64 0)))⟩]
def b8C : List AIns := [⟨some 16, none, .p (.load none (.t 2))⟩, ⟨some 17, none, .call a9T [.t 16]⟩, ⟨some 6, none, .p (.mv (.t 17))⟩]
def b8B : List AIns := [⟨some 18, none, .p (.mv (.t 6))⟩, ⟨some 19, none, .p (.bin .neq (.t 18) (.c (.int .i64 0)))⟩]
def b8A : List AIns := [⟨some 21, none, .p (.load none (.t 3))⟩, ⟨some 22, none, .call a6m [.t 21]⟩]
def b8z : List AIns := [⟨some 8, none, .p (.mv (.t 24))⟩]
def b8y : List AIns := [⟨some 25, none, .p (.mv (.t 8))⟩, ⟨some 26, none, .p (.len (.t 25))⟩, ⟨some 27, none, .p (.load none (.t 2))⟩, ⟨some 28, none, .p (.idxp 1 (.t 27) (.c (.int .i64 0)))⟩, ⟨some 29, none, .p (.load none (.t 28))⟩, ⟨some 30, none, .p (.len (.t 29))⟩, ⟨some 31, none, .p (.bin .neq (.t 26) (.t 30))⟩]
def b8x : List AIns := [⟨some 32, none, .p (.load none (.t 2))⟩, ⟨some 33, none, .p (.len (.t 32))⟩, ⟨some 34, none, .e (.mksl 1 24 .nil (.t 33) (.t 33))⟩, ⟨some 9, none, .e (.box 1 (.c .nil))⟩, ⟨none, none, .e (.store 1 (.t 9) (.t 34))⟩]
def b8w : List AIns := [⟨some 35, none, .p (.load none (.t 2))⟩, ⟨some 36, none, .call a6m [.t 35]⟩]
def b4J : List AIns := [⟨some 10, none, .e (.box 1 (.c (.int .i64 0)))⟩, ⟨none, none, .e (.store 1 (.t 10) (.t 37))⟩]
def b4I : List AIns := [⟨some 11, none, .e (.box 1 (.c .nil))⟩, ⟨none, none, .e (.store 1 (.t 11) (.t 38))⟩]
def b4H : List AIns := [⟨some 39, none, .p (.load none (.t 3))⟩, ⟨some 40, none, .call a6m [.t 39]⟩]
def b4G : List AIns := [⟨some 13, none, .p (.mv (.t 42))⟩]
def a7D : List AIns := [⟨some 44, none, .p (.load none (.t 11))⟩, ⟨some 45, none, .p (.mv (.t 13))⟩, ⟨some 46, none, .call b8T [.t 44, .t 45]⟩, ⟨some 43, none, .p (.mv (.t 46))⟩, ⟨some 47, none, .p (.ext (.t 43) 0)⟩, ⟨some 48, none, .p (.ext (.t 43) 1)⟩, ⟨some 14, none, .e (.box 2 (.c (.agg [.bool false, .nil])))⟩, ⟨none, none, .e (.store 2 (.t 14) (.t 47))⟩, ⟨some 15, none, .p (.mv (.t 48))⟩]
def a2V : List AIns := [⟨some 49, none, .p (.load none (.t 9))⟩, ⟨some 50, none, .p (.load none (.t 10))⟩, ⟨some 51, none, .p (.load none (.t 9))⟩, ⟨some 52, none, .p (.load none (.t 10))⟩, ⟨some 53, none, .p (.idxp 1 (.t 51) (.t 52))⟩, ⟨some 54, none, .p (.load none (.t 53))⟩, ⟨some 55, none, .p (.load (some 2) (.t 14))⟩, ⟨some 56, none, .e (.bsl 2 [.t 55])⟩, ⟨some 57, none, .e (.app 2 32 false (.t 54) (.t 56))⟩, ⟨some 58, none, .p (.idxp 1 (.t 49) (.t 50))⟩, ⟨none, none, .e (.store 1 (.t 58) (.t 57))⟩]
def b4F : List AIns := [⟨some 59, none, .p (.load none (.t 9))⟩, ⟨none, none, .e (.store 1 (.t 4) (.t 59))⟩, ⟨none, none, .e (.store 1 (.t 5) (.c (.int .i64 0)))⟩]
def nomu : Nat → Nat → Bool := fun _ _ => false
theorem e7F : a2C Pr nomu 60 0 (pops 0) 0 (pops 0).toList = some b8D := by kernel_rfl
theorem e7E : a2C Pr nomu 60 1 (pops 1) 0 (pops 1).toList = some b8C := by kernel_rfl
theorem e7D : a2C Pr nomu 60 2 (pops 2) 0 (pops 2).toList = some b8B := by kernel_rfl
theorem e7C : a2C Pr nomu 60 4 (pops 4) 0 (pops 4).toList = some b8A := by kernel_rfl
theorem e7B : a2C Pr nomu 60 5 (pops 5) 0 (pops 5).toList = some b8z := by kernel_rfl
theorem e7A : a2C Pr nomu 60 6 (pops 6) 0 (pops 6).toList = some b8y := by kernel_rfl
theorem e7z : a2C Pr nomu 60 8 (pops 8) 0 (pops 8).toList = some b8x := by kernel_rfl
theorem e7y : a2C Pr nomu 60 9 (pops 9) 0 (pops 9).toList = some b8w := by kernel_rfl
theorem e4Y : a2C Pr nomu 60 10 (pops 10) 0 (pops 10).toList = some b4J := by kernel_rfl
theorem e4X : a2C Pr nomu 60 11 (pops 11) 0 (pops 11).toList = some b4I := by kernel_rfl
theorem e4W : a2C Pr nomu 60 12 (pops 12) 0 (pops 12).toList = some b4H := by kernel_rfl
theorem e4V : a2C Pr nomu 60 13 (pops 13) 0 (pops 13).toList = some b4G := by kernel_rfl
theorem e4U : a2C Pr nomu 60 14 (pops 14) 0 (pops 14).toList = some a7D := by kernel_rfl
theorem d6b : a2C Pr nomu 60 15 (pops 15) 0 (pops 15).toList = some a2V := by kernel_rfl
theorem e4T : a2C Pr nomu 60 16 (pops 16) 0 (pops 16).toList = some b4F := by kernel_rfl
theorem e1J : b4K 0 (pops 15).toList = true := by kernel_rfl
theorem e4S : Pr.follows .mixedOrders = true := by kernel_rfl
def deps (ops : Array Oper) : List (List Nat) → Nat → Bool
 | [], _ => true
 | d :: r, i => (match ops[i]? with | some o => d.all fun k => o.after.toList.any fun e => e.on == k && Region.binds .any e | none => false) && deps ops r (i + 1)
theorem d0E {ops : Array Oper} : ∀ {D : List (List Nat)} {k : Nat}, deps ops D k = true → ∀ (i : Nat) (d : List Nat) (o : Oper), D[i]? = some d → ops[k + i]? = some o → ∀ j ∈ d, ∃ e ∈ o.after, e.on = j ∧ Region.binds .any e = true
 | [], _, _, i, d, o, hd, _, _, _ => by simp at hd
 | d :: r, k, h, 0, d', o, hd, ho, j, hj => by
  simp only [deps, Bool.and_eq_true] at h
  simp at hd; subst hd
  have h1 := h.1
  simp only [Nat.add_zero] at ho
  rw [ho] at h1
  simp only at h1
  have h2 := List.all_eq_true.1 h1 j hj
  obtain ⟨e, he, h3⟩ := List.any_eq_true.1 h2
  simp only [Bool.and_eq_true, beq_iff_eq] at h3
  exact ⟨e, by simpa using he, h3.1, h3.2⟩
 | d :: r, k, h, i + 1, d', o, hd, ho, j, hj => by
  simp only [deps, Bool.and_eq_true] at h
  exact d0E h.2 i d' o (by simpa using hd) (by rw [show k + 1 + i = k + (i + 1) by omega]; exact ho) j hj
def f1Q : List (List Nat) := [[], [], [], [], [2, 3], [4], [], [6], [5, 7], [0, 1, 8], [8, 9]]
theorem e1H : deps (pops 15) f1Q 0 = true := by kernel_rfl
noncomputable def f2n : Code :=
 .seq (.region 0 (pops 0) false) (.seq (.seq (.region 1 (pops 1) false) (.seq (.region 2 (pops 2) false) (.cond (.tmp 19) (.seq (.region 3 (pops 3) false) .ret) .skip)))
  (.seq (.seq (.region 4 (pops 4) false) (.block 0 (.rangeFunc (.tmp 22) #[23, 24] (.region 5 (pops 5) false) (.block 1 (.seq (.region 6 (pops 6) false) (.cond (.tmp 31) (.seq (.region 7 (pops 7) false) .ret) .skip))))))
   (.seq (.region 8 (pops 8) false)
    (.seq (.seq (.region 9 (pops 9) false) (.block 2 (.rangeFunc (.tmp 36) #[37, 38] (.seq (.region 10 (pops 10) false) (.region 11 (pops 11) false))
     (.block 3 (.seq (.region 12 (pops 12) false) (.block 4 (.rangeFunc (.tmp 40) #[41, 42] (.region 13 (pops 13) false) (.block 5 (.seq (.region 14 (pops 14) false) (.region 15 (pops 15) true)))))))))) 
     (.seq (.region 16 (pops 16) false) .ret)))))
theorem e1I : Try.f7.body = some f2n := by kernel_rfl
end Go.Abs
namespace Go.Abs
open Go.RowKit Go.Proofs
def TabT (B : List (Nat × AV)) (T : List (Nat × Nat × AV)) (lst : Nat → Bool) (env : Env) : Prop := (∀ p ∈ B, look env p.1 = p.2) ∧ ∀ p ∈ T, lst p.1 = true → look env p.2.1 = p.2.2
theorem TabT.put {B : List (Nat × AV)} {T : List (Nat × Nat × AV)} {lst : Nat → Bool} {env : Env} {i d : Nat} {a : AV} (h : TabT B T lst env) (hB : ∀ p ∈ B, p.1 ≠ d) (hT : ∀ p ∈ T, p.1 ≠ i → p.2.1 ≠ d) (hi : ∀ p ∈ T, p.1 = i → p.2 = (d, a)) :
  TabT B T (fun j => lst j || j == i) (put (some d) a env) := by
 refine ⟨fun p hp => ?_, fun p hp hl => ?_⟩
 ·rw [a0W, if_neg (fun e => hB p hp (by cases e; rfl))]; exact h.1 p hp
 ·by_cases he : p.1 = i
  ·have := hi p hp he
   rw [a0W, this, if_pos rfl]
  ·rw [a0W, if_neg (fun e => hT p hp he (by cases e; rfl))]
   simp [he] at hl
   exact h.2 p hp hl
theorem TabT.put0 {B : List (Nat × AV)} {T : List (Nat × Nat × AV)} {lst : Nat → Bool} {env : Env} {i : Nat} (h : TabT B T lst env) (hi : ∀ p ∈ T, p.1 ≠ i) : TabT B T (fun j => lst j || j == i) env :=
 ⟨h.1, fun p hp hl => h.2 p hp (by simp [hi p hp] at hl; exact hl)⟩
theorem TabT.turn {B : List (Nat × AV)} {T : List (Nat × Nat × AV)} {lst : Nat → Bool} {env env' : Env} {id k : Nat} (h : TabT B T lst env) (hs : ∀ t, nref id (look env t) = true → look env' t = look env t) (hB : ∀ p ∈ B, nref id p.2 = true) (hk : lst k = false) (hT : ∀ p ∈ T, p.1 ≠ k → nref id p.2.2 = true) : TabT B T lst env' :=
 ⟨fun p hp => by rw [hs _ (by rw [h.1 p hp]; exact hB p hp)]; exact h.1 p hp, fun p hp hl => by rw [hs _ (by rw [h.2 p hp hl]; exact hT p hp (fun e => by rw [e, hk] at hl; cases hl))]; exact h.2 p hp hl⟩
section
variable {F : Fence} {n n0 : Nat} {E0 : Emb} {ds : List Deferred} {env : Env} {Q : Exit → Act → World → Prop}
theorem c8Y (hF : Rd F) {r4 r5 r6 N i : Nat} {z : Int} {X NEW : AV} {Ha Hb Hc : Heap} (sc : Env → Env) (hi : i < N)
  (h9 : look env 9 = .loc r5 0 0) (h10 : look env 10 = .ro (.int .i64 (i : Int)) 0) (h14 : look env 14 = .ro (Z z) 0)
  (hr5 : ∀ H', H' = Ha ∨ H' = Hb ∨ H' = Hc → hrow H' r5 = some ⟨1, [.mu r4 0 N (some N)]⟩) (hr4 : ∀ H', H' = Ha ∨ H' = Hb ∨ H' = Hc → ∃ xs, hrow H' r4 = some ⟨1, xs⟩ ∧ xs.length = N)
  (hX : ∃ xs, hrow Ha r4 = some ⟨1, xs⟩ ∧ i < xs.length ∧ xs.getD i .top = X) (hXc : X.cells = [X]) (h4 : r4 ≠ r6) (h5 : r5 ≠ r6)
  (hsc : ∀ env t, nref r6 (look env t) = true → look (sc env) t = look env t) (happ : ∀ env, appV n0 2 32 false X (.sl 2 [Z z]) env Ha = some (NEW, sc env, Hb))
  (hst : ∃ xs, hrow Hb r4 = some ⟨1, xs⟩ ∧ i < xs.length ∧ Hc = Hb.set r4 (some ⟨1, xs.set i NEW⟩)) (hNf : NEW.fit = true) (hNc : NEW.cells.length = 1)
  (hQ : ∀ env', At n0 60 E0 ds (Q .normal) env' Hc) : At n0 60 E0 ds ((Code.region 15 (pops 15) true).wpIn F n Pr Q) env Ha := by
 obtain ⟨B, hB⟩ : ∃ B : List (Nat × AV), B = [(9, .loc r5 0 0), (10, .ro (.int .i64 (i : Int)) 0), (14, .ro (Z z) 0)] := ⟨_, rfl⟩
 obtain ⟨T, hT⟩ : ∃ T : List (Nat × Nat × AV), T = [(0, 49, .mu r4 0 N (some N)), (1, 50, .int .i64 (i : Int)), (2, 51, .mu r4 0 N (some N)), (3, 52, .int .i64 (i : Int)), (4, 53, .loc r4 i 0), (6, 55, Z z), (7, 56, .sl 2 [Z z]), (8, 57, NEW), (9, 58, .loc r4 i 0)] := ⟨_, rfl⟩
 refine At.regionJ hF e4S d6b e1J (fun lst env H' => TabT B T lst env ∧ (lst 5 = true → lst 8 = false → look env 54 = X) ∧ (lst 8 = true → lst 5 = true) ∧ (lst 10 = true → lst 8 = true) ∧ H' = (if lst 10 then Hc else if lst 8 then Hb else Ha)) ?_ ?_ ?_
 ·refine ⟨⟨fun p hp => ?_, fun p hp h => (by cases h)⟩, fun h => (by cases h), fun h => (by cases h), fun h => (by cases h), rfl⟩
  rw [hB] at hp
  simp only [List.mem_cons, List.not_mem_nil, or_false] at hp
  rcases hp with rfl | rfl | rfl
  ·exact h9
  ·exact h10
  ·exact h14
 ·rintro lst i' o x ho hx hli hed env H' ⟨hTab, hf5, hc8, hc10, hH⟩
  have dep : ∀ (d : List Nat), f1Q[i']? = some d → ∀ j ∈ d, lst j = true := fun d hd j hj => by
   obtain ⟨e, he, h1, h2⟩ := d0E e1H i' d o hd (by simpa using ho) j hj
   rw [← h1]; exact hed e he h2
  have hHH : H' = Ha ∨ H' = Hb ∨ H' = Hc := by
   rw [hH]; split
   ·exact .inr (.inr rfl)
   ·split
    ·exact .inr (.inl rfl)
    ·exact .inl rfl
  have bas : ∀ p ∈ B, look env p.1 = p.2 := hTab.1
  have e9 : look env 9 = .loc r5 0 0 := bas (9, _) (by rw [hB]; simp)
  have e10 : look env 10 = .ro (.int .i64 (i : Int)) 0 := bas (10, _) (by rw [hB]; simp)
  have e14 : look env 14 = .ro (Z z) 0 := bas (14, _) (by rw [hB]; simp)
  have tab : ∀ (k d : Nat) (a : AV), (k, d, a) ∈ T → lst k = true → look env d = a := fun k d a h hl => hTab.2 _ h hl
  have gr5 := hr5 H' hHH
  obtain ⟨ys, gr4, gl4⟩ := hr4 H' hHH
  have hlt : i' < 11 := by
   have := (List.getElem?_eq_some_iff.1 hx).1
   simpa [a2V] using this
  -- the heap stays, the variable d comes
  have same : ∀ (d : Nat) (a : AV), i' ≠ 8 → i' ≠ 10 → i' ≠ 5 → d ≠ 54 → (∀ p ∈ B, p.1 ≠ d) → (∀ p ∈ T, p.1 ≠ i' → p.2.1 ≠ d) → (∀ p ∈ T, p.1 = i' → p.2 = (d, a)) →
    TabT B T (fun j => lst j || j == i') (put (some d) a env) ∧ ((lst 5 || 5 == i') = true → (lst 8 || 8 == i') = false → look (put (some d) a env) 54 = X) ∧ ((lst 8 || 8 == i') = true → (lst 5 || 5 == i') = true) ∧ ((lst 10 || 10 == i') = true → (lst 8 || 8 == i') = true) ∧
     H' = (if (lst 10 || 10 == i') then Hc else if (lst 8 || 8 == i') then Hb else Ha) := by
   intro d a n8 n10 n5 hd h1 h2 h3
   have b8 : (8 == i') = false := by simpa using Ne.symm n8
   have b10 : (10 == i') = false := by simpa using Ne.symm n10
   have b5 : (5 == i') = false := by simpa using Ne.symm n5
   rw [b8, b10, b5]
   simp only [Bool.or_false]
   refine ⟨hTab.put h1 h2 h3, fun q1 q2 => ?_, hc8, hc10, hH⟩
   rw [a0W, if_neg (by intro e; cases e; exact hd rfl)]
   exact hf5 q1 q2
  have d1 : ∀ d, d ≠ 9 → d ≠ 10 → d ≠ 14 → ∀ p ∈ B, p.1 ≠ d := by
   intro d a1 a2 a3 p hp
   rw [hB] at hp
   simp only [List.mem_cons, List.not_mem_nil, or_false] at hp
   rcases hp with rfl | rfl | rfl
   ·exact Ne.symm a1
   ·exact Ne.symm a2
   ·exact Ne.symm a3
  rcases (by omega : i' = 0 ∨ i' = 1 ∨ i' = 2 ∨ i' = 3 ∨ i' = 4 ∨ i' = 5 ∨ i' = 6 ∨ i' = 7 ∨ i' = 8 ∨ i' = 9 ∨ i' = 10) with rfl | rfl | rfl | rfl | rfl | rfl | rfl | rfl | rfl | rfl | rfl
  all_goals (simp only [a2V, List.getElem?_cons_zero, List.getElem?_cons_succ, Option.some.injEq] at hx; subst hx; simp only [aops, a3W])
  ·simp only [pv, Src.ev, e9, a7p, atV, gr5, Option.bind_some, a9a, List.length_cons, List.length_nil, Nat.zero_add, Nat.lt_add_one, ↓reduceIte, List.getD_cons_zero, AV.cells, List.drop_zero, List.getElem?_cons_zero]
   exact same 49 _ (by decide) (by decide) (by decide) (by decide) (d1 49 (by decide) (by decide) (by decide)) (by rw [hT]; simp) (by rw [hT]; simp)
  ·simp only [pv, Src.ev, e10, a7p, atV, Option.bind_some, a9a, AV.cells, List.drop_zero, List.getElem?_cons_zero]
   exact same 50 _ (by decide) (by decide) (by decide) (by decide) (d1 50 (by decide) (by decide) (by decide)) (by rw [hT]; simp) (by rw [hT]; simp)
  ·simp only [pv, Src.ev, e9, a7p, atV, gr5, Option.bind_some, a9a, List.length_cons, List.length_nil, Nat.zero_add, Nat.lt_add_one, ↓reduceIte, List.getD_cons_zero, AV.cells, List.drop_zero, List.getElem?_cons_zero]
   exact same 51 _ (by decide) (by decide) (by decide) (by decide) (d1 51 (by decide) (by decide) (by decide)) (by rw [hT]; simp) (by rw [hT]; simp)
  ·simp only [pv, Src.ev, e10, a7p, atV, Option.bind_some, a9a, AV.cells, List.drop_zero, List.getElem?_cons_zero]
   exact same 52 _ (by decide) (by decide) (by decide) (by decide) (d1 52 (by decide) (by decide) (by decide)) (by rw [hT]; simp) (by rw [hT]; simp)
  ·have e51 : look env 51 = .mu r4 0 N (some N) := tab 2 51 _ (by rw [hT]; simp) (dep [2, 3] rfl 2 (by simp))
   have e52 : look env 52 = .int .i64 (i : Int) := tab 3 52 _ (by rw [hT]; simp) (dep [2, 3] rfl 3 (by simp))
   simp only [pv, Src.ev, e51, e52, idxV, gr4, Option.bind_some, Int.natCast_nonneg, Int.ofNat_lt, hi, and_self, ↓reduceIte, Int.toNat_natCast, Nat.zero_add, a9a]
   exact same 53 _ (by decide) (by decide) (by decide) (by decide) (d1 53 (by decide) (by decide) (by decide)) (by rw [hT]; simp) (by rw [hT]; simp)
  ·have e53 : look env 53 = .loc r4 i 0 := tab 4 53 _ (by rw [hT]; simp) (dep [4] rfl 4 (by simp))
   have l8 : lst 8 = false := by
    cases h : lst 8 with
    | false => rfl
    | true => rw [hc8 h] at hli; cases hli
   have l10 : lst 10 = false := by
    cases h : lst 10 with
    | false => rfl
    | true => rw [hc10 h] at l8; cases l8
   rw [l8, l10] at hH
   simp only [Bool.false_eq_true, ↓reduceIte] at hH
   subst hH
   obtain ⟨xs, q1, q2, q3⟩ := hX
   simp only [pv, Src.ev, e53, a7p, atV, q1, Option.bind_some, q2, ↓reduceIte, q3, hXc, List.drop_zero, List.getElem?_cons_zero, a9a]
   refine ⟨hTab.put (d1 54 (by decide) (by decide) (by decide)) (by rw [hT]; simp) (by rw [hT]; simp), fun _ _ => by rw [a0W]; simp, fun _ => by simp, fun h => by simp [l10] at h, by simp [l8, l10]⟩
  ·simp only [pv, Src.ev, e14, a7p, atV, Option.bind_some, Z, AV.cells, List.drop_zero, List.length_cons, List.length_nil, Nat.zero_add, Nat.reduceAdd, Nat.le_refl, ↓reduceIte, List.take_succ_cons, List.take_zero, a9a]
   exact same 55 _ (by decide) (by decide) (by decide) (by decide) (d1 55 (by decide) (by decide) (by decide)) (by rw [hT]; simp) (by rw [hT]; simp [Z])
  ·have e55 : look env 55 = Z z := tab 6 55 _ (by rw [hT]; simp) (dep [6] rfl 6 (by simp))
   have hcl : (Z z).cells.all clb = true := List.all_eq_true.2 fun c hc => c3u (by
    have := Z_cl z
    unfold Z at this hc
    simp only [AV.cells] at hc
    cases this with
    | agg _ h => exact h c hc)
   have hzf : (Z z).fit = true := rfl
   have hzl : (Z z).cells.length = 2 := rfl
   simp only [ev, Src.ev, e55, List.all_cons, List.all_nil, hzf, hzl, hcl, Bool.and_true, Bool.and_self, decide_true, and_self, Nat.zero_lt_succ, ↓reduceIte, List.map_cons, List.map_nil, b5q]
   exact same 56 _ (by decide) (by decide) (by decide) (by decide) (d1 56 (by decide) (by decide) (by decide)) (by rw [hT]; simp) (by rw [hT]; simp)
  ·have l5 := dep [5, 7] rfl 5 (by simp)
   have e54 := hf5 l5 hli
   have e56 : look env 56 = .sl 2 [Z z] := tab 7 56 _ (by rw [hT]; simp) (dep [5, 7] rfl 7 (by simp))
   have l10 : lst 10 = false := by
    cases h : lst 10 with
    | false => rfl
    | true => rw [hc10 h] at hli; cases hli
   rw [hli, l10] at hH
   simp only [Bool.false_eq_true, ↓reduceIte] at hH
   subst hH
   rw [e7X]
   simp only [Src.ev, e54, e56, happ, b5q]
   refine ⟨(hTab.turn (id := r6) (k := 8) (fun t ht => hsc env t ht) ?_ hli ?_).put (d1 57 (by decide) (by decide) (by decide)) (by rw [hT]; simp) (by rw [hT]; simp), fun _ h => by simp at h, fun _ => by simp [l5], fun _ => by simp, by simp [l10]⟩
   ·rw [hB]
    simp only [List.mem_cons, List.not_mem_nil, or_false, forall_eq_or_imp, forall_eq]
    exact ⟨a0j.2 (.loc _ _ _ h5), b4V _ _ _, b4V _ _ _⟩
   ·rw [hT]
    simp only [List.mem_cons, List.not_mem_nil, or_false, forall_eq_or_imp, forall_eq]
    exact ⟨fun _ => a0j.2 (.mu _ _ _ _ h4), fun _ => a3M _ _ _, fun _ => a0j.2 (.mu _ _ _ _ h4), fun _ => a3M _ _ _, fun _ => a0j.2 (.loc _ _ _ h4), fun _ => e8k _ _, fun _ => c5f _ _ _, fun h => absurd rfl h, fun _ => a0j.2 (.loc _ _ _ h4)⟩
  ·have e49 : look env 49 = .mu r4 0 N (some N) := tab 0 49 _ (by rw [hT]; simp) (dep [0, 1, 8] rfl 0 (by simp))
   have e50 : look env 50 = .int .i64 (i : Int) := tab 1 50 _ (by rw [hT]; simp) (dep [0, 1, 8] rfl 1 (by simp))
   simp only [pv, Src.ev, e49, e50, idxV, gr4, Option.bind_some, Int.natCast_nonneg, Int.ofNat_lt, hi, and_self, ↓reduceIte, Int.toNat_natCast, Nat.zero_add, a9a]
   exact same 58 _ (by decide) (by decide) (by decide) (by decide) (d1 58 (by decide) (by decide) (by decide)) (by rw [hT]; simp) (by rw [hT]; simp)
  ·have l8 := dep [8, 9] rfl 8 (by simp)
   have e57 : look env 57 = NEW := tab 8 57 _ (by rw [hT]; simp) l8
   have e58 : look env 58 = .loc r4 i 0 := tab 9 58 _ (by rw [hT]; simp) (dep [8, 9] rfl 9 (by simp))
   rw [hli, l8] at hH
   simp only [Bool.false_eq_true, ↓reduceIte] at hH
   subst hH
   obtain ⟨xs, q1, q2, q3⟩ := hst
   have hu : upd (xs.getD i .top) 1 0 1 NEW = NEW := by simp [upd]
   simp only [ev, Src.ev, e57, e58, q1, Option.bind_some, q2, hNf, hNc, Nat.zero_add, Nat.le_refl, and_self, ↓reduceIte, hu, b5q]
   refine ⟨hTab.put0 (by rw [hT]; simp), fun _ h => by simp [l8] at h, fun _ => by simp [hc8 l8], fun _ => by simp [l8], by simp [q3]⟩
 ·rintro lst hlst env H' ⟨hTab, hf5, hc8, hc10, hH⟩
  have l10 := hlst 10 (by
   have : (pops 15).toList.length = a2V.length := ((a6j _ _ _ d6b).1).symm
   simp [a2V] at this
   omega)
  rw [l10] at hH
  simp only [↓reduceIte] at hH
  subst hH
  exact hQ env
end
end Go.Abs
namespace Go.Abs
open Go.RowKit Go.Proofs
section
variable {F : Fence} {P : Program} {n n0 nt : Nat} {E0 : Emb} {ds : List Deferred} {env : Env} {H L : Heap} {Q : Exit → Act → World → Prop} {C : Act → World → Prop}
theorem At.kcd {K : Env → Heap → Prop} (h : K env H) : At n0 nt E0 ds (KcD n0 nt E0 K ds) env H := fun φ w tmps hsz hok he hn hx => ⟨rfl, φ, env, H, h, hok, he, rfl, hsz, hn, hx⟩
theorem At.rend {K : Heap → Prop} (h : K H) : At n0 nt E0 ds (b8N n0 E0 K .normal) env H := fun φ w tmps hsz hok he hn hx => ⟨rfl, φ, H, h, hok, hn, hx⟩
theorem At.since {E1 : Emb} (hx : Ext (· < n0) E0 E1) (h : At n0 nt E0 ds C env H) : At n0 nt E1 ds C env H := fun φ w tmps hsz hok he hn hx' => h φ w tmps hsz hok he hn (hx.trans hx')
theorem At.condF {t : Nat} {x y : Code} (ht : look env t = .bool false) (h : At n0 nt E0 ds (y.wpIn F n P Q) env H) : At n0 nt E0 ds ((Code.cond (.tmp t) x y).wpIn F n P Q) env H := At.cond ht h
theorem At.dropC {o : Option Blk} (hH : a0C H) (hi : n0 ≤ lid H L.length) (he : env.all (fun p => nref (lid H L.length) p.2) = true)
  (hL : ∀ b, some b ∈ L → ∀ a ∈ b.flat, nref (lid H L.length) a = true) (h : At n0 nt E0 ds C env (hap H L)) {L' : Heap} (e : L' = L ++ [o]) : At n0 nt E0 ds C env (hap H L') := by
 subst e; exact At.drop hH hi he hL h
theorem At.leaves2 {E : Emb} {fn : Func} {rs : List ResV} {av : List AV} {R : Ending → World → Prop} {D2 D0 : Nat} (hres : cres P fn.results.toList = some rs) (hL : resL env H rs = some av) (hx : Ext (· < n0) E E0)
  (h2 : E0.w.heap[D2]? = some (.deferred (some []))) (m2 : ¬ E0.Mut D2) (h0 : E0.w.heap[D0]? = some (.deferred (some []))) (m0 : ¬ E0.Mut D0) (hne : D0 ≠ D2) (s2 : E.w.heap.size ≤ D2) (s0 : E.w.heap.size ≤ D0)
  (hR : ∀ v φ w', HOk ⟨φ, H, w'⟩ → Rep ⟨φ, H, w'⟩ v (b9m av) → n0 ≤ H.length → Ext (· < n0) E ⟨φ, H, w'⟩ → R (.returned v) w') :
  At n0 nt E0 [{ target := .collected D2, args := #[] }, { target := .collected D0, args := #[] }] (bodyPostM F n P fn R .ret) env H := by
 intro φ w tmps hsz hok he hn hx'
 have e2 : w.heap[D2]? = some (.deferred (some [])) := (hx'.keep D2 (a1G h2) m2).trans h2
 have e0 : w.heap[D0]? = some (.deferred (some [])) := (hx'.keep D0 (a1G h0) m0).trans h0
 have n2 : ¬ Emb.Mut ⟨φ, H, w⟩ D2 := fun h => m2 (hx'.muts D2 (a1G h2) h)
 have n0' : ¬ Emb.Mut ⟨φ, H, w⟩ D0 := fun h => m0 (hx'.muts D0 (a1G h0) h)
 have ok1 := b2C (E := ⟨φ, H, w⟩) (.deferred none) e2 rfl n2 hok
 have e0' : (w.putObj D2 (.deferred none)).heap[D0]? = some (.deferred (some [])) := (World.putObj_heap_other hne).trans e0
 have ok2 := b2C (E := ⟨φ, H, w.putObj D2 (.deferred none)⟩) (.deferred none) e0' rfl n0' ok1
 have re1 : a0B ⟨φ, H, w.putObj D2 (.deferred none)⟩ env tmps := fun t => a7Q (E := ⟨φ, H, w⟩) _ e2 rfl n2 (he t)
 have re2 : a0B ⟨φ, H, (w.putObj D2 (.deferred none)).putObj D0 (.deferred none)⟩ env tmps := fun t => a7Q (E := ⟨φ, H, w.putObj D2 (.deferred none)⟩) _ e0' rfl n0' (re1 t)
 have x1 := a7R (E := ⟨φ, H, w⟩) (.deferred none) (hx.trans hx') n2 s2
 have x2 := a7R (E := ⟨φ, H, w.putObj D2 (.deferred none)⟩) (.deferred none) x1 n0' s0
 obtain ⟨v, q1, q2⟩ := b6a (E := ⟨φ, H, (w.putObj D2 (.deferred none)).putObj D0 (.deferred none)⟩) ok2 re2 hres hL
 refine ⟨by simp, .inl ⟨D2, _, rfl, run_takeDeferred e2, by simp, .inl ⟨D0, _, rfl, run_takeDeferred e0', ?_⟩⟩⟩
 exact ⟨v, q1, hR v φ _ ok2 q2 hn x2⟩
theorem a0m.ofAt {f : FuncId} {fn : Func} {c : Code} (hf : P.funcs[f]? = some fn) (hb : fn.body = some c) (hnm : (fn.name == "runtime.NumGoroutine") = false) {args : List AV} {R : AV → Heap → Prop} (ha : args.length ≤ fn.ntmps)
  (h : a0C H → ∀ E : Emb, At H.length fn.ntmps E [] (c.wpIn Fence.wide n P (bodyPostM Fence.wide n P fn fun e w' => ∃ v r φ' H', e = .returned v ∧ R r H' ∧ HOk ⟨φ', H', w'⟩ ∧ Rep ⟨φ', H', w'⟩ v r ∧ H.length ≤ H'.length ∧ Ext (· < H.length) E ⟨φ', H', w'⟩)) (b8k 0 args) H) : a0m P f args H R := by
 refine ⟨⟨fn, hf, by simpa using hnm, by simp [hb]⟩, fun φ w vs hok hl hr => ?_⟩
 refine (callsIn_wide (n := n)).1 (callsIn_of_wp_marks hf hb trivial ?_ rfl)
 refine h (fun id blk hl => hok.refs hl) ⟨φ, H, w⟩ φ w (vs.toArray ++ Array.replicate (fn.ntmps - vs.toArray.size) undef) (by simp; omega) hok (fun t => ?_) (Nat.le_refl _) (Ext.refl _ _)
 rw [b9H]
 simp only [Nat.zero_le, if_true, Nat.sub_zero]
 rcases Nat.lt_or_ge t args.length with ht | ht
 ·rw [List.getElem?_eq_getElem ht, Option.getD_some]
  have : (vs.toArray ++ Array.replicate (fn.ntmps - vs.toArray.size) undef).getD t undef = vs[t]'(by omega) := by
   rw [Array.getD_eq_getD_getElem?, Array.getElem?_append_left (by simp; omega)]
   simp [List.getElem?_eq_getElem (show t < vs.length by omega)]
  rw [this]
  exact hr t _ _ (List.getElem?_eq_getElem (by omega)) (List.getElem?_eq_getElem ht)
 ·rw [List.getElem?_eq_none ht]; exact .top _
end
theorem e9V (v : List (List ZI)) : Cl (.fn a0w [.ro (matV v) 0]) := .fn _ _ (d5P (c4Q v 0))
theorem a3T (v : List (List ZI)) : a0d Pr a6m [matV v] (.fn a0w [.ro (matV v) 0]) := by
 refine a0d.intro d5H d5G (Nat.le_of_ble_eq_true rfl) (e9V v) fun H hH => ?_
 repeat (first | refine Safe.seq ?_ | refine Safe.skip ?_ | refine Safe.inBlock ?_ | refine Safe.block ?_ | refine Safe.exit rfl ?_)
 refine Safe.rg rfl ?_
 simp only [c3t, E3, seval]
 refine Safe.freeze 0 (b := ⟨1, [matV v]⟩) hH rfl rfl (a1U (a2g v)) ?_
 simp only [a0K, E3, seval]
 repeat (first | refine Safe.seq ?_ | refine Safe.skip ?_ | refine Safe.inBlock ?_ | refine Safe.block ?_ | refine Safe.exit rfl ?_)
 refine Safe.rg rfl ?_
 simp only [c3s, E3, seval]
 repeat (first | refine Safe.seq ?_ | refine Safe.skip ?_ | refine Safe.inBlock ?_ | refine Safe.block ?_ | refine Safe.exit rfl ?_)
 refine Safe.rt rfl ?_
 simp only [E3, seval]
 first | exact ⟨rfl, _, rfl⟩ | exact ⟨_, rfl⟩ | exact ⟨trivial, _, rfl⟩
end Go.Abs
namespace Go.Abs
open Go.RowKit Go.Proofs
def b9l (b m : List (List ZI)) (i : Nat) : List ZI := vec m.length fun j => dotZ (mg b i) (mg m j)
def e2J (b m : List (List ZI)) : List (List ZI) := mat b.length (b9l b m)
def b5Z (b m : List (List ZI)) (i : Nat) (X : AV) : List AV := (mat i (b9l b m)).map vecV ++ X :: List.replicate (b.length - i - 1) .nil
theorem a7T {b m : List (List ZI)} {i : Nat} (hi : i < b.length) (X : AV) : (b5Z b m i X).length = b.length := by
 unfold b5Z
 simp [a0f]; omega
theorem d3p (b m : List (List ZI)) (i : Nat) (X : AV) : (b5Z b m i X).getD i .top = X := by
 unfold b5Z
 rw [List.getD_eq_getElem?_getD, List.getElem?_append_right (by simp [a0f])]
 simp [a0f]
theorem d3o (b m : List (List ZI)) (i : Nat) (X Y : AV) : (b5Z b m i X).set i Y = b5Z b m i Y := by
 unfold b5Z
 rw [List.set_append_right _ _ (by simp [a0f])]
 simp [a0f]
theorem a7S (b m : List (List ZI)) (i : Nat) (X : AV) (f : AV → AV) (h1 : ∀ v, f (vecV v) = vecV v) (h2 : f .nil = .nil) : (b5Z b m i X).map f = b5Z b m i (f X) := by
 unfold b5Z
 simp only [List.map_append, List.map_cons, List.map_map, List.map_replicate, h2]
 congr 1
 exact List.map_congr_left fun v _ => h1 v
def LPb (H : Heap) (b m : List (List ZI)) (i : Nat) (X : AV) (t : Heap) : Heap := none :: none :: some ⟨1, [.nil]⟩ :: some ⟨1, [.int .i64 0]⟩ :: some ⟨1, b5Z b m i X⟩ :: some ⟨1, [.mu (lid H 4) 0 b.length (some b.length)]⟩ :: t
def LPi (H : Heap) (b m : List (List ZI)) (i : Nat) : Nat → Heap
 | 0 => LPb H b m i .nil []
 | j + 1 => LPb H b m i (.mu (lid H 6) 0 (j + 1) none) [some ⟨2, (vec (j + 1) fun j => dotZ (mg b i) (mg m j)).map ZI.av⟩]
theorem e8M (H : Heap) (b m : List (List ZI)) (i k : Nat) (v : List ZI) : a1C (lid H 6) (LPb H b m i (.mu (lid H 6) 0 k none) [some ⟨2, v.map ZI.av⟩]) = LPb H b m i .top [some ⟨2, v.map ZI.av⟩] := by
 unfold LPb
 simp only [d6E, a5E, a7P, b0K, List.map_cons, List.map_nil, a2K (a4p _), a2K (a3M _ _ _)]
 rw [a7S b m i _ _ (fun v => a2K (a0y (a0g v))) (a2K (a4p _)), e2v, b0L _ ZI.cl, a2K (a0j.2 (.mu _ _ _ _ (by simp [lid])))]
theorem b8O {H : Heap} {b m : List (List ZI)} {i id : Nat} {X : AV} {t : Heap} (h4 : lid H 4 ≠ id) (hX : nref id X = true) (hXc : X.cells = [X]) (ht : ∀ b', some b' ∈ t → ∀ a ∈ b'.flat, nref id a = true) : ∀ b', some b' ∈ LPb H b m i X t → ∀ a ∈ b'.flat, nref id a = true := by
 intro b' hb' a ha
 unfold LPb at hb'
 simp only [List.mem_cons, reduceCtorEq, false_or, Option.some.injEq] at hb'
 rcases hb' with rfl | rfl | rfl | rfl | hb'
 ·simp [Blk.flat, AV.cells] at ha; subst ha; exact a4p _
 ·simp [Blk.flat, AV.cells] at ha; subst ha; exact a3M _ _ _
 ·simp only [Blk.flat, b5Z, List.flatMap_append, List.flatMap_cons, hXc, List.mem_append, List.mem_flatMap, List.mem_map, List.mem_singleton, List.mem_replicate] at ha
  rcases ha with ⟨x, ⟨v, _, rfl⟩, ha⟩ | rfl | ⟨x, ⟨_, rfl⟩, ha⟩
  ·simp [vecV, AV.cells] at ha; subst ha; exact c5f _ _ _
  ·exact hX
  ·simp [AV.cells] at ha; subst ha; exact a4p _
 ·simp [Blk.flat, AV.cells] at ha; subst ha; exact a0j.2 (.mu _ _ _ _ h4)
 ·exact ht b' hb' a ha
theorem b4a (H : Heap) {i j : Nat} (h : i ≠ j) : lid H i ≠ lid H j := by simp [lid, h]
section
variable {F : Fence} {k n1 : Nat} {E1 : Emb} {H : Heap} {b m : List (List ZI)} {e i j : Nat}
theorem d7g (hF : Rd F) (hH : a0C H) (hb : Mok e b) (hm : Mok e m) (hp : e + e + 2 < 17592186044416) (hi : i < b.length) (hj : j < m.length) (hl : (mg b i).length = (mg m j).length) (hn1 : n1 = lid H 6) :
  At n1 60 E1 [] ((Code.block 5 (.seq (.region 14 (pops 14) false) (.region 15 (pops 15) true))).wpIn F k Pr (b8N n1 E1 (fun H' => H' = hap H (LPi H b m i (j + 1)))))
   [(13, vecV (mg m j)), (9, .loc (lid H 5) 0 0), (10, .ro (.int .i64 (i : Int)) 0), (11, .ro (vecV (mg b i)) 0)] (hap H (LPi H b m i j)) := by
 subst hn1
 have hml : m.length ≤ 2097152 := hm.len
 have hdot := e7Z (mg b i) (mg m j) e (hb.row i) (hm.row j) hp hl
 refine At.block (At.seq (At.region hF e4U ?_))
 cases j with
 | zero =>
  obtain ⟨z, hz⟩ : ∃ z, z = dotZ (mg b i) (mg m 0) := ⟨_, rfl⟩
  have hcell : AV.cells .nil = [.nil] := rfl
  have hn := b8O (H := H) (b := b) (m := m) (i := i) (X := .nil) (t := []) (b4a H (show 4 ≠ 6 by decide)) (a4p _) hcell (by simp)
  simp only [LPi, LPb]
  simp only [a7D, E3, seval]
  first | refine (hdot).acall ?_ | refine (hdot).dcall ?_ | refine (hdot).dgcall ?_
  try simp only [E3, seval]
  rw [← hz]
  refine At.freeze 6 (b := ⟨2, [Z z]⟩) hH rfl (a1U (Z_cl _)) (Nat.le_refl _) ?_
  refine At.keep [9, 10, 14] ?_
  simp only [a0K, a0G, a1m, a7S b m i .nil _ (fun v => a3v (a0g v)) (b9Y _ _), f0B, E3, seval]
  refine At.dropC (L := LPb H b m i .nil []) (o := none) hH (Nat.le_refl _) ?_ hn ?_ rfl
  ·simp only [List.all_cons, List.all_nil, E3, seval]
   simp [LPb]
  refine c8Y (r4 := lid H 4) (r5 := lid H 5) (r6 := lid H 6) (N := b.length) (i := i) (z := z) (X := .nil) (NEW := .mu (lid H 6) 0 1 none) (Hb := hap H (LPb H b m i .nil [some ⟨2, [Z z]⟩])) (Hc := hap H (LPb H b m i (.mu (lid H 6) 0 1 none) [some ⟨2, [Z z]⟩])) hF id hi rfl rfl rfl ?_ ?_ ⟨_, a0I _ _ _, ?_, ?_⟩ rfl (b4a H (by decide)) (b4a H (by decide)) (fun _ _ _ => rfl)
   (fun env => a9I (H := H) (L := LPb H b m i .nil []) (lid H 6) env 2 32 false (.sl 2 [Z z]) [Z z] (a1f _ _ _) (by decide) (by simp) (by simp)) ⟨_, a0I _ _ _, ?_, ?_⟩ rfl rfl ?_
  ·rintro H' (rfl | rfl | rfl) <;> exact a0I _ _ _
  ·rintro H' (rfl | rfl | rfl) <;> exact ⟨_, a0I _ _ _, a7T hi _⟩
  ·rw [a7T hi]; exact hi
  ·exact d3p _ _ _ _
  ·rw [a7T hi]; exact hi
  ·rw [a2P, d3o]; rfl
  ·intro env'
   refine At.rend ?_
   rw [hz]; rfl
 | succ j =>
  obtain ⟨z, hz⟩ : ∃ z, z = dotZ (mg b i) (mg m (j + 1)) := ⟨_, rfl⟩
  obtain ⟨g, hg⟩ : ∃ g : Nat → Int, g = fun j => dotZ (mg b i) (mg m j) := ⟨_, rfl⟩
  have hn := b8O (H := H) (b := b) (m := m) (i := i) (X := .mu (lid H 6) 0 (j + 1) none) (id := lid H 7) (t := [some ⟨2, (vec (j + 1) g).map ZI.av⟩]) (b4a H (show 4 ≠ 7 by decide)) (a0j.2 (.mu _ _ _ _ (b4a H (by decide)))) rfl (by
   intro b' hb' a ha
   simp only [List.mem_singleton, Option.some.injEq] at hb'
   subst hb'
   exact a0y (a1t 2 ZI.av _ ZI.cl a ha))
  simp only [LPi]
  rw [← hg]
  simp only [LPb]
  simp only [a7D, E3, seval]
  first | refine (hdot).acall ?_ | refine (hdot).dcall ?_ | refine (hdot).dgcall ?_
  try simp only [E3, seval]
  rw [← hz]
  refine At.freeze 7 (b := ⟨2, [Z z]⟩) hH rfl (a1U (Z_cl _)) (by simp [lid]) ?_
  refine At.keep [9, 10, 14] ?_
  simp only [a0K, a0G, a1m, a7S b m i (.mu (lid H 6) 0 (j + 1) none) _ (fun v => a3v (a0g v)) (b9Y _ _), f0B, a5Y, E3, seval]
  refine At.dropC (L := LPb H b m i (.mu (lid H 6) 0 (j + 1) none) [some ⟨2, (vec (j + 1) g).map ZI.av⟩]) (o := none) hH (by simp [lid, LPb]) ?_ hn ?_ rfl
  ·simp only [List.all_cons, List.all_nil, E3, seval]
   simp [LPb]
  have happ := fun env => c7J (L := LPb H b m i (.mu (lid H 6) 0 (j + 1) none) [some ⟨2, (vec (j + 1) g).map ZI.av⟩]) hH (i := 6) (n0 := lid H 6) (wd := 2) (bytes := 32) (len := j + 1) (env := env) (y := .sl 2 [Z z]) (xs := (vec (j + 1) g).map ZI.av) (ys := [Z z]) rfl (by simp [a0e]) (Nat.le_refl _) (a1f _ 2 _)
   (fun a ha => by
    simp only [List.flatMap_cons, List.flatMap_nil, List.append_nil] at ha
    exact a0y (a3f (Z_cl _) a ha)) (fun a ha => by obtain ⟨y, _, rfl⟩ := List.mem_map.1 ha; exact a0y (ZI.cl y)) (by simp; omega) (by simp; omega)
  rw [e8M] at happ
  refine c8Y (r4 := lid H 4) (r5 := lid H 5) (r6 := lid H 6) (N := b.length) (i := i) (z := z) (X := .mu (lid H 6) 0 (j + 1) none) (NEW := .mu (lid H 6) 0 (j + 1 + 1) none) (Hb := hap H (LPb H b m i .top [some ⟨2, (vec (j + 1) g).map ZI.av ++ [Z z]⟩])) (Hc := hap H (LPb H b m i (.mu (lid H 6) 0 (j + 1 + 1) none) [some ⟨2, (vec (j + 1) g).map ZI.av ++ [Z z]⟩])) hF (scrub (lid H 6)) hi rfl rfl rfl ?_ ?_ ⟨_, a0I _ _ _, ?_, ?_⟩ rfl (b4a H (by decide)) (b4a H (by decide)) (fun env t h => by rw [a1E, if_pos h])
   happ ⟨_, a0I _ _ _, ?_, ?_⟩ rfl rfl ?_
  ·rintro H' (rfl | rfl | rfl) <;> exact a0I _ _ _
  ·rintro H' (rfl | rfl | rfl) <;> exact ⟨_, a0I _ _ _, a7T hi _⟩
  ·rw [a7T hi]; exact hi
  ·exact d3p _ _ _ _
  ·rw [a7T hi]; exact hi
  ·rw [a2P, d3o]; rfl
  ·intro env'
   refine At.rend ?_
   have : (vec (j + 1 + 1) g).map ZI.av = (vec (j + 1) g).map ZI.av ++ [Z z] := by rw [a4n (j + 1), List.map_append, hz, hg]; rfl
   rw [this]; rfl
end
end Go.Abs
namespace Go.Abs
open Go.RowKit Go.Proofs
def LO (H : Heap) (b m : List (List ZI)) (i : Nat) : Heap := [none, none, some ⟨1, [.nil]⟩, some ⟨1, [.int .i64 0]⟩, some ⟨1, (mat i (b9l b m)).map vecV ++ List.replicate (b.length - i) .nil⟩, some ⟨1, [.mu (lid H 4) 0 b.length (some b.length)]⟩]
theorem f0F {H : Heap} {b m : List (List ZI)} {i : Nat} (hi : i < b.length) : LO H b m i = LPi H b m i 0 := by
 unfold LO LPi LPb b5Z
 rw [show b.length - i = (b.length - i - 1) + 1 by omega, List.replicate_succ, show b.length - i - 1 + 1 - 1 = b.length - i - 1 by omega]
theorem f2v {H : Heap} {b m : List (List ZI)} {i : Nat} (hi : i < b.length) : LO H b m (i + 1) = LPb H b m i (vecV (b9l b m i)) [] := by
 unfold LO LPb b5Z
 rw [a4q, show b.length - (i + 1) = b.length - i - 1 by omega]
 simp
theorem e5a (H : Heap) (b m : List (List ZI)) (i : Nat) : (hap H (LO H b m i)).length = lid H 6 := by simp [hap, LO, lid]
section
variable {k n1 l : Nat} {E1 : Emb} {H : Heap} {b m : List (List ZI)} {e i : Nat}
theorem d7f (hH : a0C H) (hk : 2 ≤ k) (hb : Mok e b) (hm : Mok e m) (hp : e + e + 2 < 17592186044416) (hi : i < b.length) (hm0 : 0 < m.length) (hl : ∀ j, j < m.length → (mg b i).length = (mg m j).length) (hn1 : n1 = lid H 6)
  (hrec : ∃ r, E1.w.heap[l]? = some (.loop r)) (hmut : ¬ E1.Mut l) :
  At n1 60 E1 [] ((Code.block 3 (.seq (.region 12 (pops 12) false) (.block 4 (.rangeFunc (.tmp 40) #[41, 42] (.region 13 (pops 13) false) (.block 5 (.seq (.region 14 (pops 14) false) (.region 15 (pops 15) true))))))).wpIn (Fence.wide.inRound l) k Pr (b8N n1 E1 (fun H' => H' = hap H (LO H b m (i + 1)))))
   [(10, .ro (.int .i64 (i : Int)) 0), (11, .ro (vecV (mg b i)) 0), (9, .loc (lid H 5) 0 0), (3, .ro (matV m) 0)] (hap H (LO H b m i)) := by
 subst hn1
 have hml : m.length ≤ 2097152 := hm.len
 have hF : Rd (Fence.wide.inRound l) := .inr ⟨_, rfl⟩
 refine At.block (At.seq (At.region hF e4W ?_))
 simp only [b4H, E3, seval]
 first | refine (a3T m).acall ?_ | refine (a3T m).dcall ?_ | refine (a3T m).dgcall ?_
 try simp only [E3, seval]
 refine At.block (At.keep [9, 10, 11, 40] ?_)
 simp only [E3, seval]
 rw [f0F hi]
 have hlen : (hap H (LPi H b m i 0)).length = lid H 6 := by rw [← f0F hi]; exact e5a H b m i
 refine At.rangeN (v := m) (KI := fun j H' => H' = hap H (LPi H b m i j)) (KA := fun j env' H' => env' = [(13, vecV (mg m j)), (9, .loc (lid H 5) 0 0), (10, .ro (.int .i64 (i : Int)) 0), (11, .ro (vecV (mg b i)) 0)] ∧ H' = hap H (LPi H b m i j)) hrec hmut hk hm0 (by omega) rfl (by omega) (by omega) rfl ?_ ?_ ?_
 ·rintro j hj l' E2 H' rfl
  rw [← a1F hj]
  refine At.region (.inr ⟨_, rfl⟩) e4V ?_
  simp only [b4G, E3, seval]
  refine At.keep [13, 9, 10, 11] ?_
  simp only [E3, seval]
  exact At.kcd ⟨rfl, rfl⟩
 ·rintro j hj l' E2 env' H' hrec' hmut' ⟨rfl, rfl⟩
  exact d7g (.inr ⟨_, rfl⟩) hH hb hm hp hi hj (hl j hj) hlen
 ·rintro E2 H' rfl _ hx
  refine At.since hx ?_
  obtain ⟨M, hM⟩ : ∃ M, m.length = M + 1 := ⟨m.length - 1, by omega⟩
  have hP : vec (M + 1) (fun j => dotZ (mg b i) (mg m j)) = b9l b m i := by unfold b9l; rw [hM]
  rw [hM]
  simp only [LPi]
  rw [hP]
  have hn := b8O (H := H) (b := b) (m := m) (i := i) (X := vecV (b9l b m i)) (t := []) (b4a H (show 4 ≠ 6 by decide)) (a0y (a0g _)) rfl (by simp)
  simp only [LPb]
  refine At.freeze 6 (b := ⟨2, (b9l b m i).map ZI.av⟩) hH rfl (a1t 2 ZI.av _ ZI.cl) (Nat.le_refl _) ?_
  refine At.keep [] ?_
  have hfr := b9W H 6 (b9l b m i) (M + 1) none (by unfold b9l; rw [a0e, hM])
  simp only [a1m, a7S b m i (.mu (lid H 6) 0 (M + 1) none) _ (fun v => a3v (a0g v)) (b9Y _ _), hfr, E3, seval]
  refine At.dropC (L := LPb H b m i (vecV (b9l b m i)) []) (o := none) hH (Nat.le_refl _) rfl hn ?_ rfl
  rw [← f2v hi]
  exact At.rend rfl
end
end Go.Abs
namespace Go.Abs
open Go.RowKit Go.Proofs
theorem e5J (b m : List (List ZI)) : Cl (.tup [matV (e2J b m), .int .i64 0]) := .tup _ (by simp only [List.mem_cons, List.not_mem_nil, or_false, forall_eq_or_imp, forall_eq]; exact ⟨a2g _, .int _ _⟩)
theorem e0m (b m : List (List ZI)) (e : Nat) (hb : Mok e b) (hm : Mok e m) (he : GB e + GB e + 8 < 17592186044000) (hval : valE true b = 0) (hb0 : 0 < b.length) (hm0 : 0 < m.length) (hrb : ∀ i, i < b.length → (mg b i).length = wid b) (hrm : ∀ j, j < m.length → (mg m j).length = wid b) :
  a0d Pr c3x [matV b, matV m] (.tup [matV (e2J b m), .int .i64 0]) := by
 intro H
 have hv := c8O b e hb he
 rw [hval] at hv
 have hbl : b.length ≤ 2097152 := hb.len
 have hml : m.length ≤ 2097152 := hm.len
 have hp : e + e + 2 < 17592186044416 := by unfold GB at he; omega
 refine a0m.cut (e5J b m).ref (a0m.ofAt (n := 20) Try.func7 e1I (by kernel_rfl) (by show 2 ≤ 60; omega) fun hH E => ?_)
 have hnt : Try.f7.ntmps = 60 := rfl
 rw [hnt, ← a1T H]
 have hw : Rd Fence.wide := .inl rfl
 refine At.seq (At.region hw e7F ?_)
 simp only [b8D, E3, seval]
 refine At.freeze 0 (b := ⟨1, [matV b]⟩) hH rfl (a1U (a2g b)) (by simp [lid, hap]) ?_
 refine At.keep [2, 3, 4, 5] ?_
 simp only [a0K, a0G, E3, seval]
 refine At.freeze 1 (b := ⟨1, [matV m]⟩) hH rfl (a1U (a2g m)) (by simp [lid, hap]) ?_
 refine At.keep [2, 3, 4, 5] ?_
 simp only [a0K, a0G, E3, seval]
 refine At.seq (At.seq (At.region hw e7E ?_))
 simp only [b8C, E3, seval]
 first | refine (hv).acall ?_ | refine (hv).dcall ?_ | refine (hv).dgcall ?_
 try simp only [E3, seval]
 refine At.seq (At.region hw e7D ?_)
 simp only [b8B, E3, seval]
 refine At.condF rfl (At.skip ?_)
 refine At.seq (At.seq (At.region hw e7C ?_))
 simp only [b8A, E3, seval]
 first | refine (a3T m).acall ?_ | refine (a3T m).dcall ?_ | refine (a3T m).dgcall ?_
 try simp only [E3, seval]
 refine At.block (At.keep [2, 3, 4, 5, 22] ?_)
 simp only [E3, seval]
 refine At.rangeO (v := m) (KI := fun _ H' => H' = hap H [none, none, some ⟨1, [.nil]⟩, some ⟨1, [.int .i64 0]⟩]) (KA := fun j env' H' => env' = [(8, vecV (mg m j)), (2, .ro (matV b) 0)] ∧ H' = hap H [none, none, some ⟨1, [.nil]⟩, some ⟨1, [.int .i64 0]⟩]) (by omega) hm0 (by omega) rfl (by omega) (by omega) rfl ?_ ?_ ?_
 ·rintro j hj l' E2 H' rfl
  rw [← a1F hj]
  refine At.region (.inr ⟨_, rfl⟩) e7B ?_
  simp only [b8z, E3, seval]
  refine At.keep [8, 2] ?_
  simp only [E3, seval]
  exact At.kcd ⟨rfl, rfl⟩
 ·rintro j hj l' E2 env' H' hrec' hmut' ⟨rfl, rfl⟩
  refine At.block (At.seq (At.region (.inr ⟨_, rfl⟩) e7A ?_))
  have hle : ((mg m j).length : Int) = ((b[0]).length : Int) := by rw [hrm j hj, ← hrb 0 hb0, a1F hb0]
  simp only [b8y, b2I _ b _ hb0, b4N, hle, E3, seval]
  refine At.condF (by simp [look]) (At.skip (At.rend rfl))
 ·rintro D0 E1 H' rfl hD0 hD0' hx1 hd0 hdm0
  refine At.keep [2, 3, 4, 5] ?_
  simp only [E3, seval]
  refine At.seq (At.region hw e7z ?_)
  simp only [b8x, b9F, b7J _ _ _ 1 24 .nil .i64 .i64 b.length b.length (by decide) (Nat.le_refl _) (by omega) (by omega), E3, seval]
  refine At.seq (At.seq (At.region hw e7y ?_))
  simp only [b8w, E3, seval]
  first | refine (a3T b).acall ?_ | refine (a3T b).dcall ?_ | refine (a3T b).dgcall ?_
  try simp only [E3, seval]
  refine At.block (At.keep [3, 4, 5, 9, 36] ?_)
  simp only [E3, seval]
  refine At.rangeO (v := b) (H := hap H (LO H b m 0)) (KI := fun i H' => H' = hap H (LO H b m i)) (KA := fun i env' H' => env' = [(10, .ro (.int .i64 (i : Int)) 0), (11, .ro (vecV (mg b i)) 0), (9, .loc (lid H 5) 0 0), (3, .ro (matV m) 0)] ∧ H' = hap H (LO H b m i)) (by omega) hb0 (by omega) rfl (by omega) (by omega) rfl ?_ ?_ ?_
  ·rintro i hi l' E2 H' rfl
   rw [← a1F hi, e5a, f0F hi]
   have hn6 := b8O (H := H) (b := b) (m := m) (i := i) (X := .nil) (t := []) (b4a H (show 4 ≠ 6 by decide)) (a4p _) rfl (by simp)
   have hn7 := b8O (H := H) (b := b) (m := m) (i := i) (X := .nil) (t := [none]) (b4a H (show 4 ≠ 7 by decide)) (a4p _) rfl (by simp)
   refine At.seq (At.region (.inr ⟨_, rfl⟩) e4Y ?_)
   simp only [LPi, LPb]
   simp only [b4J, E3, seval]
   refine At.region (.inr ⟨_, rfl⟩) e4X ?_
   simp only [b4I, E3, seval]
   refine At.freeze 6 (b := ⟨1, [.int .i64 (i : Int)]⟩) hH rfl (a1U (.int _ _)) (Nat.le_refl _) ?_
   refine At.keep [10, 11, 9, 3] ?_
   simp only [a0K, a0G, a1m, a7S b m i .nil _ (fun v => a3v (a0g v)) (b9Y _ _), a3v (a0g _), E3, seval]
   refine At.freeze 7 (b := ⟨1, [vecV (mg b i)]⟩) hH rfl (a1U (a0g _)) (by simp [lid]) ?_
   refine At.keep [10, 11, 9, 3] ?_
   simp only [a0K, a0G, a1m, a7S b m i .nil _ (fun v => a3v (a0g v)) (b9Y _ _), a3v (a0g _), E3, seval]
   refine At.dropC (L := LPb H b m i .nil [none]) (o := none) hH (by simp [lid, LPb]) (by simp only [List.all_cons, List.all_nil, b4V, d1M, e3s]; simp [LPb]) hn7 ?_ rfl
   refine At.dropC (L := LPb H b m i .nil []) (o := none) hH (by simp [lid, LPb]) (by simp only [List.all_cons, List.all_nil, b4V, d1M, e3s]; simp [LPb]) hn6 ?_ rfl
   exact At.kcd ⟨rfl, rfl⟩
  ·rintro i hi l' E2 env' H' hrec hmut ⟨rfl, rfl⟩
   exact d7f hH (by omega) hb hm hp hi hm0 (fun j hj => (hrb i hi).trans (hrm j hj).symm) (e5a H b m 0) hrec hmut
  ·rintro D2 E9 H' rfl hD2 hD2' hx2 hd2 hdm2
   refine At.keep [4, 5, 9] ?_
   simp only [E3, seval]
   refine At.seq (At.region hw e4T ?_)
   simp only [LO, Nat.sub_self, List.replicate_zero, List.append_nil]
   simp only [b4F, E3, seval]
   have hfr := d7S H 4 (mat b.length (b9l b m)) b.length (some b.length) (by rw [a0f])
   refine At.freeze 4 (b := ⟨1, (mat b.length (b9l b m)).map vecV⟩) hH rfl (a1t 1 vecV _ a0g) (by simp [lid]) ?_
   refine At.keep [4, 5] ?_
   simp only [hfr, a0G, E3, seval]
   refine At.ret (At.leaves2 (E := E) (rs := [.cell 4 none, .cell 5 none]) (av := [matV (e2J b m), .int .i64 0]) (by kernel_rfl) ?_ (hx1.trans hx2) hd2 hdm2 ((hx2.keep D0 hD0' hdm0).trans hd0) (fun h => hdm0 (hx2.muts D0 hD0' h)) (by omega) (by have : E.w.heap.size ≤ E1.w.heap.size := hx1.size; omega) hD0 ?_)
   ·simp only [E3, seval]
    rfl
   ·intro v φ w' ok rep hn hx
    exact ⟨v, _, φ, _, rfl, ⟨rfl, _, (congrArg (fun X => hap X _) (a1T H)).symm⟩, ok, rep, hn, hx⟩
end Go.Abs

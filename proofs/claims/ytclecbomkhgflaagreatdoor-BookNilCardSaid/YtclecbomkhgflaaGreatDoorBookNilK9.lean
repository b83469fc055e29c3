/- Part 9 of the proof of BookNil: K20, K21, O1, O2, O3. -/
import Derived.Test.YtclecbomkhgflaaGreatDoorBookNilK8
import Derived.Test.YtclecbomkhgflaaGreatDoorRows
import Derived.OpenShut
import Derived.ChangeArms
import Derived.Carry
import Derived.WalkKit
import Derived.ProofKit
import Derived.JoinedCond
set_option linter.unusedVariables false
set_option linter.unusedSimpArgs false
namespace Go.Abs
open Go.Proofs
def uM : List (List ZI) := [[canZ 1, canZ 0], [canZ 0, canZ 1]]
def c8A : List UInt8 := [108, 97, 116, 116, 105, 99, 101, 32, 122, 10, 32, 49, 32, 48, 10, 32, 48, 32, 49, 10, 101, 110, 100, 10]
theorem d2s : b9Y c8A = [[108, 97, 116, 116, 105, 99, 101, 32, 122], [32, 49, 32, 48], [32, 48, 32, 49], [101, 110, 100]] := by decide
theorem u_zg (i j : Nat) : zg (mg uM i) j = if i = j ∧ i < 2 then 1 else 0 := by
 match i, j with
 | 0, 0 => exact a7q 1
 | 0, 1 => exact a7q 0
 | 1, 0 => exact a7q 0
 | 1, 1 => exact a7q 1
 | 0, j + 2 => rfl
 | 1, j + 2 => simp [zg, mg, uM, ZI.z, sgn, val]
 | i + 2, j => simp [zg, mg, uM, ZI.z, sgn, val]
theorem u_gr (i j : Nat) (hi : i < 2) (hj : j < 2) : Gr uM i j = if i = j then 1 else 0 := by
 have h0 : (mg uM i).length = 2 := by
  match i, hi with
  | 0, _ => rfl
  | 1, _ => rfl
 unfold Gr dotZ
 rw [h0]
 simp only [b0O, u_zg]
 match i, j, hi, hj with
 | 0, 0, _, _ => rfl
 | 0, 1, _, _ => rfl
 | 1, 0, _, _ => rfl
 | 1, 1, _, _ => rfl
theorem u_ok (p : Nat) (hp : 1 ≤ p) : Mok p uM := by
 have h1 : Zok p (canZ 1) := (a3Y (k := 1) (by decide)).mono hp
 have h0 : Zok p (canZ 0) := (a3Y (k := 1) (by decide)).mono hp
 refine ⟨by simp [uM], fun v hv => ?_⟩
 simp only [uM, List.mem_cons, List.not_mem_nil, or_false] at hv
 rcases hv with rfl | rfl
 ·exact ⟨by simp, fun x hx => by simp only [List.mem_cons, List.not_mem_nil, or_false] at hx; rcases hx with rfl | rfl; exact h1; exact h0⟩
 ·exact ⟨by simp, fun x hx => by simp only [List.mem_cons, List.not_mem_nil, or_false] at hx; rcases hx with rfl | rfl; exact h0; exact h1⟩
theorem e5m : putE uM = 0 := by
 have h1 : Sg (Gr uM) 0 0 0 = 1 := by rw [b5S, u_gr 0 0 (by omega) (by omega)]; rfl
 have p0 := d9b (Gr uM)
 have d1 : Dg (Gr uM) 1 = 1 := by rw [b8Y p0, c8D, h1, Rat.one_mul]
 have p1 : Pv (Gr uM) 1 := d9c p0 (by rw [h1]; decide)
 have h2 : Sg (Gr uM) 1 1 1 = 1 := by
  rw [c8B 1 (by omega), h1, b5S, b5S, b5S, u_gr 1 1 (by omega) (by omega), u_gr 1 0 (by omega) (by omega), u_gr 0 1 (by omega) (by omega), if_pos rfl, if_neg (by omega), if_neg (by omega), Rat.mul_zero]
  grind
 have d2 : Dg (Gr uM) 2 = 1 := by rw [b8Y p1, d1, h2, Rat.one_mul]
 have hb : b8R uM 2 ≤ 256 := by
  show b8k (b8k 0 (fun k => blen (zg (mg uM 0) k).natAbs) 2) (fun k => blen (zg (mg uM 1) k).natAbs) 2 ≤ 256
  simp only [b8k, u_zg]
  decide
 have hs : shE true uM = 0 := by
  unfold shE
  rw [if_neg, if_neg, if_pos]
  ·intro i hi
   match i, hi with
   | 0, _ => rfl
   | 1, _ => rfl
  ·decide
  ·have : ¬(256 < b8R uM uM.length) := by show ¬(256 < b8R uM 2); omega
   unfold bigB
   rw [decide_eq_false this]
   decide
 unfold putE valE
 rw [if_neg (by rw [hs]; decide), if_pos]
 show gd (Gr uM) 2 = 2
 have g1 : gd (Gr uM) 1 = 1 := by
  rw [b5C, if_pos ⟨rfl, by rw [d1]; decide⟩]
 rw [b5C, if_pos ⟨g1, by rw [d2]; decide⟩]
theorem e5n : e0R uM = uM := by
 show [[canZ (zg (mg uM 0) 0), canZ (zg (mg uM 0) 1)], [canZ (zg (mg uM 1) 0), canZ (zg (mg uM 1) 1)]] = uM
 simp only [u_zg]
 rfl
def uB : Bk := ⟨[0], [[122]], [uM], 1⟩
theorem e5l : d1d c8A = .inl uB := by
 have s1 : a8h rs0 [108, 97, 116, 116, 105, 99, 101, 32, 122] = .inl ⟨bk0, [122], [], true⟩ := by
  unfold a8h
  rw [if_neg (by decide), if_neg (by decide), if_pos (by decide)]
  rfl
 have w1 : b6o [49] = some 1 := by decide
 have w0 : b6o [48] = some 0 := by decide
 have l2 : b5B [32, 49, 32, 48] = some [canZ 1, canZ 0] := by
  unfold b5B
  rw [if_pos (by decide), show a1J 32 (List.drop 1 [32, 49, 32, 48]) = [[49], [48]] from by decide]
  unfold wsV
  simp only [List.all_cons, List.all_nil, w1, w0, List.map_cons, List.map_nil, gz]
  rfl
 have l3 : b5B [32, 48, 32, 49] = some [canZ 0, canZ 1] := by
  unfold b5B
  rw [if_pos (by decide), show a1J 32 (List.drop 1 [32, 48, 32, 49]) = [[48], [49]] from by decide]
  unfold wsV
  simp only [List.all_cons, List.all_nil, w1, w0, List.map_cons, List.map_nil, gz]
  rfl
 have s2 : a8h ⟨bk0, [122], [], true⟩ [32, 49, 32, 48] = .inl ⟨bk0, [122], [[canZ 1, canZ 0]], true⟩ := by
  unfold a8h
  rw [if_neg (by decide), if_pos rfl, if_neg (by decide), l2]
  rfl
 have s3 : a8h ⟨bk0, [122], [[canZ 1, canZ 0]], true⟩ [32, 48, 32, 49] = .inl ⟨bk0, [122], uM, true⟩ := by
  unfold a8h
  rw [if_neg (by decide), if_pos rfl, if_neg (by decide), l3]
  rfl
 have s4 : a8h ⟨bk0, [122], uM, true⟩ [101, 110, 100] = .inl ⟨putB bk0 [122] uM, [122], [], false⟩ := by
  unfold a8h
  rw [if_neg (by decide), if_pos rfl, if_pos (by decide), if_pos e5m]
 have hp : putB bk0 [122] uM = uB := by
  unfold putB
  rw [if_pos e5m, e5n]
  rfl
 unfold d1d
 rw [if_neg (by decide), d2s]
 simp only [runR, s1, s2, s3, s4, hp]
 rfl
theorem d5V : c8Z uB = c8A := by
 have hd1 : decI 1 = [49] := by
  show dec 1 = [49]
  unfold dec
  rw [if_neg (by decide), c1S (by decide), show 1 / 10 = 0 from rfl, b7o]
  decide
 have hd0 : decI 0 = [48] := by
  show dec 0 = [48]
  rfl
 have r0 : txV [canZ 1, canZ 0] = [49, 32, 48] := by
  unfold txV
  have : (tx [canZ 1, canZ 0].length fun i => decI (zg [canZ 1, canZ 0] i)) = [decI (zg (mg uM 0) 0), decI (zg (mg uM 0) 1)] := rfl
  rw [this]
  simp only [u_zg]
  show Lib.join [decI 1, decI 0] [32] = _
  rw [hd1, hd0]
  decide
 have r1 : txV [canZ 0, canZ 1] = [48, 32, 49] := by
  unfold txV
  have : (tx [canZ 0, canZ 1].length fun i => decI (zg [canZ 0, canZ 1] i)) = [decI (zg (mg uM 1) 0), decI (zg (mg uM 1) 1)] := rfl
  rw [this]
  simp only [u_zg]
  show Lib.join [decI 0, decI 1] [32] = _
  rw [hd1, hd0]
  decide
 have hn : a1n uB = [[122]] := by
  have := (a5q [[122]]).length_eq
  exact List.perm_singleton.1 (a5q [[122]])
 unfold c8Z
 rw [hn]
 show latT [122] uM ++ [] = c8A
 unfold latT a8P uM
 simp only [List.flatMap_cons, List.flatMap_nil, rowT, r0, r1]
 rfl
theorem u_tx : TxOk uB := by
 have hl : ∀ k, getL uB k = uM ∨ getL uB k = [] := fun k => by
  unfold getL
  have : uB.get? k = (bk0.put [122] uM).get? k := rfl
  rw [this, d7T e2g]
  by_cases h : k = [122]
  ·rw [if_pos h]; exact .inl rfl
  ·rw [if_neg h]; exact .inr rfl
 have hm := u_ok 8796093022208 (by omega)
 refine ⟨by decide, fun k => ?_, by decide, by rw [d5V]; decide⟩
 rcases hl k with h | h
 ·rw [h]
  refine ⟨by decide, fun r hr => ⟨hm.el r hr, ?_⟩⟩
  have h2 : c8Z uB = latT [122] uM := by
   have hn : a1n uB = [[122]] := List.perm_singleton.1 (a5q [[122]])
   unfold c8Z
   rw [hn]
   exact List.append_nil _
  have h3 := congrArg List.length d5V
  rw [h2] at h3
  unfold latT a8P at h3
  have h4 : (rowT r).length ≤ (uM.flatMap rowT).length := by
   simp only [uM, List.mem_cons, List.not_mem_nil, or_false] at hr
   rcases hr with rfl | rfl <;> simp only [uM, List.flatMap_cons, List.flatMap_nil, List.length_append, List.append_nil] <;> omega
  have h5 : c8A.length = 24 := rfl
  have h6 : (rowT r).length = (txV r).length + 2 := by simp [rowT]
  simp only [List.length_append] at h3
  omega
 ·rw [h]
  exact ⟨by simp, fun r hr => nomatch hr⟩
theorem e5q : AV.str ⟨#[108, 97, 116, 116, 105, 99, 101, 32, 122, 10, 32, 49, 32, 48, 10, 32, 48, 32, 49, 10, 101, 110, 100, 10]⟩ = strU c8A := rfl
theorem e5o : uB.Ok := ⟨rfl, rfl, by decide, by decide, by decide⟩
theorem e5Z {G : Heap} {ib im : Nat} {B : Bk} (h : InB G ib im B) (neg : Bool) : isnV true neg G (.loc ib 0 0) = some (.bool neg) := by
 have hl := h.liv (L := [])
 rw [a1X] at hl
 simp only [isnV]
 rw [if_pos hl]
theorem b8S : a0i Pr b1G [] (.bool true) := by
 refine a0i.intro c5q c5p (Nat.le_of_ble_eq_true rfl) (.bool _) fun H hH => ?_
 refine Safe.rg rfl ?_
 simp only [b4F, E3, a0b, a0c, a0d, a0a, seval]
 refine Safe.heq (a1X H) ?_
 refine Safe.rg rfl ?_
 simp only [b4E, e5q, E3, a0b, a0c, a0d, a0a, seval]
 refine (e2Y H c8A).mono fun r' H' hr => ?_
 rw [e5l] at hr
 obtain ⟨rfl, rfl, -⟩ := hr
 simp only [E3, a0b, a0c, a0d, a0a, seval]
 have he : binV .eql (strU c8A) (strU c8A) = some (.bool true) := by rw [a2R]; simp
 have htx := e2B (e2f (H := H) e5o) u_tx
 rw [d5V] at htx
 have hin := e5Z (e2f (H := H) e5o) true
 refine Safe.rg rfl ?_
 simp only [b4D, e5q, he, hin, E3, a0b, a0c, a0d, a0a, seval]
 refine htx.acall ?_
 simp only [he, E3, a0b, a0c, a0d, a0a, seval]
 refine Safe.rt rfl ?_
 simp only [E3, a0b, a0c, a0d, a0a, seval]
 exact ⟨_, rfl⟩
end Go.Abs
namespace Go.Abs
open Go.Proofs
theorem d0p (name : List UInt8) (i : Int) (q : ZI) : a0i Pr a2g [strU name, .int .i64 i, q.av] (.bool true) := by
 refine a0i.intro c0J c0I (Nat.le_of_ble_eq_true rfl) (.bool _) fun H hH => ?_
 refine Safe.rg rfl ?_
 simp only [b1T, ZI.av_fit, ZI.av_cells, E3, a0b, a0c, a0d, a0a, Nat.reduceLeDiff, Nat.reduceSub, Nat.reduceAdd, Nat.reduceEqDiff, reduceCtorEq, ↓reduceIte]
 refine Safe.rg rfl ?_
 simp only [b1S, E3, a0b, a0c, a0d, a0a, Nat.reduceLeDiff, Nat.reduceSub, Nat.reduceAdd, Nat.reduceEqDiff, reduceCtorEq, ↓reduceIte]
 first | refine (b8S).acall ?_ | refine (b8S).dcall ?_ | refine (b8S).dgcall ?_
 try simp only [E3, a0b, a0c, a0d, a0a, Nat.reduceLeDiff, Nat.reduceSub, Nat.reduceAdd, Nat.reduceEqDiff, reduceCtorEq, ↓reduceIte]
 refine Safe.cd rfl ?_
 simp only [E3, a0b, a0c, a0d, a0a, Nat.reduceLeDiff, Nat.reduceSub, Nat.reduceAdd, Nat.reduceEqDiff, reduceCtorEq, ↓reduceIte]
 have fl : (AV.lit (.pointer none)).fit = true := rfl
 refine Safe.rg rfl ?_
 simp only [b1R, b4h, fl, E3, a0b, a0c, a0d, a0a, Nat.reduceLeDiff, Nat.reduceSub, Nat.reduceAdd, Nat.reduceEqDiff, reduceCtorEq, ↓reduceIte]
 refine Safe.rg rfl ?_
 simp only [b1Q, E3, a0b, a0c, a0d, a0a, Nat.reduceLeDiff, Nat.reduceSub, Nat.reduceAdd, Nat.reduceEqDiff, reduceCtorEq, ↓reduceIte]
 refine Safe.lp rfl ?_
 refine Safe.keep [0, 1, 5, 17, 18, 19] ?_
 simp only [E3, a0b, a0c, a0d, a0a, Nat.reduceLeDiff, Nat.reduceSub, Nat.reduceAdd, Nat.reduceEqDiff, reduceCtorEq, ↓reduceIte]
 have rest : ∀ (j : Nat) (b : AV), j < 2 → Un (hap H [some ⟨2, [q.av]⟩, some ⟨1, [.agg [.lit (.map none)]]⟩, some ⟨1, [nilP, .loc (lid H 1) 0 0]⟩]) b → Ref (· < (hap H [some ⟨2, [q.av]⟩, some ⟨1, [.agg [.lit (.map none)]]⟩, some ⟨1, [nilP, .loc (lid H 1) 0 0]⟩]).length) b →
   Safe ⟨Pr, fun _ k => k == 2, a2g, 88, [.tmp 6], H.length⟩ [.inLoop a2v, .inBlock 0, .code (.seq (.region a1C false) .ret)]
    [(0, strU name), (1, .int .i64 i), (5, .loc (lid H 0) 0 0), (17, .mu (lid H 2) 0 2 (some 2)), (18, .int .i64 2), (19, .int .i64 ((j + 1 : Nat) : Int))] (hap H [some ⟨2, [q.av]⟩, some ⟨1, [.agg [.lit (.map none)]]⟩, some ⟨1, [nilP, .loc (lid H 1) 0 0]⟩]) (fun r' H' => r' = .bool true ∧ ∃ L, H' = hap H L) →
   Safe ⟨Pr, fun _ k => k == 2, a2g, 88, [.tmp 6], H.length⟩ [.code (.seq (.region a6L false) (.seq (.seq (.region a6K false) (.cond (.t 46) (.seq (.region b1P false) (.ret)) (.skip))) (.seq (.region a5H false) (.cond (.t 86) (.seq (.region b0k false) (.ret)) (.skip))))), .inBlock 1, .code (.region a5G false), .inLoop a2v, .inBlock 0, .code (.seq (.region a1C false) .ret)]
    [(9, b), (0, strU name), (1, .int .i64 i), (5, .loc (lid H 0) 0 0), (17, .mu (lid H 2) 0 2 (some 2)), (18, .int .i64 2), (19, .int .i64 (j : Nat))] (hap H [some ⟨2, [q.av]⟩, some ⟨1, [.agg [.lit (.map none)]]⟩, some ⟨1, [nilP, .loc (lid H 1) 0 0]⟩]) (fun r' H' => r' = .bool true ∧ ∃ L, H' = hap H L) := by
  intro j b hj hun hb next
  have hw : IntKind.wrap .i64 ((j : Int) + 1) = ((j + 1 : Nat) : Int) := by rw [a0e] <;> omega
  have he : binV .neq (strU []) (strU []) = some (.bool false) := by rw [a8i]; rfl
  refine Safe.rg rfl ?_
  simp only [a6L, c5a, E3, a0b, a0c, a0d, a0a, Nat.reduceLeDiff, Nat.reduceSub, Nat.reduceAdd, Nat.reduceEqDiff, reduceCtorEq, ↓reduceIte]
  refine (e6d hun _).acall ?_
  simp only [E3, a0b, a0c, a0d, a0a, Nat.reduceLeDiff, Nat.reduceSub, Nat.reduceAdd, Nat.reduceEqDiff, reduceCtorEq, ↓reduceIte]
  refine Safe.rg rfl ?_
  simp only [a6K, b2J, he, E3, a0b, a0c, a0d, a0a, Nat.reduceLeDiff, Nat.reduceSub, Nat.reduceAdd, Nat.reduceEqDiff, reduceCtorEq, ↓reduceIte]
  refine (c1H hun).acall ?_
  simp only [E3, a0b, a0c, a0d, a0a, Nat.reduceLeDiff, Nat.reduceSub, Nat.reduceAdd, Nat.reduceEqDiff, reduceCtorEq, ↓reduceIte]
  refine (e2A hun hb).acall ?_
  simp only [he, E3, a0b, a0c, a0d, a0a, Nat.reduceLeDiff, Nat.reduceSub, Nat.reduceAdd, Nat.reduceEqDiff, reduceCtorEq, ↓reduceIte]
  refine Safe.cd rfl ?_
  simp only [E3, a0b, a0c, a0d, a0a, Nat.reduceLeDiff, Nat.reduceSub, Nat.reduceAdd, Nat.reduceEqDiff, reduceCtorEq, ↓reduceIte]
  refine Safe.rg rfl ?_
  simp only [a5H, c5a, E3, a0b, a0c, a0d, a0a, Nat.reduceLeDiff, Nat.reduceSub, Nat.reduceAdd, Nat.reduceEqDiff, reduceCtorEq, ↓reduceIte]
  refine (e6C hun _ _).acall ?_
  simp only [E3, a0b, a0c, a0d, a0a, Nat.reduceLeDiff, Nat.reduceSub, Nat.reduceAdd, Nat.reduceEqDiff, reduceCtorEq, ↓reduceIte]
  refine (e4n hun _).acall ?_
  simp only [E3, a0b, a0c, a0d, a0a, Nat.reduceLeDiff, Nat.reduceSub, Nat.reduceAdd, Nat.reduceEqDiff, reduceCtorEq, ↓reduceIte]
  refine (d6K hun _ _).acall ?_
  simp only [E3, a0b, a0c, a0d, a0a, Nat.reduceLeDiff, Nat.reduceSub, Nat.reduceAdd, Nat.reduceEqDiff, reduceCtorEq, ↓reduceIte]
  refine (e5x hun _ i _).acall ?_
  simp only [E3, a0b, a0c, a0d, a0a, Nat.reduceLeDiff, Nat.reduceSub, Nat.reduceAdd, Nat.reduceEqDiff, reduceCtorEq, ↓reduceIte]
  refine (e6s hun _ i).acall ?_
  simp only [ZI.av_cells, E3, a0b, a0c, a0d, a0a, Nat.reduceLeDiff, Nat.reduceSub, Nat.reduceAdd, Nat.reduceEqDiff, reduceCtorEq, ↓reduceIte]
  refine (e5V hun _ i i q).acall ?_
  simp only [E3, a0b, a0c, a0d, a0a, Nat.reduceLeDiff, Nat.reduceSub, Nat.reduceAdd, Nat.reduceEqDiff, reduceCtorEq, ↓reduceIte]
  refine Safe.cd rfl ?_
  simp only [E3, a0b, a0c, a0d, a0a, Nat.reduceLeDiff, Nat.reduceSub, Nat.reduceAdd, Nat.reduceEqDiff, reduceCtorEq, ↓reduceIte]
  refine Safe.rg rfl ?_
  simp only [a5G, hw, E3, a0b, a0c, a0d, a0a, Nat.reduceLeDiff, Nat.reduceSub, Nat.reduceAdd, Nat.reduceEqDiff, reduceCtorEq, ↓reduceIte]
  refine Safe.keep [0, 1, 5, 17, 18, 19] ?_
  simp only [E3, a0b, a0c, a0d, a0a, Nat.reduceLeDiff, Nat.reduceSub, Nat.reduceAdd, Nat.reduceEqDiff, reduceCtorEq, ↓reduceIte]
  exact next
 have fin : Safe ⟨Pr, fun _ k => k == 2, a2g, 88, [.tmp 6], H.length⟩ [.inLoop a2v, .inBlock 0, .code (.seq (.region a1C false) .ret)]
    [(0, strU name), (1, .int .i64 i), (5, .loc (lid H 0) 0 0), (17, .mu (lid H 2) 0 2 (some 2)), (18, .int .i64 2), (19, .int .i64 ((2 : Nat) : Int))] (hap H [some ⟨2, [q.av]⟩, some ⟨1, [.agg [.lit (.map none)]]⟩, some ⟨1, [nilP, .loc (lid H 1) 0 0]⟩]) (fun r' H' => r' = .bool true ∧ ∃ L, H' = hap H L) := by
  have hlt : (((2 : Nat) : Int) < 2) = False := eq_false (by omega)
  refine Safe.inLoop ?_
  refine Safe.rg rfl ?_
  simp only [a3I, hlt, E3, a0b, a0c, a0d, a0a, Nat.reduceLeDiff, Nat.reduceSub, Nat.reduceAdd, Nat.reduceEqDiff, reduceCtorEq, ↓reduceIte]
  refine Safe.cd rfl ?_
  simp only [E3, a0b, a0c, a0d, a0a, Nat.reduceLeDiff, Nat.reduceSub, Nat.reduceAdd, Nat.reduceEqDiff, reduceCtorEq, ↓reduceIte]
  refine Safe.rg rfl ?_
  simp only [a1C, E3, a0b, a0c, a0d, a0a, Nat.reduceLeDiff, Nat.reduceSub, Nat.reduceAdd, Nat.reduceEqDiff, reduceCtorEq, ↓reduceIte]
  refine Safe.rt rfl ?_
  simp only [E3, a0b, a0c, a0d, a0a, Nat.reduceLeDiff, Nat.reduceSub, Nat.reduceAdd, Nat.reduceEqDiff, reduceCtorEq, ↓reduceIte]
  exact ⟨_, rfl⟩
 have h1 : Safe ⟨Pr, fun _ k => k == 2, a2g, 88, [.tmp 6], H.length⟩ [.inLoop a2v, .inBlock 0, .code (.seq (.region a1C false) .ret)]
    [(0, strU name), (1, .int .i64 i), (5, .loc (lid H 0) 0 0), (17, .mu (lid H 2) 0 2 (some 2)), (18, .int .i64 2), (19, .int .i64 ((1 : Nat) : Int))] (hap H [some ⟨2, [q.av]⟩, some ⟨1, [.agg [.lit (.map none)]]⟩, some ⟨1, [nilP, .loc (lid H 1) 0 0]⟩]) (fun r' H' => r' = .bool true ∧ ∃ L, H' = hap H L) := by
  have hlt : (((1 : Nat) : Int) < 2) = True := eq_true (by omega)
  refine Safe.inLoop ?_
  refine Safe.rg rfl ?_
  simp only [a3I, hlt, E3, a0b, a0c, a0d, a0a, Nat.reduceLeDiff, Nat.reduceSub, Nat.reduceAdd, Nat.reduceEqDiff, reduceCtorEq, ↓reduceIte]
  refine Safe.cd rfl ?_
  simp only [E3, a0b, a0c, a0d, a0a, Nat.reduceLeDiff, Nat.reduceSub, Nat.reduceAdd, Nat.reduceEqDiff, reduceCtorEq, ↓reduceIte]
  have hix : idxV (hap H [some ⟨2, [q.av]⟩, some ⟨1, [.agg [.lit (.map none)]]⟩, some ⟨1, [nilP, .loc (lid H 1) 0 0]⟩]) 1 (.mu (lid H 2) 0 2 (some 2)) (.int .i64 ((1 : Nat) : Int)) = some (.loc (lid H 2) 1 0) := by
   simp [idxV, a0T]
  refine Safe.rg rfl ?_
  simp only [a6M, hix, E3, a0b, a0c, a0d, a0a, Nat.reduceLeDiff, Nat.reduceSub, Nat.reduceAdd, Nat.reduceEqDiff, reduceCtorEq, ↓reduceIte]
  refine Safe.keep [9, 0, 1, 5, 17, 18, 19] ?_
  simp only [E3, a0b, a0c, a0d, a0a, Nat.reduceLeDiff, Nat.reduceSub, Nat.reduceAdd, Nat.reduceEqDiff, reduceCtorEq, ↓reduceIte]
  exact rest 1 _ (by omega) (.inr ⟨_, rfl, by simp [hap, lid]⟩) (.loc _ _ _ (by simp [hap, lid])) fin
 have hlt : ((0 : Int) < 2) = True := eq_true (by omega)
 refine Safe.inLoop ?_
 refine Safe.rg rfl ?_
 simp only [a3I, hlt, E3, a0b, a0c, a0d, a0a, Nat.reduceLeDiff, Nat.reduceSub, Nat.reduceAdd, Nat.reduceEqDiff, reduceCtorEq, ↓reduceIte]
 refine Safe.cd rfl ?_
 simp only [E3, a0b, a0c, a0d, a0a, Nat.reduceLeDiff, Nat.reduceSub, Nat.reduceAdd, Nat.reduceEqDiff, reduceCtorEq, ↓reduceIte]
 have hix : idxV (hap H [some ⟨2, [q.av]⟩, some ⟨1, [.agg [.lit (.map none)]]⟩, some ⟨1, [nilP, .loc (lid H 1) 0 0]⟩]) 1 (.mu (lid H 2) 0 2 (some 2)) (.int .i64 0) = some (.loc (lid H 2) 0 0) := by
  simp [idxV, a0T]
 refine Safe.rg rfl ?_
 simp only [a6M, hix, E3, a0b, a0c, a0d, a0a, Nat.reduceLeDiff, Nat.reduceSub, Nat.reduceAdd, Nat.reduceEqDiff, reduceCtorEq, ↓reduceIte]
 refine Safe.keep [9, 0, 1, 5, 17, 18, 19] ?_
 simp only [E3, a0b, a0c, a0d, a0a, Nat.reduceLeDiff, Nat.reduceSub, Nat.reduceAdd, Nat.reduceEqDiff, reduceCtorEq, ↓reduceIte]
 exact rest 0 _ (by omega) (.inl rfl) (.lit _) h1
end Go.Abs
namespace Go.Abs
open Go.ChangeShapes Go.WideShapes
open Go.Proofs.YtclecbomkhgflaaGreatDoor.Rows (uptoBulk uptoBulkAll)
section
variable {K : Type} {enc : TypeId × Value → K} {P : Program} {w : World} {base : Nat} {sp : Nat → Bool} {held : Bool}
theorem e1n (d : DataW K) : 1 ≤ uptoBulk d := by
 cases d with
 | lit l => cases l <;> simp [uptoBulk]
 | nil => simp [uptoBulk]
 | ptr d => simp [uptoBulk]
 | slice elems spare => simp [uptoBulk]
 | agg a2f => simp [uptoBulk]
 | iface t d => simp [uptoBulk]
 | map entries => simp [uptoBulk]
 | held h => simp [uptoBulk]
theorem c8r {d : DataW K} : ∀ {l : List (DataW K)}, d ∈ l → uptoBulk d ≤ uptoBulkAll l
 | [], h => by cases h
 | x :: r, h => by
  simp only [uptoBulkAll]
  rcases List.mem_cons.1 h with e | e
  ·subst e; omega
  ·have := c8r e; omega
theorem d3t : ∀ (l : List (DataW K)), l.length ≤ uptoBulkAll l
 | [] => by simp [uptoBulkAll]
 | x :: r => by have := e1n x; have := d3t r; simp only [uptoBulkAll, List.length_cons]; omega
theorem b8C (es rs : List (DataW K)) : uptoBulkAll es + 1 ≤ uptoBulk (.slice es rs) := by simp only [uptoBulk]; omega
theorem c2u {α : Type} (W : α → Nat) : ∀ (ds : List (DataW K)) (xs : List α), xs.length = ds.length → (∀ (i : Nat) a, xs[i]? = some a → W a ≤ uptoBulk (ds.getD i .nil)) → (xs.map W).sum ≤ uptoBulkAll ds
 | [], [], _, _ => by simp
 | d :: ds, x :: xs, h, hw => by
  have h1 := hw 0 x rfl
  have h2 := c2u W ds xs (by simpa using h) fun i a ha => by have := hw (i + 1) a (by simpa using ha); simpa using this
  simp only [List.map_cons, List.sum_cons, uptoBulkAll]
  simp at h1
  omega
 | [], _ :: _, h, _ => by simp at h
 | _ :: _, [], h, _ => by simp at h
theorem d0A (a : Addr) (m j : Nat) : (a.add m).add j = a.add (m + j) := by
 unfold Addr.add
 by_cases hm : m = 0 <;> by_cases hj : j = 0 <;> simp [hm, hj, Nat.add_assoc]
theorem d6V {φ : Nat → Option Nat} {b : Nat} : ¬ (Emb.mk φ [] w).Mut b := by
 rintro ⟨id, blk, h, _⟩; simp at h
theorem e3E (φ : Nat → Option Nat) (w : World) : HOk ⟨φ, [], w⟩ := ⟨fun id b _ h => by simp at h, fun id b h => by simp at h, fun id b _ h => by simp at h, fun id b h => by simp at h, fun i j b c _ h => by simp at h⟩
structure Stands (w : World) (cs : List Value) (a : AV) : Prop where
 one : ∀ c ∈ cs, c.oneCell' = true
 len : cs.length = a.cells.length
 rep : ∀ (φ : Nat → Option Nat) (k : Nat) v c, cs[k]? = some v → a.cells[k]? = some c → Rep ⟨φ, [], w⟩ v c
theorem e3m {α : Type} (f : α → AV) (good : α → DataW K → Prop) {t e : TypeId} (wd : Nat) (ht : P.underlying t = some (.slice e)) (hc : P.cellsOf e = wd) (hpos : 0 < wd) (hf : ∀ a, (f a).cells.length = wd) (hcl : ∀ a, Cl (f a))
  (hel : ∀ m cs y, DataW.trod enc P w base sp held m e cs = some y → cs.length = wd → ∃ a, good a y.1 ∧ Stands w cs (f a))
  {fuel : Nat} {cs : List Value} {x : DataW K × List MemPlace} (h : DataW.trod enc P w base sp held fuel t cs = some x) :
  ∃ xs0 : List α, Stands w cs (.sl wd (xs0.map f)) ∧ xs0.length ≤ uptoBulk x.1 ∧ (∀ a ∈ xs0, ∃ d : DataW K, good a d ∧ uptoBulk d ≤ uptoBulk x.1) ∧ ∀ W : α → Nat, (∀ a d, good a d → W a ≤ uptoBulk d) → (xs0.map W).sum + 1 ≤ uptoBulk x.1 := by
 rcases DataW.trod_slice ht h with ⟨rfl, rfl⟩ | ⟨ad, len, cap, elems, rest, n, rfl, rfl, rfl, hb, hl, hm, hlen, hget, _, _⟩
 ·refine ⟨[], ⟨by simp [Value.oneCell'], rfl, ?_⟩, Nat.zero_le _, by simp, fun W _ => by simp [uptoBulk]⟩
  intro φ k v c hv hc'
  match k with
  | 0 => cases hv; cases hc'; exact b7Q wd hpos .nil
  | k + 1 => simp at hv
 ·-- each element
  have each : ∀ i, i < len → ∃ a cs', good a ((elems.map (·.1)).getD i .nil) ∧ Stands w cs' (f a) ∧ cs'.length = wd ∧ ∀ j, j < wd → w.cell? (ad.add (i * wd + j)) = cs'[j]? := by
   intro i hi
   have h1 := hget i hi
   have hy : elems[i]? = some (elems[i]'(by omega)) := List.getElem?_eq_getElem (by omega)
   rw [hy, Option.bind_eq_some_iff] at h1
   obtain ⟨cs', h2, h3⟩ := h1
   rw [hc] at h2
   obtain ⟨_, hl2, hcell⟩ := World.cells?_some h2
   obtain ⟨a, g1, g2⟩ := hel n cs' _ h3 hl2
   refine ⟨a, cs', ?_, g2, hl2, fun j hj => ?_⟩
   ·rw [List.getD_eq_getElem?_getD, List.getElem?_map, hy]; exact g1
   ·have := hcell j hj
    rw [← this]
    rw [d0A]
  -- the list
  have all : ∀ m, m ≤ len → ∃ (xs0 : List α) (vs : List Value), xs0.length = m ∧ vs.length = m * wd ∧ (∀ (i : Nat) a, xs0[i]? = some a → good a ((elems.map (·.1)).getD i .nil)) ∧
    (∀ (k : Nat) v, vs[k]? = some v → w.cell? (ad.add k) = some v ∧ v.oneCell' = true) ∧ (∀ (φ : Nat → Option Nat) (k : Nat) v c, vs[k]? = some v → ((xs0.map f).flatMap AV.cells)[k]? = some c → Rep ⟨φ, [], w⟩ v c) := by
   intro m
   induction m with
   | zero => exact fun _ => ⟨[], [], rfl, by simp, by simp, by simp, by simp⟩
   | succ m ih =>
    intro hm'
    obtain ⟨xs0, vs, q1, q2, q3, q4, q5⟩ := ih (by omega)
    obtain ⟨a, cs', r1, r2, r3, r4⟩ := each m (by omega)
    have hfl : ((xs0.map f).flatMap AV.cells).length = m * wd := by
     rw [a3F (wd := wd) (by intro y hy; obtain ⟨z, _, rfl⟩ := List.mem_map.1 hy; exact hf z), List.length_map, q1]
    refine ⟨xs0 ++ [a], vs ++ cs', by simp [q1], by simp [q2, r3, Nat.add_mul], ?_, ?_, ?_⟩
    ·intro i b hb'
     rcases Nat.lt_or_ge i m with hi | hi
     ·rw [List.getElem?_append_left (by omega)] at hb'; exact q3 i b hb'
     ·have hi' := a0g hb'
      simp at hi'
      have : i = m := by omega
      subst this
      rw [List.getElem?_append_right (by omega)] at hb'
      simp [q1] at hb'
      subst hb'; exact r1
    ·intro k v hv
     rcases Nat.lt_or_ge k (m * wd) with hk | hk
     ·rw [List.getElem?_append_left (by omega)] at hv; exact q4 k v hv
     ·rw [List.getElem?_append_right (by omega), q2] at hv
      have hk2 := a0g hv
      refine ⟨?_, r2.one v (List.mem_of_getElem? hv)⟩
      have := r4 (k - m * wd) (by omega)
      rw [hv] at this
      rw [← this]; congr 2; omega
    ·intro φ k v c hv hc'
     rw [List.map_append, List.flatMap_append] at hc'
     rcases Nat.lt_or_ge k (m * wd) with hk | hk
     ·rw [List.getElem?_append_left (by omega)] at hv
      rw [List.getElem?_append_left (by omega)] at hc'
      exact q5 φ k v c hv hc'
     ·rw [List.getElem?_append_right (by omega), q2] at hv
      rw [List.getElem?_append_right (by omega), hfl] at hc'
      simp at hc'
      exact r2.rep φ (k - m * wd) v c hv hc'
  obtain ⟨xs0, vs, q1, q2, q3, q4, q5⟩ := all len (Nat.le_refl _)
  have hw : ∀ y ∈ xs0.map f, y.cells.length = wd := by intro y hy; obtain ⟨z, _, rfl⟩ := List.mem_map.1 hy; exact hf z
  have hcl' : ∀ c ∈ (xs0.map f).flatMap AV.cells, Cl c := by
   intro c hc'
   obtain ⟨y, hy, hc'⟩ := List.mem_flatMap.1 hc'
   obtain ⟨z, _, rfl⟩ := List.mem_map.1 hy
   exact a9Y (hcl z) c hc'
  refine ⟨xs0, ⟨by simp [Value.oneCell'], rfl, ?_⟩, ?_, ?_, ?_⟩
  ·intro φ k v c hv hc'
   match k with
   | 0 =>
    cases hv; cases hc'
    have hlen' : len = (xs0.map f).length := by rw [List.length_map, q1]
    rw [hlen']
    rcases Nat.eq_zero_or_pos len with h0 | h0
    ·have : xs0 = [] := List.length_eq_zero_iff.1 (by omega)
     subst this
     exact .sl _ cap wd [] [] 0 0 (Nat.zero_le _) hpos (by simp) (by simp) (.inl rfl) rfl (by simp) (by simp)
    ·have hv0 : vs[0]? = some (vs[0]'(by rw [q2]; exact Nat.mul_pos h0 hpos)) := List.getElem?_eq_getElem _
     have hspot : ad.spot = none := by
      have h00 := (q4 0 _ hv0).1
      rw [show ad.add 0 = ad by simp [Addr.add]] at h00
      exact World.cell?_spot h00
     obtain ⟨b, o, s⟩ := ad
     simp only at hspot
     subst hspot
     exact .sl (some ⟨b, o, none⟩) cap wd (xs0.map f) vs b o (by rw [List.length_map, q1]; exact hl) hpos hw hcl' (.inr ⟨rfl, d6V⟩) (by rw [a3F hw, List.length_map, q1, q2])
      (fun k v hk => by have := q4 k v hk; rw [Go.WideShapes.add_plain] at this; exact this) (fun k v c hk hc2 => q5 φ k v c hk hc2)
   | k + 1 => simp at hv
  ·have h1 := d3t (elems.map (·.1))
   have h2 := b8C (elems.map (·.1)) (rest.map (·.1))
   rw [List.length_map] at h1
   show xs0.length ≤ uptoBulk (.slice (elems.map (·.1)) (rest.map (·.1)))
   omega
  ·intro a ha
   obtain ⟨i, hi, rfl⟩ := List.getElem_of_mem ha
   refine ⟨_, q3 i _ (List.getElem?_eq_getElem hi), ?_⟩
   have hm' : (elems.map (·.1)).getD i .nil ∈ elems.map (·.1) := by
    have : i < (elems.map (·.1)).length := by rw [List.length_map]; omega
    rw [List.getD_eq_getElem?_getD, List.getElem?_eq_getElem this]; exact List.getElem_mem this
   have h1 := c8r hm'
   have h2 := b8C (elems.map (·.1)) (rest.map (·.1))
   show uptoBulk _ ≤ uptoBulk (.slice (elems.map (·.1)) (rest.map (·.1)))
   omega
  ·intro W hW
   have h1 : (xs0.map W).sum ≤ uptoBulkAll (elems.map (·.1)) := c2u W (elems.map (·.1)) xs0 (by rw [List.length_map]; omega) fun i a ha => hW a _ (q3 i a ha)
   have h2 := b8C (elems.map (·.1)) (rest.map (·.1))
   show (xs0.map W).sum + 1 ≤ uptoBulk (.slice (elems.map (·.1)) (rest.map (·.1)))
   omega
theorem e0d {t e : TypeId} (ht : P.underlying t = some (.slice e)) (he : P.underlying e = some (.int .u32)) (hc : P.cellsOf e = 1) {fuel : Nat} {cs : List Value} {x : DataW K × List MemPlace} (h : DataW.trod enc P w base sp held fuel t cs = some x) :
  ∃ l : List Nat, Stands w cs (natV l) ∧ Lim l ∧ l.length ≤ uptoBulk x.1 := by
 obtain ⟨xs0, q1, q2, q3, _⟩ := e3m (enc := enc) (P := P) (w := w) (base := base) (sp := sp) (held := held) (fun n : Nat => .int .u32 (n : Int)) (fun n (_ : DataW K) => n < LB) 1 ht hc (by decide) (fun _ => rfl) (fun _ => .int _ _) (by
  intro m cs y hy hl
  obtain ⟨n, rfl, hx, hwf⟩ := DataW.trod_int he hy
  have hb := bounds_u32 hwf
  refine ⟨n.toNat, by show n.toNat < 4294967296; omega, by simp [Value.oneCell'], rfl, ?_⟩
  intro φ k v c hv hc'
  match k with
  | 0 =>
   cases hv; cases hc'
   have : (n.toNat : Int) = n := by omega
   rw [this]; exact .int _ _
  | k + 1 => simp at hv) h
 exact ⟨xs0, q1, fun d hd => (q3 d hd).choose_spec.1, q2⟩
theorem open_z {t tb tm e : TypeId} {fs : Array Field} {f0 f1 : Field} (ht : P.underlying t = some (.struct fs)) (hfs : fs.toList = [f0, f1]) (h0 : f0.type = tb ∧ f0.offset = 0) (h1 : f1.type = tm ∧ f1.offset = 1) (hb : P.underlying tb = some .bool) (hbc : P.cellsOf tb = 1) (hmc : P.cellsOf tm = 1)
  (hm : P.underlying tm = some (.slice e)) (he : P.underlying e = some (.int .u32)) (hc : P.cellsOf e = 1) {fuel : Nat} {cs : List Value} {x : DataW K × List MemPlace} (h : DataW.trod enc P w base sp held fuel t cs = some x) (hl2 : cs.length = 2) :
  ∃ z : ZI, Stands w cs z.av ∧ Zok (uptoBulk x.1) z := by
 obtain ⟨xs, n, rfl, rfl, hl, hxs, hget⟩ := DataW.trod_struct ht h
 have hf0 : fs[0]? = some f0 := by rw [← Array.getElem?_toList, hfs]; rfl
 have hf1 : fs[1]? = some f1 := by rw [← Array.getElem?_toList, hfs]; rfl
 have hsz : fs.size = 2 := by rw [← Array.length_toList, hfs]; rfl
 have g0 := hget 0 f0 hf0
 have g1 := hget 1 f1 hf1
 rw [h0.1, h0.2, hbc] at g0
 rw [h1.1, h1.2, hmc] at g1
 obtain ⟨c0, c1, rfl⟩ : ∃ c0 c1, cs = [c0, c1] := by
  match cs, hl2 with
  | [a, b], _ => exact ⟨a, b, rfl⟩
 have e0 : xs[0]? = some (xs[0]'(by omega)) := List.getElem?_eq_getElem (by omega)
 have e1 : xs[1]? = some (xs[1]'(by omega)) := List.getElem?_eq_getElem (by omega)
 rw [e0] at g0
 rw [e1] at g1
 simp only [List.drop_zero, List.take_succ_cons, List.take_zero, List.drop_succ_cons] at g0 g1
 obtain ⟨b, hb1, _⟩ := DataW.trod_bool hb g0
 obtain ⟨l, q1, q2, q3⟩ := e0d hm he hc g1
 simp only [List.cons.injEq, and_true] at hb1
 subst hb1
 refine ⟨⟨b, l⟩, ⟨?_, rfl, ?_⟩, q2, ?_⟩
 ·intro c hc'
  simp only [List.mem_cons, List.not_mem_nil, or_false] at hc'
  rcases hc' with rfl | rfl
  ·rfl
  ·exact q1.one _ (by simp)
 ·intro φ k v c hv hc'
  match k with
  | 0 => cases hv; cases hc'; exact .bool b
  | 1 => cases hv; cases hc'; exact q1.rep φ 0 _ _ rfl rfl
  | k + 2 => simp at hv
 ·have hm1 : (xs[1]'(by omega)).1 ∈ xs.map (·.1) := List.mem_map.2 ⟨_, List.getElem_mem _, rfl⟩
  have := c8r hm1
  show l.length ≤ uptoBulk (.agg (xs.map (·.1)))
  simp only [uptoBulk]
  omega
structure Types (P : Program) (tm tv tz tb tn te : TypeId) : Prop where
 mat : P.underlying tm = some (.slice tv)
 vec : P.underlying tv = some (.slice tz)
 num : ∃ fs f0 f1, P.underlying tz = some (.struct fs) ∧ fs.toList = [f0, f1] ∧ (f0.type = tb ∧ f0.offset = 0) ∧ (f1.type = tn ∧ f1.offset = 1)
 bool : P.underlying tb = some .bool
 nat : P.underlying tn = some (.slice te)
 u32 : P.underlying te = some (.int .u32)
 cv : P.cellsOf tv = 1
 cz : P.cellsOf tz = 2
 cb : P.cellsOf tb = 1
 cn : P.cellsOf tn = 1
 ce : P.cellsOf te = 1
variable {tm tv tz tb tn te : TypeId}
theorem Types.open_z (T : Types P tm tv tz tb tn te) {fuel : Nat} {cs : List Value} {x : DataW K × List MemPlace} (h : DataW.trod enc P w base sp held fuel tz cs = some x) (hl2 : cs.length = 2) : ∃ z : ZI, Stands w cs z.av ∧ Zok (uptoBulk x.1) z := by
 obtain ⟨fs, f0, f1, h1, h2, h3, h4⟩ := T.num
 exact Abs.open_z h1 h2 h3 h4 T.bool T.cb T.cn T.nat T.u32 T.ce h hl2
end
end Go.Abs
namespace Go.Abs
open Go.ChangeShapes Go.WideShapes Go.RowKit
theorem d7y {P : Program} {f : FuncId} {ss : List AV} {r : Bool} (hp : a0i P f ss (.bool r)) {args : Array Value} {W : World} (hl : args.size = ss.length) (hr : ∀ (k : Nat) v a, args.toList[k]? = some v → ss[k]? = some a → Rep ⟨fun _ => none, [], W⟩ v a) :
  Calls P f args W fun e W' => e = .returned (.bool r) ∧ Below W.heap.size W W' := by
 have h := (hp []).2 (fun _ => none) W args.toList (e3E _ _) (by simpa using hl) hr
 rw [Array.toArray_toList] at h
 refine h.mono ?_
 rintro e w' ⟨v, r', φ', H', rfl, ⟨rfl, rfl⟩, q1, q2, q3, q4⟩
 refine ⟨by rw [a1P q2], q4.os, q4.tape, q4.output, q4.size, fun k hk => q4.keep k hk d6V⟩
theorem Below.trodAll {K : Type} {enc : TypeId × Value → K} {P : Program} (hl : laidOutB P = true) {W W' : World} (hb : Below W.heap.size W W') : ∀ {ts : List TypeId} {vs : List Value} {ds : List (DataW K)} {ps : List MemPlace}, (ts.all fun t => P.readableRec t && decide (t < P.types.size)) = true →
  DataW.TrodAll enc P W 0 (fun _ => true) true ts vs ds ps → (∀ x ∈ ps, x.block < W.heap.size) → DataW.TrodAll enc P W' 0 (fun b => decide (b < W.heap.size)) true ts vs ds ps
 | [], [], [], _, _, h, _ => h
 | t :: ts, v :: vs, d :: ds, _, hts, ⟨p, q, h1, h2, e⟩, hlt => by
  simp only [List.all_cons, Bool.and_eq_true, decide_eq_true_eq] at hts
  exact ⟨p, q, Go.RowKit.Below.trod hl hts.1.1 hts.1.2 h1 hb (fun x hx => hlt x (by rw [e]; exact List.mem_append_left _ hx)), Below.trodAll hl hb (by simpa using hts.2) h2 (fun x hx => hlt x (by rw [e]; exact List.mem_append_right _ hx)), e⟩
 | [], _ :: _, _, _, _, h, _ => by simp [DataW.TrodAll] at h
 | [], [], _ :: _, _, _, h, _ => by simp [DataW.TrodAll] at h
 | _ :: _, [], _, _, _, h, _ => by simp [DataW.TrodAll] at h
 | _ :: _, _ :: _, [], _, _, h, _ => by simp [DataW.TrodAll] at h
theorem d9P {K : Type} {enc : TypeId × Value → K} {P : Program} {f : Func} {s : ChangeSpec} {fresh handsOn : Bool} {W W' : World} {args : Array Value} {ds gs : List (DataW K)} {before : List MemPlace} {tb : TypeId}
  (hW : DataW.Whole enc P f.params.toList s.vars false W args.toList ds gs before) (hv : s.vars = []) (hfn : s.fn K ds = { results := [.lit (.bool true)], args := ds }) (ht : f.resultTypes = #[tb]) (htb : P.underlying tb = some .bool)
  (hl : laidOutB P = true) (hts : (f.params.toList.all fun t => P.readableRec t && decide (t < P.types.size)) = true) (hb : Below W.heap.size W W') :
  s.post enc P f false fresh handsOn false W args (.bool true) W' := by
 have hW0 := hW
 obtain ⟨p, q, hA, hV, rfl, hz, hn⟩ := hW
 rw [hv] at hV
 obtain ⟨rfl, rfl⟩ := trodVars_none hV
 have hlt : ∀ x ∈ p, x.block < W.heap.size := fun x hx => by simpa using hW0.lt x (by simpa using hx)
 have hA' := Below.trodAll (enc := enc) hl hb hts hA hlt
 refine ⟨ds, [], p ++ [], [], p, [], hW0, ?_, ?_, ?_, ?_, by simp⟩
 ·rw [List.append_nil, hfn, ht]
  exact trodAll_cons_mk (shut_bool htb true) trodAll_mk0
 ·rw [List.append_nil, hfn]; exact hA'
 ·rw [List.append_nil, hfn, hv]; rfl
 ·refine ⟨hb.os, hb.output, fun i hi => ?_⟩
  have := (World.keptBut_refl W (fun x => x ∈ p ++ [] ∧ (x ∈ [] ∨ x ∈ p ∨ x ∈ []))).2.2 i hi
  rw [hb.block i hi]
  exact this
end Go.Abs
namespace Go.Abs
open Go.ChangeShapes Go.WideShapes Go.RowKit
open Go.Proofs.YtclecbomkhgflaaGreatDoor.Rows (uptoBulk uptoBulkAll)
section
variable {K : Type} {enc : TypeId × Value → K} {P : Program} {w : World} {base : Nat} {sp : Nat → Bool} {held : Bool} {tm tv tz tb tn te : TypeId} {v : Value} {fuel : Nat} {x : DataW K × List MemPlace} {b1 : Nat}
theorem d0m {c : Value} (h : v.cells.toList = [c]) (hn : ∀ cs, v ≠ .agg cs) : v = c := by
 cases v with
 | agg cs => exact absurd rfl (hn cs)
 | _ => exact (List.cons.inj h).1
theorem e4Q {t : TypeId} (ht : P.underlying t = some (.int .i64)) (hok : Value.okWide P w .any b1 t v) (h : DataW.trod enc P w base sp held fuel t v.cells.toList = some x) : ∃ n : Int, (-9223372036854775808 ≤ n ∧ n < 9223372036854775808) ∧ ∀ φ, Rep ⟨φ, [], w⟩ v (.int .i64 n) := by
 obtain ⟨n, hc, hx, hwf⟩ := DataW.trod_int ht h
 have hb := bounds_i64 hwf
 refine ⟨n, ⟨hb.1, by omega⟩, fun φ => ?_⟩
 have : v = .int .i64 n := d0m hc (by
  rintro cs rfl
  unfold Value.okWide at hok
  rw [ht] at hok
  simp [Cell.okWide, Cell.ok, ht] at hok)
 subst this
 exact .int _ _
end
end Go.Abs

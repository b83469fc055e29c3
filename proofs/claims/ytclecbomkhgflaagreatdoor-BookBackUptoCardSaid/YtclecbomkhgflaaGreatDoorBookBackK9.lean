/- Part 9 of the proof of BookBack: K22, K23, K26, K27, O1, O2, O3. -/
import Derived.Test.YtclecbomkhgflaaGreatDoorBookBackK8
import Derived.Test.YtclecbomkhgflaaGreatDoorRows
import Derived.OpenShut
import Derived.ChangeArms
import Derived.Carry
import Derived.WalkKit
import Derived.ProofKit
import Derived.JoinedCond
set_option linter.unusedVariables false
set_option linter.unusedSimpArgs false
namespace Go.Abs
open Go.Proofs
theorem e3M (v : List ZI) (k : Nat) : zg (vec v.length fun k => zg v k) k = zg v k := by
 rcases Nat.lt_or_ge k v.length with h | h
 ·exact d3m h
 ·rw [e3N h, e3N (by rw [a0v]; exact h)]
theorem a7U (b : List (List ZI)) : (a1q b).length = b.length := a1r _ _
theorem c7Z (b : List (List ZI)) (i : Nat) : mg (a1q b) i = vec (mg b i).length fun k => zg (mg b i) k := by
 rcases Nat.lt_or_ge i b.length with h | h
 ·exact e7s h
 ·rw [e7t (by rw [a7U]; exact h), e7t h]; rfl
theorem d6K (b : List (List ZI)) (i k : Nat) : zg (mg (a1q b) i) k = zg (mg b i) k := by rw [c7Z, e3M]
theorem b6X (b : List (List ZI)) (i : Nat) : (mg (a1q b) i).length = (mg b i).length := by rw [c7Z, a0v]
theorem e5k (b : List (List ZI)) : Gr (a1q b) = Gr b := by
 funext i j
 unfold Gr dotZ
 rw [b6X]
 simp only [d6K]
theorem d0W (b : List (List ZI)) : ∀ n, b4z (a1q b) n = b4z b n
 | 0 => rfl
 | n + 1 => by simp only [b4z, d0W b n, d6K, b6X]
theorem e3H (b : List (List ZI)) (p : List ZI → Bool) : b.any p = true ↔ ∃ i, i < b.length ∧ p (mg b i) = true := by
 rw [List.any_eq_true]
 constructor
 ·rintro ⟨r, hr, hp⟩
  obtain ⟨i, hi, rfl⟩ := List.mem_iff_getElem.1 hr
  exact ⟨i, hi, by rw [a5N hi]; exact hp⟩
 ·rintro ⟨i, hi, hp⟩
  rw [a5N hi] at hp
  exact ⟨_, List.getElem_mem hi, hp⟩
theorem e3a (bits : Bool) (b : List (List ZI)) : bigB bits (a1q b) (a1q b).length = bigB bits b b.length := by
 unfold bigB
 rw [List.take_length, List.take_length, a7U, d0W]
 congr 1
 rw [Bool.eq_iff_iff, e3H, e3H, a7U]
 simp only [b6X]
theorem c2P (b : List (List ZI)) : Rect (a1q b) ↔ Rect b := by
 unfold Rect
 rw [a7U]
 simp only [b6X]
theorem e4k (bits : Bool) (b : List (List ZI)) : shE bits (a1q b) = shE bits b := by
 unfold shE
 rw [e3a, a7U]
 by_cases h : Rect b
 ·rw [if_pos h, if_pos ((c2P b).2 h)]
 ·rw [if_neg h, if_neg fun h' => h ((c2P b).1 h')]
theorem e0B (bits : Bool) (b : List (List ZI)) : valE bits (a1q b) = valE bits b := by
 unfold valE
 rw [e4k, e5k, a7U]
theorem e1o (b : List (List ZI)) : putE (a1q b) = putE b := e0B true b
theorem e1l {m : List (List ZI)} (h : putE m = 0) : m.length ≤ 12 ∧ 0 < m.length ∧ Rect m ∧ (∀ r ∈ m, r.length ≤ 12) ∧ gd (Gr m) m.length = m.length := by
 unfold putE valE at h
 split at h
 ·rename_i h1
  exact absurd h h1
 ·rename_i h1
  have hs : shE true m = 0 := Classical.not_not.1 h1
  split at h
  ·rename_i hg
   unfold shE at hs
   split at hs
   ·cases hs
   ·rename_i hb
    split at hs
    ·cases hs
    ·rename_i h0
     split at hs
     ·rename_i hr
      unfold bigB at hb
      simp only [Bool.or_eq_true, not_or, decide_eq_true_eq, List.take_length] at hb
      refine ⟨by omega, by omega, hr, fun r hrm => ?_, hg⟩
      have := hb.2
      rw [List.any_eq_true] at this
      exact Nat.le_of_not_lt fun hlt => this ⟨r, hrm, decide_eq_true hlt⟩
     ·cases hs
  ·cases h
def CanM (m : List (List ZI)) : Prop := ∀ r ∈ m, ∃ n f, r = vec n f
theorem c1Y (b : List (List ZI)) : CanM (a1q b) := fun r hr => by
 obtain ⟨i, _, rfl⟩ := List.mem_map.1 hr
 exact ⟨_, _, rfl⟩
theorem d6N {r : List ZI} (h : ∃ n f, r = vec n f) : vec r.length (fun k => zg r k) = r := by
 obtain ⟨n, f, rfl⟩ := h
 rw [a0v]
 exact c2A fun i hi => d3m hi
theorem d4b {m : List (List ZI)} (h : CanM m) : a1q m = m := by
 apply List.ext_getElem
 ·rw [a7U]
 ·intro i h1 h2
  have h3 : i < m.length := h2
  have : (a1q m)[i] = mg (a1q m) i := (a5N h1).symm
  rw [this, c7Z, a5N h3]
  exact d6N (h _ (List.getElem_mem h3))
def mixM (l : List (List ZI)) (i j : Nat) (q : Int) : List (List ZI) := l.set i (vec (mg l i).length fun k => zg (mg l i) k + q * zg (mg l j) k)
theorem a8z (l : List (List ZI)) (i j : Nat) (q : Int) : (mixM l i j q).length = l.length := by simp [mixM]
theorem e3q {l : List (List ZI)} {i j : Nat} {q : Int} (hi : i < l.length) : mg (mixM l i j q) i = vec (mg l i).length fun k => zg (mg l i) k + q * zg (mg l j) k := by
 rw [a5N (by rw [a8z]; exact hi)]
 simp [mixM]
theorem d8l {l : List (List ZI)} {i j k : Nat} {q : Int} (h : i ≠ k) : mg (mixM l i j q) k = mg l k := by
 unfold mixM mg
 rw [List.getD_eq_getElem?_getD, List.getElem?_set_ne h, ← List.getD_eq_getElem?_getD]
theorem e4Y {l : List (List ZI)} (h : CanM l) (i j : Nat) (q : Int) : CanM (mixM l i j q) := fun r hr => by
 rcases List.mem_or_eq_of_mem_set hr with hr | hr
 ·exact h r hr
 ·exact ⟨_, _, hr⟩
theorem e1O {l : List (List ZI)} (h : CanM l) {i j : Nat} (hi : i < l.length) (hij : i ≠ j) (hr : (mg l j).length = (mg l i).length) (q : Int) : mixM (mixM l i j q) i j (-q) = l := by
 apply List.ext_getElem
 ·rw [a8z, a8z]
 ·intro k h1 h2
  have e1 : (mixM (mixM l i j q) i j (-q))[k] = mg (mixM (mixM l i j q) i j (-q)) k := (a5N h1).symm
  have e2 : l[k] = mg l k := (a5N h2).symm
  rw [e1, e2]
  by_cases hk : i = k
  ·subst hk
   rw [e3q (by rw [a8z]; exact hi), e3q hi, d8l hij, a0v]
   have : vec (mg l i).length (fun k => zg (mg l i) k) = mg l i := d6N (by rw [a5N hi]; exact h _ (List.getElem_mem hi))
   conv => rhs; rw [← this]
   refine c2A fun c hc => ?_
   rw [d3m hc]
   grind
  ·rw [d8l hk, d8l hk]
end Go.Abs
namespace Go.Abs
open Go.Proofs
structure GoodM (l : List (List ZI)) : Prop where
 len : l.length ≤ 12
 row : ∀ r ∈ l, r.length ≤ 12 ∧ Vok 4194304 r
 rect : Rect l
 can : CanM l
 put : putE l = 0
structure GoodB (B : Bk) : Prop where
 ok : B.Ok
 n : B.ks.length ≤ 64
 key : ∀ k ∈ B.ks, a3S k = true
 mat : ∀ l ∈ B.ls, GoodM l
theorem d7d {α : Type} (f : α → Nat) (c : Nat) : ∀ l : List α, (∀ x ∈ l, f x ≤ c) → (l.map f).sum ≤ l.length * c
 | [], _ => by simp
 | x :: l, h => by
  have h1 := h x (by simp)
  have h2 := d7d f c l fun y hy => h y (by simp [hy])
  simp only [List.map_cons, List.sum_cons, List.length_cons, Nat.add_mul, Nat.one_mul]
  omega
theorem c6T {k : List UInt8} (h : a3S k = true) : k.length ≤ 32 := by
 unfold a3S at h
 rw [Bool.and_eq_true, decide_eq_true_eq] at h
 exact h.1.2.1
theorem d6W {r : List ZI} (h : r.length ≤ 12 ∧ Vok 4194304 r) : (txV r).length ≤ 503316540 := by
 unfold txV
 have h1 := d3T (fun i => decI (zg r i)) [32] r.length
 have h2 := d7d (fun x : List UInt8 => x.length + [32].length) 41943045 (tx r.length fun i => decI (zg r i)) fun x hx => by
  obtain ⟨i, _, rfl⟩ := List.mem_map.1 hx
  have := e2x (h.2.abs i)
  simp only [List.length_singleton]
  omega
 rw [b6v] at h2
 have h3 := h.1
 have : r.length * 41943045 ≤ 12 * 41943045 := Nat.mul_le_mul_right _ h3
 omega
theorem e2c {B : Bk} (hB : B.Ok) (k : List UInt8) : getL B k ∈ B.ls ∨ getL B k = [] := by
 unfold getL Bk.get?
 cases hk : ix B.ks k with
 | none => exact .inr rfl
 | some i =>
  left
  have hi : i < B.ls.length := by rw [hB.l2, ← hB.l1]; exact d8G hk
  simp only [Option.map_some, Option.getD_some]
  rw [List.getD_eq_getElem?_getD, List.getElem?_eq_getElem hi]
  exact List.getElem_mem hi
theorem d9l {α : Type} (f : α → List UInt8) (c : Nat) (l : List α) (h : ∀ x ∈ l, (f x).length ≤ c) : (l.flatMap f).length ≤ l.length * c := by
 rw [List.length_flatMap]
 exact d7d (fun x => (f x).length) c l h
theorem d8W {B : Bk} (h : GoodB B) : TxOk B := by
 have hg : ∀ k, (getL B k).length ≤ 12 ∧ ∀ r ∈ getL B k, r.length ≤ 12 ∧ Vok 4194304 r := fun k => by
  rcases e2c h.ok k with h1 | h1
  ·exact ⟨(h.mat _ h1).len, (h.mat _ h1).row⟩
  ·rw [h1]; exact ⟨by simp, fun r hr => nomatch hr⟩
 refine ⟨by rw [← h.ok.l1]; exact Nat.le_trans h.n (by omega), fun k => ⟨by have := (hg k).1; omega, fun r hr => ⟨((hg k).2 r hr).2.mono (by omega), by have := d6W ((hg k).2 r hr); omega⟩⟩, fun k hk => by have := c6T (h.key k hk); omega, ?_⟩
 unfold b6w a3z
 have hl : ∀ k ∈ a0W B, (latT k (getL B k)).length ≤ 6039798600 := fun k hk => by
  have h1 := c6T (h.key k (c6S hk))
  have h2 : (a6P (getL B k)).length ≤ 12 * 503316542 := by
   unfold a6P
   refine Nat.le_trans (d9l rowT 503316542 (getL B k) fun r hr => ?_) (Nat.mul_le_mul_right _ (hg k).1)
   have := d6W ((hg k).2 r hr)
   simp only [rowT, List.length_cons, List.length_append, List.length_nil]
   omega
  have e1 : sLat.length = 8 := rfl
  have e2 : sEnd.length = 4 := rfl
  generalize hR : (a6P (getL B k)).length = n at h2
  have e3 : (latT k (getL B k)).length = 8 + k.length + 1 + (n + 4) := by unfold latT; simp only [List.length_append, List.length_cons, List.length_nil, e1, e2, hR]
  rw [e3]
  omega
 have h4 := d9l (fun k => latT k (getL B k)) 6039798600 (a0W B) hl
 have h5 : (a0W B).length ≤ 64 := by unfold a0W; rw [b2I]; exact h.n
 have : (a0W B).length * 6039798600 ≤ 64 * 6039798600 := Nat.mul_le_mul_right _ h5
 omega
theorem d0v {m : List (List ZI)} (h : putE m = 0) (hm : Mok 4194304 m) : GoodM (a1q m) := by
 obtain ⟨h1, h2, h3, h4, h5⟩ := e1l h
 refine ⟨by rw [a7U]; exact h1, fun r hr => ?_, (c2P m).2 h3, c1Y m, by rw [e1o]; exact h⟩
 obtain ⟨i, hi, rfl⟩ := List.mem_iff_getElem.1 hr
 have e : (a1q m)[i] = mg (a1q m) i := (a5N hi).symm
 rw [a7U] at hi
 rw [e, c7Z]
 have hr' := hm.get hi
 rw [← a5N hi] at hr'
 refine ⟨by rw [a0v, a5N hi]; exact h4 _ (List.getElem_mem hi), c2f hr'.len fun k _ => hr'.abs k⟩
theorem e2M : GoodB bk0 := ⟨d4s, by simp [bk0], (fun k hk => nomatch hk), (fun l hl => nomatch hl)⟩
end Go.Abs
namespace Go.Abs
open Go.Proofs Go.RowKit
theorem Safe.rawW {x : Cx} {todo : List AItem} {env : Env} {H : Heap} {R : AV → Heap → Prop} {id : Nat} {ops : Array Oper} {d : Bool} {k : List AItem} (e : Abs.stl 40 k = .code (.raw id ops d) :: todo) (env' : Env)
  (h : ∀ φ w tmps, HOk ⟨φ, H, w⟩ → a0r ⟨φ, H, w⟩ env tmps → tmps.size = x.nt → (Code.region id ops d).wp x.P (fun e a w' => e = .normal ∧ w' = w ∧ a.defers = [] ∧ a0r ⟨φ, H, w⟩ env' a.tmps ∧ a.tmps.size = x.nt) ⟨tmps, []⟩ w)
  (hK : Safe x todo env' H R) : Safe x k env H R := by
 refine Safe.stl 40 k ?_
 rw [e]
 intro φ w tmps b k cs hg hn hb hk ht hsz hok he
 obtain ⟨i, k', rfl, h1, h2⟩ := a0j ht
 obtain ⟨c, rfl, h1⟩ := a0m h1
 obtain rfl := c8m h1
 obtain ⟨e, a', w', ⟨rfl, rfl, s1, s2, s3⟩, harr⟩ := h φ w tmps hok he hsz b k' cs
 have ha : a' = ⟨a'.tmps, []⟩ := by cases a'; simp at s1; simp [s1]
 rw [ha] at harr
 obtain ⟨v, w2, fr, r, φ', H', q1, q2, q3, q4, q5, q6, q7⟩ := hK φ w' a'.tmps b k' cs hg hn hb hk h2 s3 hok s2
 exact ⟨v, w2, fr, r, φ', H', q1, q2, q3, q4, q5, Steps.trans harr q6, q7⟩
theorem d7K {E : Emb} {v : Value} {wd : Nat} {xs : List AV} (h : Rep E v (.sl wd xs)) (hx : xs ≠ []) : ∃ b n c, v = .slice (some b) n c := by
 cases h with
 | sl base cap wd xs vs b o hcap hpos hw hcl hbase hlen hcell hrep =>
  rcases hbase with h | ⟨rfl, _⟩
  ·exact absurd h hx
  ·exact ⟨_, _, _, rfl⟩
 | dead v a id hr hd h1 => simp [AV.ref] at hr
theorem d9M : a9e Tryz.f38 1 = #[{ dst := some 3, op := .move (.tmp 0), type := 37, pos := "slices.go:357", after := #[], guard := none }, { dst := some 4, op := .binOp .eql 37 (.tmp 3) (.const (.slice none 0 0)) 37, type := 4, pos := "slices.go:357", after := #[{ on := 0, ground := .data }], guard := none }] := by kernel_rfl
theorem d6z : Pr.underlying 37 = some (.slice 88) := by kernel_rfl
theorem e2B (H : Heap) (l : List (List ZI)) (hl : l ≠ []) (hlen : l.length ≤ 2097152) : a0h Pr a4G [matV l] H fun r' H' => r' = .mu (lid H 0) 0 l.length none ∧ H' = hap H [some ⟨1, l.map vecV⟩] := by
 refine a0h.open b4t b4s (Nat.le_of_ble_eq_true rfl) fun hH => ?_
 refine Safe.rg rfl ?_
 simp only [a7q, E3, a0b, a0c, a0d, a0a, seval]
 refine Safe.rawW rfl [(4, .bool false), (3, matV l), (2, .nil), (0, matV l)] (fun φ w tmps hok he hsz => ?_) ?_
 ·rw [d9M]
  refine wp_region_list ?_
  have h0 := he 0
  simp only [c4r, ↓reduceIte] at h0
  have hsz1 : ((Act.mk tmps []).put (some 3) (tmps.getD 0 undef)).tmps.size = 8 := by rw [a4c]; exact hsz
  have he1 : a0r ⟨φ, hap H [], w⟩ ((3, matV l) :: [(2, .nil), (0, matV l)]) ((Act.mk tmps []).put (some 3) (tmps.getD 0 undef)).tmps := a2i (d := some 3) he (by show decide (3 < tmps.size) = true; rw [hsz]; rfl) h0
  generalize hT1 : (Act.mk tmps []).put (some 3) (tmps.getD 0 undef) = A1 at hsz1 he1
  have hd1 : A1.defers = [] := by rw [← hT1]; rfl
  obtain ⟨T1, D1⟩ := A1
  simp only at hd1
  subst hd1
  have h3 := he1 3
  simp only [c4r, ↓reduceIte] at h3
  obtain ⟨b, n, c, hb⟩ := d7K h3 (by simp [hl])
  have r1 : (execOp (Act.eval ⟨tmps, []⟩) { dst := some 3, op := .move (.tmp 0), type := 37, pos := "slices.go:357", after := #[], guard := none }).run Pr w = .ok (.value (tmps.getD 0 undef)) w := rfl
  have eq0 : (Op.equal 37 (.slice (some b) n c) (.slice none 0 0)).run Pr w = .ok false w := by
   have gen : ∀ d, (Op.equalIn (d + 1) 37 (.slice (some b) n c) (.slice none 0 0)).run Pr w = .ok false w := by
    intro d
    simp only [Op.equalIn, Sem.run_bind, run_underlying d6z, Result.andThen_ok]
    rfl
   exact gen 9999
  have r2 : (execOp (Act.eval ⟨T1, []⟩) { dst := some 4, op := .binOp .eql 37 (.tmp 3) (.const (.slice none 0 0)) 37, type := 4, pos := "slices.go:357", after := #[{ on := 0, ground := .data }], guard := none }).run Pr w = .ok (.value (.bool false)) w := by
   have ev3 : Act.eval ⟨T1, []⟩ (.tmp 3) = .slice (some b) n c := hb
   have evc : Act.eval ⟨T1, []⟩ (.const (.slice none 0 0)) = .slice none 0 0 := rfl
   simp only [execOp, ev3, evc]
   have hg : (eqGuard .eql 37 (.tmp 3) (.const (.slice none 0 0)) (.slice (some b) n c) (.slice none 0 0)).run Pr w = .ok () w := rfl
   simp [hg, Go.binOp, eq0]
  unfold wpList
  rw [if_pos (by rfl)]
  refine .inl ?_
  simp only [Oper.wp, r1, Oper.upon]
  rw [hT1]
  unfold wpList
  rw [if_pos (by rfl)]
  refine .inl ?_
  simp only [Oper.wp, r2, Oper.upon]
  unfold wpList
  refine ⟨rfl, rfl, ?_, ?_, ?_⟩
  ·rfl
  ·have := a2i (d := some 4) he1 (by show decide (4 < T1.size) = true; rw [hsz1]; rfl) (.bool false : Rep ⟨φ, hap H [], w⟩ (.bool false) (.bool false))
   exact this
  ·rw [a4c]; exact hsz1
 ·have hsrc : ∀ H', a0Z H' 1 false (matV l) = some (l.map vecV) := fun H' => a2b H' 1 (l.map vecV)
  have hlp : 0 < l.length := List.length_pos_iff.2 hl
  have happ := fun env => b7P H.length env H [some ⟨1, []⟩] 1 24 false 0 0 (some 0) (matV l) [] (l.map vecV) hH rfl rfl (a5g H 0) (hsrc _) (b4k (by intro b hb a ha; simp at hb; subst hb; simp [Blk.flat] at ha)) (by
   intro a ha
   obtain ⟨x, hx, ha⟩ := List.mem_flatMap.1 ha
   obtain ⟨y, _, rfl⟩ := List.mem_map.1 hx
   exact (a5T (a0x y) a ha).ref) (by rw [List.length_map]; omega) (by rw [List.length_map]; omega) (by simp; omega)
  have hcap : a1f (some 0) (0 + l.length) = none := by unfold a1f; simp; omega
  rw [List.length_map, hcap, Nat.zero_add] at happ
  refine Safe.cd rfl ?_
  simp only [E3, a0b, a0c, a0d, a0a, seval]
  refine Safe.rg rfl ?_
  simp only [a7p, happ, E3, a0b, a0c, a0d, a0a, seval]
  refine Safe.rt rfl ?_
  simp only [E3, a0b, a0c, a0d, a0a, seval]
def d3O (l : List (List ZI)) (i j : Int) : Prop := i < 0 ∨ (l.length : Int) ≤ i ∨ j < 0 ∨ (l.length : Int) ≤ j ∨ i = j
section
variable {H : Heap} {ib im : Nat} {B : Bk} (h : InB H ib im B)
include h
theorem e4Z (k : List UInt8) {l : List (List ZI)} (hg : B.get? k = some l) (i j : Int) (q : ZI) (hb : d3O l i j) : EC a3c [.loc ib 0 0, strU k, .int .i64 i, .int .i64 j, q.av] H (.int .i64 1) H := by
 have hf := d9n (h.hap [some ⟨2, [q.av]⟩]) k
 rw [hg] at hf
 refine a0h.eff b2h b2g (Nat.le_of_ble_eq_true rfl) fun hH => ?_
 refine Safe.rg rfl ?_
 simp only [a6Z, ZI.av_fit, ZI.av_cells, E3, a0b, a0c, a0d, a0a, seval]
 refine Safe.rg rfl ?_
 simp only [a6Y, E3, a0b, a0c, a0d, a0a, seval]
 refine hf.acall ?_
 simp only [Option.isSome_some, optV, E3, a0b, a0c, a0d, a0a, seval]
 refine Safe.rg rfl ?_
 simp only [a6X, E3, a0b, a0c, a0d, a0a, seval]
 refine Safe.cd rfl ?_
 simp only [E3, a0b, a0c, a0d, a0a, seval]
 by_cases h1 : i < 0
 ·have e1 : (i < 0) = True := eq_true h1
  refine Safe.rg rfl ?_
  simp only [a1y, e1, E3, a0b, a0c, a0d, a0a, seval]
  refine Safe.cd rfl ?_
  simp only [E3, a0b, a0c, a0d, a0a, seval]
  refine Safe.rg rfl ?_
  simp only [a1P, E3, a0b, a0c, a0d, a0a, seval]
  refine Safe.rt rfl ?_
  simp only [E3, a0b, a0c, a0d, a0a, seval]
  exact d2H hH (.int _ _)
 have e1 : (i < 0) = False := eq_false h1
 by_cases h2 : (l.length : Int) ≤ i
 ·have e2 : (i ≥ (l.length : Int)) = True := eq_true h2
  refine Safe.rg rfl ?_
  simp only [a1y, e1, b5G, e2, E3, a0b, a0c, a0d, a0a, seval]
  refine Safe.cd rfl ?_
  simp only [E3, a0b, a0c, a0d, a0a, seval]
  refine Safe.rg rfl ?_
  simp only [a1P, E3, a0b, a0c, a0d, a0a, seval]
  refine Safe.rt rfl ?_
  simp only [E3, a0b, a0c, a0d, a0a, seval]
  exact d2H hH (.int _ _)
 have e2 : (i ≥ (l.length : Int)) = False := eq_false h2
 by_cases h3 : j < 0
 ·have e3 : (j < 0) = True := eq_true h3
  refine Safe.rg rfl ?_
  simp only [a1y, e1, b5G, e2, e3, E3, a0b, a0c, a0d, a0a, seval]
  refine Safe.cd rfl ?_
  simp only [E3, a0b, a0c, a0d, a0a, seval]
  refine Safe.rg rfl ?_
  simp only [a1P, E3, a0b, a0c, a0d, a0a, seval]
  refine Safe.rt rfl ?_
  simp only [E3, a0b, a0c, a0d, a0a, seval]
  exact d2H hH (.int _ _)
 have e3 : (j < 0) = False := eq_false h3
 by_cases h4 : (l.length : Int) ≤ j
 ·have e4 : (j ≥ (l.length : Int)) = True := eq_true h4
  refine Safe.rg rfl ?_
  simp only [a1y, e1, b5G, e2, e3, e4, E3, a0b, a0c, a0d, a0a, seval]
  refine Safe.cd rfl ?_
  simp only [E3, a0b, a0c, a0d, a0a, seval]
  refine Safe.rg rfl ?_
  simp only [a1P, E3, a0b, a0c, a0d, a0a, seval]
  refine Safe.rt rfl ?_
  simp only [E3, a0b, a0c, a0d, a0a, seval]
  exact d2H hH (.int _ _)
 have e4 : (j ≥ (l.length : Int)) = False := eq_false h4
 have e5 : (i = j) = True := eq_true (by
  unfold d3O at hb
  omega)
 refine Safe.rg rfl ?_
 simp only [a1y, e1, b5G, e2, e3, e4, e5, E3, a0b, a0c, a0d, a0a, seval]
 refine Safe.cd rfl ?_
 simp only [E3, a0b, a0c, a0d, a0a, seval]
 refine Safe.rg rfl ?_
 simp only [a1P, E3, a0b, a0c, a0d, a0a, seval]
 refine Safe.rt rfl ?_
 simp only [E3, a0b, a0c, a0d, a0a, seval]
 exact d2H hH (.int _ _)
theorem e3p (k : List UInt8) {l : List (List ZI)} (hg : B.get? k = some l) (i j : Nat) (hi : i < l.length) (hj : j < l.length) (hij : i ≠ j) (hr : (mg l i).length = (mg l j).length) (q : ZI) (p : Nat) (hl : Mok p l) (hq : Zok p q) (hp : GB (p + p + 1) + GB (p + p + 1) + 8 < 17592186044000) :
  EC a3c [.loc ib 0 0, strU k, .int .i64 i, .int .i64 j, q.av] H (.int .i64 (putE (mixM l i j q.z))) (setB H im (putB B k (mixM l i j q.z))) := by
 have hf := d9n (h.hap [some ⟨2, [q.av]⟩]) k
 rw [hg] at hf
 have hll := hl.len
 have e1 : ((i : Int) < 0) = False := eq_false (by omega)
 have e2 : ((i : Int) ≥ (l.length : Int)) = False := eq_false (by omega)
 have e3 : ((j : Int) < 0) = False := eq_false (by omega)
 have e4 : ((j : Int) ≥ (l.length : Int)) = False := eq_false (by omega)
 have e5 : ((i : Int) = (j : Int)) = False := eq_false (by omega)
 refine a0h.eff b2h b2g (Nat.le_of_ble_eq_true rfl) fun hH => ?_
 refine Safe.rg rfl ?_
 simp only [a6Z, ZI.av_fit, ZI.av_cells, E3, a0b, a0c, a0d, a0a, seval]
 refine Safe.rg rfl ?_
 simp only [a6Y, E3, a0b, a0c, a0d, a0a, seval]
 refine hf.acall ?_
 simp only [Option.isSome_some, optV, E3, a0b, a0c, a0d, a0a, seval]
 refine Safe.rg rfl ?_
 simp only [a6X, E3, a0b, a0c, a0d, a0a, seval]
 refine Safe.cd rfl ?_
 simp only [E3, a0b, a0c, a0d, a0a, seval]
 refine Safe.rg rfl ?_
 simp only [a1y, e1, b5G, e2, e3, e4, e5, E3, a0b, a0c, a0d, a0a, seval]
 refine Safe.cd rfl ?_
 simp only [E3, a0b, a0c, a0d, a0a, seval]
 refine Safe.rg rfl ?_
 simp only [b2f, E3, a0b, a0c, a0d, a0a, seval]
 refine (e2B _ l (List.ne_nil_of_length_pos (by omega)) hll).mono fun r' H' hr' => ?_
 obtain ⟨rfl, rfl⟩ := hr'
 refine Safe.keep [0, 1, 2, 3, 9, 13] ?_
 simp only [E3, a0b, a0c, a0d, a0a, seval]
 refine Safe.heq (b8U H _ _) ?_
 have hlid : lid (hap H [some ⟨2, [q.av]⟩]) 0 = lid H 1 := by simp [lid, hap]
 rw [hlid]
 have hGB : p + p + 1 ≤ 17592186044000 := by unfold GB at hp; omega
 have hvi := hl.row i
 have hvj := hl.row j
 have htm := d2b q (mg l j) p p hq hvj (by omega)
 have hv2 : Vok (p + p) (vec (mg l j).length fun c => q.z * zg (mg l j) c) := c2f hvj.len fun c _ => b3h hq.abs (hvj.abs c)
 have hpl := e4K (mg l i) (vec (mg l j).length fun c => q.z * zg (mg l j) c) (p + p) (hvi.mono (by omega)) hv2 (by omega) (by rw [a0v]; exact hr)
 have hvc : (vec (mg l i).length fun c => zg (mg l i) c + zg (vec (mg l j).length fun c => q.z * zg (mg l j) c) c) = vec (mg l i).length fun c => zg (mg l i) c + q.z * zg (mg l j) c := c2A fun c hc => by rw [d3m (by rw [← hr]; exact hc)]
 rw [hvc] at hpl
 have hmm : Mok (p + p + 1) (mixM l i j q.z) := by
  refine ⟨by rw [a8z]; exact hll, fun r hrm => ?_⟩
  rcases List.mem_or_eq_of_mem_set hrm with hrm | rfl
  ·exact (hl.el r hrm).mono (by omega)
  ·refine c2f hvi.len fun c _ => ?_
   have a1 : (zg (mg l i) c).natAbs < LB ^ (p + p) := Nat.lt_of_lt_of_le (hvi.abs c) (b1u (by omega))
   have a2 := b3h hq.abs (hvj.abs c)
   have a3 : LB ^ (p + p + 1) = LB ^ (p + p) * LB := Nat.pow_succ _ _
   have a4 : LB ^ (p + p) * 2 ≤ LB ^ (p + p) * LB := Nat.mul_le_mul_left _ (by decide)
   omega
 have hput := d7N (h.hap [some ⟨2, [q.av]⟩]) k (mixM l i j q.z) (p + p + 1) hmm hp
 rw [d3B _ (ltB h)] at hput
 have hix : ∀ (c : Nat), c < l.length → idxV (hap H [some ⟨2, [q.av]⟩, some ⟨1, l.map vecV⟩]) 1 (.mu (lid H 1) 0 l.length none) (.int .i64 (c : Nat)) = some (.loc (lid H 1) c 0) := fun c hc => by
  simp [idxV, a0Q, hc]
 have hat : ∀ (c : Nat), c < l.length → atV (hap H [some ⟨2, [q.av]⟩, some ⟨1, l.map vecV⟩]) (.loc (lid H 1) c 0) = some [vecV (mg l c)] := fun c hc => by
  rw [b3U, a0Q]
  simp [hc, a5N hc, b7W]
 have hst : ∀ env, a5f 1 (.loc (lid H 1) i 0) (vecV (vec (mg l i).length fun c => zg (mg l i) c + q.z * zg (mg l j) c)) env (hap H [some ⟨2, [q.av]⟩, some ⟨1, l.map vecV⟩]) = some (.top, env, hap H [some ⟨2, [q.av]⟩, some ⟨1, (mixM l i j q.z).map vecV⟩]) := fun env => by
  rw [a5x (env := env) (n := 1) (i := 1) (k := i) (off := 0) (b := ⟨1, l.map vecV⟩) (v := vecV (vec (mg l i).length fun c => zg (mg l i) c + q.z * zg (mg l j) c)) (L := [some ⟨2, [q.av]⟩, some ⟨1, l.map vecV⟩]) (H := H) rfl (by simpa using hi) rfl rfl (by simp)]
  rw [a4a]
  simp [mixM, List.map_set]
 refine Safe.rg rfl ?_
 simp only [b2e, hix i hi, hix j hj, hat i hi, hat j hj, E3, a0b, a0c, a0d, a0a, seval]
 first | refine (htm).acall ?_ | refine (htm).dcall ?_ | refine (htm).dgcall ?_
 try simp only [E3, a0b, a0c, a0d, a0a, seval]
 first | refine (hpl).acall ?_ | refine (hpl).dcall ?_ | refine (hpl).dgcall ?_
 try simp only [E3, a0b, a0c, a0d, a0a, seval]
 simp only [hix i hi, hst, E3, a0b, a0c, a0d, a0a, seval]
 refine Safe.keep [0, 1, 13] ?_
 simp only [E3, a0b, a0c, a0d, a0a, seval]
 refine Safe.freeze 1 hH rfl rfl (a4E 1 vecV _ a0x) ?_
 refine Safe.keep [0, 1, 13] ?_
 have hib := a0k h.b
 have hfr : frz (lid H 1) ⟨1, (mixM l i j q.z).map vecV⟩ (.loc ib 0 0) = .loc ib 0 0 := a4l (.loc _ _ _ (by show ib ≠ lid H 1; unfold lid; omega))
 simp only [hfr, d9e H 1 (mixM l i j q.z) l.length none (a8z _ _ _ _).symm, a7T, c7F, E3, a0b, a0c, a0d, a0a, seval]
 refine Safe.dropG (L := [some ⟨2, [q.av]⟩]) (o := none) hH (Nat.le_refl _) ?_ ?_ ?_
 ·show (([(0, .loc ib 0 0), (1, strU k), (13, matV (mixM l i j q.z))] : Env).all fun p => nref (lid H 1) p.2) = true
  simp only [List.all_cons, List.all_nil, d3K hib, a0J (a1l k), b3B, E3, a0b, a0c, a0d, a0a, seval]
 ·intro b hb a ha
  have hrc : RC [some ⟨2, [q.av]⟩] := by repeat (first | exact RC.nil | refine RC.none ?_ | refine RC.mo ?_ | refine RC.io ?_ | refine RC.row ZI.cl ?_ | refine RC.cons (a1I _) ?_ | refine RC.row a0x ?_ | refine RC.emp ?_ | refine RC.zero ?_ | refine RC.one (Z_cl _) ?_ | refine RC.one (ZI.cl _) ?_ | refine RC.one (a0x _) ?_)
  exact a0J (hrc b hb a ha)
 ·refine Safe.rg rfl ?_
  simp only [b2d, E3, a0b, a0c, a0d, a0a, seval]
  first | refine (hput).acall ?_ | refine (hput).dcall ?_ | refine (hput).dgcall ?_
  try simp only [E3, a0b, a0c, a0d, a0a, seval]
  refine Safe.rt rfl ?_
  simp only [E3, a0b, a0c, a0d, a0a, seval]
  exact finB h hH (.int _ _)
end
end Go.Abs
namespace Go.Abs
open Go.Proofs
theorem e4X {l : List (List ZI)} {p : Nat} (hl : Mok p l) {q : ZI} (hq : Zok p q) (i j : Nat) : Mok (p + p + 1) (mixM l i j q.z) := by
 refine ⟨by rw [a8z]; exact hl.len, fun r hrm => ?_⟩
 have hvi := hl.row i
 have hvj := hl.row j
 rcases List.mem_or_eq_of_mem_set hrm with hrm | rfl
 ·exact (hl.el r hrm).mono (by omega)
 ·refine c2f hvi.len fun c _ => ?_
  have a1 : (zg (mg l i) c).natAbs < LB ^ (p + p) := Nat.lt_of_lt_of_le (hvi.abs c) (b1u (by omega))
  exact e0m a1 (b3h hq.abs (hvj.abs c))
theorem e3L {q : ZI} {p p' : Nat} (hq : Zok p q) (h : p ≤ p') : Zok p' (canZ (-q.z)) := a3m (Nat.lt_of_lt_of_le (by rw [Int.natAbs_neg]; exact hq.abs) (b1u h))
theorem c7M {H : Heap} {B B' : Bk} : setB (hap H (bkL H B)) (lid H 0) B' = hap H (bkL H B') := by
 unfold setB
 rw [a2Q]
 rfl
def a5X (m : List (List ZI)) : Bk := ⟨[0], [[97]], [m], 1⟩
theorem d7Q (m m' : List (List ZI)) : (a5X m).put [97] m' = a5X m' := rfl
theorem d1M (m : List (List ZI)) : (a5X m).get? [97] = some m := rfl
theorem e6k (m : List (List ZI)) : bk0.put [97] m = a5X m := rfl
theorem d7R (m : List (List ZI)) : (a5X m).Ok := ⟨rfl, rfl, (fun b hb => by simp [a5X] at hb; subst hb; exact Nat.zero_lt_one), by simp [a5X], by simp [a5X]⟩
theorem e1w {m : List (List ZI)} (h : GoodM m) : GoodB (a5X m) := ⟨d7R m, by simp [a5X], (fun k hk => by simp [a5X] at hk; subst hk; decide), (fun l hl => by simp [a5X] at hl; subst hl; exact h)⟩
theorem d1H {l : List (List ZI)} (h : Rect l) {i j : Nat} (hi : i < l.length) (hj : j < l.length) : (mg l i).length = (mg l j).length := by rw [h i hi, h j hj]
theorem gb_4 : GB (1048576 + 1048576 + 1) + GB (1048576 + 1048576 + 1) + 8 < 17592186044000 := by unfold GB; decide
theorem gb_5 : GB (4194304 + 4194304 + 1) + GB (4194304 + 4194304 + 1) + 8 < 17592186044000 := by unfold GB; decide
theorem c8H (l : List (List ZI)) (i j : Int) (q : ZI) (hl : Mok 1048576 l) (hq : Zok 1048576 q) : a0f Pr a7d [matV l, .int .i64 i, .int .i64 j, q.av] (.bool true) := by
 have hx0 : b8h bk0 [97] = 0 := by decide
 refine a0f.intro b8R b8Q (Nat.le_of_ble_eq_true rfl) (.bool _) fun H hH => ?_
 refine Safe.rg rfl ?_
 simp only [b0s, ZI.av_fit, ZI.av_cells, E3, a0b, a0c, a0d, a0a, Nat.reduceLeDiff, Nat.reduceSub, Nat.reduceAdd, Nat.reduceEqDiff, reduceCtorEq, ↓reduceIte]
 refine Safe.rg rfl ?_
 simp only [b0r, E3, a0b, a0c, a0d, a0a, Nat.reduceLeDiff, Nat.reduceSub, Nat.reduceAdd, Nat.reduceEqDiff, reduceCtorEq, ↓reduceIte]
 first | refine (b9j).acall ?_ | refine (b9j).dcall ?_ | refine (b9j).dgcall ?_
 try simp only [E3, a0b, a0c, a0d, a0a, Nat.reduceLeDiff, Nat.reduceSub, Nat.reduceAdd, Nat.reduceEqDiff, reduceCtorEq, ↓reduceIte]
 refine Safe.cd rfl ?_
 simp only [E3, a0b, a0c, a0d, a0a, Nat.reduceLeDiff, Nat.reduceSub, Nat.reduceAdd, Nat.reduceEqDiff, reduceCtorEq, ↓reduceIte]
 have hq0 : ∀ L, atV (hap (hap H [some ⟨2, [q.av]⟩]) L) (.loc (lid H 0) 0 0) = some [.bool q.neg, natV q.mag] := fun L => by
  rw [b8U, b3U, a0Q]; rfl
 have hrow0 : ∀ L, (hrow (hap (hap H [some ⟨2, [q.av]⟩]) L) (lid H 0)).isSome = true := fun L => by rw [b8U, a0Q]; rfl
 have hfin : ∀ L, ∃ L', hap (hap H [some ⟨2, [q.av]⟩]) L = hap H L' := fun L => ⟨_, b8U H _ L⟩
 refine Safe.rg rfl ?_
 simp only [b0q, E3, a0b, a0c, a0d, a0a, Nat.reduceLeDiff, Nat.reduceSub, Nat.reduceAdd, Nat.reduceEqDiff, reduceCtorEq, ↓reduceIte]
 refine (e3o _).mono fun r' H' hr' => ?_
 obtain ⟨rfl, rfl⟩ := hr'
 simp only [E3, a0b, a0c, a0d, a0a, Nat.reduceLeDiff, Nat.reduceSub, Nat.reduceAdd, Nat.reduceEqDiff, reduceCtorEq, ↓reduceIte]
 generalize hap H [some ⟨2, [q.av]⟩] = G at hq0 hfin hrow0
 have hin0 : InB (hap G (bkL G bk0)) (lid G 1) (lid G 0) bk0 := d0V d4s
 refine Safe.rg rfl ?_
 simp only [b0p, show hap G (newL G) = hap G (bkL G bk0) from rfl, e3x hin0, E3, a0b, a0c, a0d, a0a, Nat.reduceLeDiff, Nat.reduceSub, Nat.reduceAdd, Nat.reduceEqDiff, reduceCtorEq, ↓reduceIte]
 refine Safe.cd rfl ?_
 simp only [E3, a0b, a0c, a0d, a0a, Nat.reduceLeDiff, Nat.reduceSub, Nat.reduceAdd, Nat.reduceEqDiff, reduceCtorEq, ↓reduceIte]
 have hadd := e7Y hin0 [97] (by decide) l 1048576 hl (by unfold GB; decide)
 rw [c7M] at hadd
 refine Safe.rg rfl ?_
 simp only [b0o, show AV.str ⟨#[97]⟩ = strU [97] from rfl, E3, a0b, a0c, a0d, a0a, Nat.reduceLeDiff, Nat.reduceSub, Nat.reduceAdd, Nat.reduceEqDiff, reduceCtorEq, ↓reduceIte]
 refine hadd.acall ?_
 have hadE : addE bk0 [97] l = putE l := by unfold addE; rw [if_pos hx0]
 have hadB : addB bk0 [97] l = putB bk0 [97] l := by unfold addB; rw [if_pos hx0]
 rw [hadE, hadB]
 by_cases he : putE l = 0
 ·have hb1 : putB bk0 [97] l = a5X (a1q l) := by unfold putB; rw [if_pos he, e6k]
  have hg1 : GoodM (a1q l) := d0v he (hl.mono (by omega))
  have hin1 : InB (hap G (bkL G (a5X (a1q l)))) (lid G 1) (lid G 0) (a5X (a1q l)) := d0V (d7R _)
  have ht1 := d1w hin1 (d8W (e1w hg1))
  have hs : binV .eql (strU (b6w (a5X (a1q l)))) (strU (b6w (a5X (a1q l)))) = some (.bool true) := by rw [a2h]; simp
  rw [he, hb1]
  simp only [E3, a0b, a0c, a0d, a0a, Nat.reduceLeDiff, Nat.reduceSub, Nat.reduceAdd, Nat.reduceEqDiff, reduceCtorEq, ↓reduceIte]
  refine Safe.rg rfl ?_
  simp only [a5Q, E3, a0b, a0c, a0d, a0a, Nat.reduceLeDiff, Nat.reduceSub, Nat.reduceAdd, Nat.reduceEqDiff, reduceCtorEq, ↓reduceIte]
  refine Safe.cd rfl ?_
  simp only [E3, a0b, a0c, a0d, a0a, Nat.reduceLeDiff, Nat.reduceSub, Nat.reduceAdd, Nat.reduceEqDiff, reduceCtorEq, ↓reduceIte]
  refine Safe.rg rfl ?_
  simp only [b0m, E3, a0b, a0c, a0d, a0a, Nat.reduceLeDiff, Nat.reduceSub, Nat.reduceAdd, Nat.reduceEqDiff, reduceCtorEq, ↓reduceIte]
  refine ht1.acall ?_
  simp only [E3, a0b, a0c, a0d, a0a, Nat.reduceLeDiff, Nat.reduceSub, Nat.reduceAdd, Nat.reduceEqDiff, reduceCtorEq, ↓reduceIte]
  refine Safe.rg rfl ?_
  simp only [a9w, hrow0, hq0, show AV.str ⟨#[97]⟩ = strU [97] from rfl, E3, a0b, a0c, a0d, a0a, Nat.reduceLeDiff, Nat.reduceSub, Nat.reduceAdd, Nat.reduceEqDiff, reduceCtorEq, ↓reduceIte]
  have bad : ∀ (e : Int) (env : Env), e ≠ 0 → look env 9 = .loc (lid G 1) 0 0 → look env 11 = strU (b6w (a5X (a1q l))) → Safe ⟨Pr, fun _ _ => false, a7d, 60, [.tmp 8], H.length⟩
    [.code (.seq (.seq (.region a2M false) (.cond (.t 41) (.seq (.region a4j false) .ret) .skip)) (.seq (.region a4i false) (.seq (.region a4h false) .ret)))] ((12, .int .i64 e) :: env) (hap G (bkL G (a5X (a1q l)))) fun r' H' => r' = .bool true ∧ ∃ L, H' = hap H L := by
   intro e env hne h9 h11
   have hne' : (e = 0) = False := eq_false hne
   refine Safe.rg rfl ?_
   simp only [a2M, hne', E3, a0b, a0c, a0d, a0a, Nat.reduceLeDiff, Nat.reduceSub, Nat.reduceAdd, Nat.reduceEqDiff, reduceCtorEq, ↓reduceIte]
   refine Safe.cd rfl ?_
   simp only [E3, a0b, a0c, a0d, a0a, Nat.reduceLeDiff, Nat.reduceSub, Nat.reduceAdd, Nat.reduceEqDiff, reduceCtorEq, ↓reduceIte]
   refine Safe.rg rfl ?_
   simp only [a4j, h9, E3, a0b, a0c, a0d, a0a, Nat.reduceLeDiff, Nat.reduceSub, Nat.reduceAdd, Nat.reduceEqDiff, reduceCtorEq, ↓reduceIte]
   refine ht1.acall ?_
   simp only [h11, hs, E3, a0b, a0c, a0d, a0a, Nat.reduceLeDiff, Nat.reduceSub, Nat.reduceAdd, Nat.reduceEqDiff, reduceCtorEq, ↓reduceIte]
   refine Safe.rt rfl ?_
   simp only [E3, a0b, a0c, a0d, a0a, Nat.reduceLeDiff, Nat.reduceSub, Nat.reduceAdd, Nat.reduceEqDiff, reduceCtorEq, ↓reduceIte]
   exact hfin _
  by_cases hb : d3O (a1q l) i j
  ·refine (e4Z hin1 [97] (d1M _) i j q hb).acall ?_
   simp only [E3, a0b, a0c, a0d, a0a, Nat.reduceLeDiff, Nat.reduceSub, Nat.reduceAdd, Nat.reduceEqDiff, reduceCtorEq, ↓reduceIte]
   exact bad 1 _ (by decide) rfl rfl
  ·unfold d3O at hb
   obtain ⟨a, rfl⟩ : ∃ a : Nat, i = (a : Int) := ⟨i.toNat, by omega⟩
   obtain ⟨b, rfl⟩ : ∃ b : Nat, j = (b : Int) := ⟨j.toNat, by omega⟩
   have ha : a < (a1q l).length := by omega
   have hbb : b < (a1q l).length := by omega
   have hab : a ≠ b := by omega
   have hm1 := e3p hin1 [97] (d1M _) a b ha hbb hab (d1H hg1.rect ha hbb) q 1048576 (d3M hl) hq gb_4
   rw [c7M] at hm1
   refine hm1.acall ?_
   by_cases hp : putE (mixM (a1q l) a b q.z) = 0
   ·have hcan := e4Y (c1Y l) a b q.z
    have hfm : a1q (mixM (a1q l) a b q.z) = mixM (a1q l) a b q.z := d4b hcan
    have hg2 : GoodM (mixM (a1q l) a b q.z) := by
     have := d0v hp ((e4X (d3M hl) hq a b).mono (by omega))
     rwa [hfm] at this
    have hpb : putB (a5X (a1q l)) [97] (mixM (a1q l) a b q.z) = a5X (mixM (a1q l) a b q.z) := by unfold putB; rw [if_pos hp, d7Q, hfm]
    have hin2 : InB (hap G (bkL G (a5X (mixM (a1q l) a b q.z)))) (lid G 1) (lid G 0) (a5X (mixM (a1q l) a b q.z)) := d0V (d7R _)
    have hneg := d5n q (hq.mono (by omega))
    have hnq : Zok 4194304 (canZ (-q.z)) := e3L hq (by omega)
    have hmk : Mok 4194304 (mixM (a1q l) a b q.z) := ⟨by have := hg2.len; omega, fun r hr => (hg2.row r hr).2⟩
    have hm2 := e3p hin2 [97] (d1M _) a b (by rw [a8z]; exact ha) (by rw [a8z]; exact hbb) hab (d1H hg2.rect (by rw [a8z]; exact ha) (by rw [a8z]; exact hbb)) (canZ (-q.z)) 4194304 hmk hnq gb_5
    rw [c7M, a5h, e1O (c1Y l) ha hab (d1H hg1.rect hbb ha)] at hm2
    have hpl : putE (a1q l) = 0 := hg1.put
    have hpb2 : putB (a5X (mixM (a1q l) a b q.z)) [97] (a1q l) = a5X (a1q l) := by unfold putB; rw [if_pos hpl, d7Q, d4b (c1Y l)]
    rw [hpl, hpb2] at hm2
    rw [hp, hpb]
    simp only [E3, a0b, a0c, a0d, a0a, Nat.reduceLeDiff, Nat.reduceSub, Nat.reduceAdd, Nat.reduceEqDiff, reduceCtorEq, ↓reduceIte]
    refine Safe.rg rfl ?_
    simp only [a2M, E3, a0b, a0c, a0d, a0a, Nat.reduceLeDiff, Nat.reduceSub, Nat.reduceAdd, Nat.reduceEqDiff, reduceCtorEq, ↓reduceIte]
    refine Safe.cd rfl ?_
    simp only [E3, a0b, a0c, a0d, a0a, Nat.reduceLeDiff, Nat.reduceSub, Nat.reduceAdd, Nat.reduceEqDiff, reduceCtorEq, ↓reduceIte]
    refine Safe.rg rfl ?_
    simp only [a4i, hrow0, hq0, show AV.str ⟨#[97]⟩ = strU [97] from rfl, E3, a0b, a0c, a0d, a0a, Nat.reduceLeDiff, Nat.reduceSub, Nat.reduceAdd, Nat.reduceEqDiff, reduceCtorEq, ↓reduceIte]
    first | refine (hneg).acall ?_ | refine (hneg).dcall ?_ | refine (hneg).dgcall ?_
    try simp only [E3, a0b, a0c, a0d, a0a, Nat.reduceLeDiff, Nat.reduceSub, Nat.reduceAdd, Nat.reduceEqDiff, reduceCtorEq, ↓reduceIte]
    refine a0h.mono hm2 fun r' H' hr' => ?_
    obtain ⟨rfl, rfl⟩ := hr'
    simp only [E3, a0b, a0c, a0d, a0a, Nat.reduceLeDiff, Nat.reduceSub, Nat.reduceAdd, Nat.reduceEqDiff, reduceCtorEq, ↓reduceIte]
    refine Safe.rg rfl ?_
    simp only [a4h, E3, a0b, a0c, a0d, a0a, Nat.reduceLeDiff, Nat.reduceSub, Nat.reduceAdd, Nat.reduceEqDiff, reduceCtorEq, ↓reduceIte]
    refine ht1.acall ?_
    simp only [hs, E3, a0b, a0c, a0d, a0a, Nat.reduceLeDiff, Nat.reduceSub, Nat.reduceAdd, Nat.reduceEqDiff, reduceCtorEq, ↓reduceIte]
    refine Safe.rt rfl ?_
    simp only [E3, a0b, a0c, a0d, a0a, Nat.reduceLeDiff, Nat.reduceSub, Nat.reduceAdd, Nat.reduceEqDiff, reduceCtorEq, ↓reduceIte]
    exact hfin _
   ·have hpb : putB (a5X (a1q l)) [97] (mixM (a1q l) a b q.z) = a5X (a1q l) := by unfold putB; rw [if_neg hp]
    rw [hpb]
    simp only [E3, a0b, a0c, a0d, a0a, Nat.reduceLeDiff, Nat.reduceSub, Nat.reduceAdd, Nat.reduceEqDiff, reduceCtorEq, ↓reduceIte]
    exact bad _ _ hp rfl rfl
 ·have hne : (putE l = 0) = False := eq_false he
  have hb1 : putB bk0 [97] l = bk0 := by unfold putB; rw [if_neg he]
  have ht0 := d1w hin0 (d8W e2M)
  have hn0 := c1K hin0 (by simp [bk0])
  have e2 : a0W bk0 = [] := by
   have := b2I bk0.ks
   exact List.length_eq_zero_iff.1 this
  have e1 : b6w bk0 = [] := by unfold b6w; rw [e2]; rfl
  rw [hb1]
  rw [e1] at ht0
  rw [e2] at hn0
  have hs : binV .eql (strU []) (strU []) = some (.bool true) := by rw [a2h]; rfl
  simp only [E3, a0b, a0c, a0d, a0a, Nat.reduceLeDiff, Nat.reduceSub, Nat.reduceAdd, Nat.reduceEqDiff, reduceCtorEq, ↓reduceIte]
  refine Safe.rg rfl ?_
  simp only [a5Q, hne, E3, a0b, a0c, a0d, a0a, Nat.reduceLeDiff, Nat.reduceSub, Nat.reduceAdd, Nat.reduceEqDiff, reduceCtorEq, ↓reduceIte]
  refine Safe.cd rfl ?_
  simp only [E3, a0b, a0c, a0d, a0a, Nat.reduceLeDiff, Nat.reduceSub, Nat.reduceAdd, Nat.reduceEqDiff, reduceCtorEq, ↓reduceIte]
  refine Safe.rg rfl ?_
  simp only [b0n, E3, a0b, a0c, a0d, a0a, Nat.reduceLeDiff, Nat.reduceSub, Nat.reduceAdd, Nat.reduceEqDiff, reduceCtorEq, ↓reduceIte]
  refine ht0.acall ?_
  simp only [b2G, hs, E3, a0b, a0c, a0d, a0a, Nat.reduceLeDiff, Nat.reduceSub, Nat.reduceAdd, Nat.reduceEqDiff, reduceCtorEq, ↓reduceIte]
  refine hn0.acall ?_
  simp only [E3, a0b, a0c, a0d, a0a, Nat.reduceLeDiff, Nat.reduceSub, Nat.reduceAdd, Nat.reduceEqDiff, reduceCtorEq, ↓reduceIte]
  refine Safe.rt rfl ?_
  simp only [E3, a0b, a0c, a0d, a0a, Nat.reduceLeDiff, Nat.reduceSub, Nat.reduceAdd, Nat.reduceEqDiff, reduceCtorEq, ↓reduceIte]
  exact ⟨by simp, hfin _⟩
end Go.Abs
namespace Go.Abs
open Go.ChangeShapes Go.WideShapes
open Go.Proofs.YtclecbomkhgflaaGreatDoor.Rows (uptoBulk uptoBulkAll)
section
variable {K : Type} {enc : TypeId × Value → K} {P : Program} {w : World} {base : Nat} {sp : Nat → Bool} {held : Bool}
theorem e2H (d : DataW K) : 1 ≤ uptoBulk d := by
 cases d with
 | lit l => cases l <;> simp [uptoBulk]
 | nil => simp [uptoBulk]
 | ptr d => simp [uptoBulk]
 | slice elems spare => simp [uptoBulk]
 | agg a2j => simp [uptoBulk]
 | iface t d => simp [uptoBulk]
 | map entries => simp [uptoBulk]
 | held h => simp [uptoBulk]
theorem c8F {d : DataW K} : ∀ {l : List (DataW K)}, d ∈ l → uptoBulk d ≤ uptoBulkAll l
 | [], h => by cases h
 | x :: r, h => by
  simp only [uptoBulkAll]
  rcases List.mem_cons.1 h with e | e
  ·subst e; omega
  ·have := c8F e; omega
theorem d4n : ∀ (l : List (DataW K)), l.length ≤ uptoBulkAll l
 | [] => by simp [uptoBulkAll]
 | x :: r => by have := e2H x; have := d4n r; simp only [uptoBulkAll, List.length_cons]; omega
theorem b8Z (es rs : List (DataW K)) : uptoBulkAll es + 1 ≤ uptoBulk (.slice es rs) := by simp only [uptoBulk]; omega
theorem c2C {α : Type} (W : α → Nat) : ∀ (ds : List (DataW K)) (xs : List α), xs.length = ds.length → (∀ (i : Nat) a, xs[i]? = some a → W a ≤ uptoBulk (ds.getD i .nil)) → (xs.map W).sum ≤ uptoBulkAll ds
 | [], [], _, _ => by simp
 | d :: ds, x :: xs, h, hw => by
  have h1 := hw 0 x rfl
  have h2 := c2C W ds xs (by simpa using h) fun i a ha => by have := hw (i + 1) a (by simpa using ha); simpa using this
  simp only [List.map_cons, List.sum_cons, uptoBulkAll]
  simp at h1
  omega
 | [], _ :: _, h, _ => by simp at h
 | _ :: _, [], h, _ => by simp at h
theorem d1b (a : Addr) (m j : Nat) : (a.add m).add j = a.add (m + j) := by
 unfold Addr.add
 by_cases hm : m = 0 <;> by_cases hj : j = 0 <;> simp [hm, hj, Nat.add_assoc]
theorem d7X {φ : Nat → Option Nat} {b : Nat} : ¬ (Emb.mk φ [] w).Mut b := by
 rintro ⟨id, blk, h, _⟩; simp at h
theorem e5h (φ : Nat → Option Nat) (w : World) : HOk ⟨φ, [], w⟩ := ⟨fun id b _ h => by simp at h, fun id b h => by simp at h, fun id b _ h => by simp at h, fun id b h => by simp at h, fun i j b c _ h => by simp at h⟩
structure Stands (w : World) (cs : List Value) (a : AV) : Prop where
 one : ∀ c ∈ cs, c.oneCell' = true
 len : cs.length = a.cells.length
 rep : ∀ (φ : Nat → Option Nat) (k : Nat) v c, cs[k]? = some v → a.cells[k]? = some c → Rep ⟨φ, [], w⟩ v c
theorem d1L {α : Type} (f : α → AV) (good : α → DataW K → Prop) {t e : TypeId} (wd : Nat) (ht : P.underlying t = some (.slice e)) (hc : P.cellsOf e = wd) (hpos : 0 < wd) (hf : ∀ a, (f a).cells.length = wd) (hcl : ∀ a, Cl (f a))
  (hel : ∀ m cs y, DataW.trod enc P w base sp held m e cs = some y → cs.length = wd → ∃ a, good a y.1 ∧ Stands w cs (f a))
  {fuel : Nat} {cs : List Value} {x : DataW K × List MemPlace} (h : DataW.trod enc P w base sp held fuel t cs = some x) :
  ∃ xs0 : List α, Stands w cs (.sl wd (xs0.map f)) ∧ xs0.length ≤ uptoBulk x.1 ∧ (∀ a ∈ xs0, ∃ d : DataW K, good a d ∧ uptoBulk d ≤ uptoBulk x.1) ∧ ∀ W : α → Nat, (∀ a d, good a d → W a ≤ uptoBulk d) → (xs0.map W).sum + 1 ≤ uptoBulk x.1 := by
 rcases DataW.trod_slice ht h with ⟨rfl, rfl⟩ | ⟨ad, len, cap, elems, rest, n, rfl, rfl, rfl, hb, hl, hm, hlen, hget, _, _⟩
 ·refine ⟨[], ⟨by simp [Value.oneCell'], rfl, ?_⟩, Nat.zero_le _, by simp, fun W _ => by simp [uptoBulk]⟩
  intro φ k v c hv hc'
  match k with
  | 0 => cases hv; cases hc'; exact b8j wd hpos .nil
  | k + 1 => simp at hv
 ·-- each element
  have each : ∀ i, i < len → ∃ a cs', good a ((elems.map (·.1)).getD i .nil) ∧ Stands w cs' (f a) ∧ cs'.length = wd ∧ ∀ j, j < wd → w.cell? (ad.add (i * wd + j)) = cs'[j]? := by
   intro i hi
   have h1 := hget i hi
   have hy : elems[i]? = some (elems[i]'(by omega)) := List.getElem?_eq_getElem (by omega)
   rw [hy, Option.bind_eq_some_iff] at h1
   obtain ⟨cs', h2, h3⟩ := h1
   rw [hc] at h2
   obtain ⟨_, hl2, hcell⟩ := World.cells?_some h2
   obtain ⟨a, g1, g2⟩ := hel n cs' _ h3 hl2
   refine ⟨a, cs', ?_, g2, hl2, fun j hj => ?_⟩
   ·rw [List.getD_eq_getElem?_getD, List.getElem?_map, hy]; exact g1
   ·have := hcell j hj
    rw [← this]
    rw [d1b]
  -- the list
  have all : ∀ m, m ≤ len → ∃ (xs0 : List α) (vs : List Value), xs0.length = m ∧ vs.length = m * wd ∧ (∀ (i : Nat) a, xs0[i]? = some a → good a ((elems.map (·.1)).getD i .nil)) ∧
    (∀ (k : Nat) v, vs[k]? = some v → w.cell? (ad.add k) = some v ∧ v.oneCell' = true) ∧ (∀ (φ : Nat → Option Nat) (k : Nat) v c, vs[k]? = some v → ((xs0.map f).flatMap AV.cells)[k]? = some c → Rep ⟨φ, [], w⟩ v c) := by
   intro m
   induction m with
   | zero => exact fun _ => ⟨[], [], rfl, by simp, by simp, by simp, by simp⟩
   | succ m ih =>
    intro hm'
    obtain ⟨xs0, vs, q1, q2, q3, q4, q5⟩ := ih (by omega)
    obtain ⟨a, cs', r1, r2, r3, r4⟩ := each m (by omega)
    have hfl : ((xs0.map f).flatMap AV.cells).length = m * wd := by
     rw [a3E (wd := wd) (by intro y hy; obtain ⟨z, _, rfl⟩ := List.mem_map.1 hy; exact hf z), List.length_map, q1]
    refine ⟨xs0 ++ [a], vs ++ cs', by simp [q1], by simp [q2, r3, Nat.add_mul], ?_, ?_, ?_⟩
    ·intro i b hb'
     rcases Nat.lt_or_ge i m with hi | hi
     ·rw [List.getElem?_append_left (by omega)] at hb'; exact q3 i b hb'
     ·have hi' := a0i hb'
      simp at hi'
      have : i = m := by omega
      subst this
      rw [List.getElem?_append_right (by omega)] at hb'
      simp [q1] at hb'
      subst hb'; exact r1
    ·intro k v hv
     rcases Nat.lt_or_ge k (m * wd) with hk | hk
     ·rw [List.getElem?_append_left (by omega)] at hv; exact q4 k v hv
     ·rw [List.getElem?_append_right (by omega), q2] at hv
      have hk2 := a0i hv
      refine ⟨?_, r2.one v (List.mem_of_getElem? hv)⟩
      have := r4 (k - m * wd) (by omega)
      rw [hv] at this
      rw [← this]; congr 2; omega
    ·intro φ k v c hv hc'
     rw [List.map_append, List.flatMap_append] at hc'
     rcases Nat.lt_or_ge k (m * wd) with hk | hk
     ·rw [List.getElem?_append_left (by omega)] at hv
      rw [List.getElem?_append_left (by omega)] at hc'
      exact q5 φ k v c hv hc'
     ·rw [List.getElem?_append_right (by omega), q2] at hv
      rw [List.getElem?_append_right (by omega), hfl] at hc'
      simp at hc'
      exact r2.rep φ (k - m * wd) v c hv hc'
  obtain ⟨xs0, vs, q1, q2, q3, q4, q5⟩ := all len (Nat.le_refl _)
  have hw : ∀ y ∈ xs0.map f, y.cells.length = wd := by intro y hy; obtain ⟨z, _, rfl⟩ := List.mem_map.1 hy; exact hf z
  have hcl' : ∀ c ∈ (xs0.map f).flatMap AV.cells, Cl c := by
   intro c hc'
   obtain ⟨y, hy, hc'⟩ := List.mem_flatMap.1 hc'
   obtain ⟨z, _, rfl⟩ := List.mem_map.1 hy
   exact a5T (hcl z) c hc'
  refine ⟨xs0, ⟨by simp [Value.oneCell'], rfl, ?_⟩, ?_, ?_, ?_⟩
  ·intro φ k v c hv hc'
   match k with
   | 0 =>
    cases hv; cases hc'
    have hlen' : len = (xs0.map f).length := by rw [List.length_map, q1]
    rw [hlen']
    rcases Nat.eq_zero_or_pos len with h0 | h0
    ·have : xs0 = [] := List.length_eq_zero_iff.1 (by omega)
     subst this
     exact .sl _ cap wd [] [] 0 0 (Nat.zero_le _) hpos (by simp) (by simp) (.inl rfl) rfl (by simp) (by simp)
    ·have hv0 : vs[0]? = some (vs[0]'(by rw [q2]; exact Nat.mul_pos h0 hpos)) := List.getElem?_eq_getElem _
     have hspot : ad.spot = none := by
      have h00 := (q4 0 _ hv0).1
      rw [show ad.add 0 = ad by simp [Addr.add]] at h00
      exact World.cell?_spot h00
     obtain ⟨b, o, s⟩ := ad
     simp only at hspot
     subst hspot
     exact .sl (some ⟨b, o, none⟩) cap wd (xs0.map f) vs b o (by rw [List.length_map, q1]; exact hl) hpos hw hcl' (.inr ⟨rfl, d7X⟩) (by rw [a3E hw, List.length_map, q1, q2])
      (fun k v hk => by have := q4 k v hk; rw [Go.WideShapes.add_plain] at this; exact this) (fun k v c hk hc2 => q5 φ k v c hk hc2)
   | k + 1 => simp at hv
  ·have h1 := d4n (elems.map (·.1))
   have h2 := b8Z (elems.map (·.1)) (rest.map (·.1))
   rw [List.length_map] at h1
   show xs0.length ≤ uptoBulk (.slice (elems.map (·.1)) (rest.map (·.1)))
   omega
  ·intro a ha
   obtain ⟨i, hi, rfl⟩ := List.getElem_of_mem ha
   refine ⟨_, q3 i _ (List.getElem?_eq_getElem hi), ?_⟩
   have hm' : (elems.map (·.1)).getD i .nil ∈ elems.map (·.1) := by
    have : i < (elems.map (·.1)).length := by rw [List.length_map]; omega
    rw [List.getD_eq_getElem?_getD, List.getElem?_eq_getElem this]; exact List.getElem_mem this
   have h1 := c8F hm'
   have h2 := b8Z (elems.map (·.1)) (rest.map (·.1))
   show uptoBulk _ ≤ uptoBulk (.slice (elems.map (·.1)) (rest.map (·.1)))
   omega
  ·intro W hW
   have h1 : (xs0.map W).sum ≤ uptoBulkAll (elems.map (·.1)) := c2C W (elems.map (·.1)) xs0 (by rw [List.length_map]; omega) fun i a ha => hW a _ (q3 i a ha)
   have h2 := b8Z (elems.map (·.1)) (rest.map (·.1))
   show (xs0.map W).sum + 1 ≤ uptoBulk (.slice (elems.map (·.1)) (rest.map (·.1)))
   omega
theorem e1v {t e : TypeId} (ht : P.underlying t = some (.slice e)) (he : P.underlying e = some (.int .u32)) (hc : P.cellsOf e = 1) {fuel : Nat} {cs : List Value} {x : DataW K × List MemPlace} (h : DataW.trod enc P w base sp held fuel t cs = some x) :
  ∃ l : List Nat, Stands w cs (natV l) ∧ Lim l ∧ l.length ≤ uptoBulk x.1 := by
 obtain ⟨xs0, q1, q2, q3, _⟩ := d1L (enc := enc) (P := P) (w := w) (base := base) (sp := sp) (held := held) (fun n : Nat => .int .u32 (n : Int)) (fun n (_ : DataW K) => n < LB) 1 ht hc (by decide) (fun _ => rfl) (fun _ => .int _ _) (by
  intro m cs y hy hl
  obtain ⟨n, rfl, hx, hwf⟩ := DataW.trod_int he hy
  have hb := bounds_u32 hwf
  refine ⟨n.toNat, by show n.toNat < 4294967296; omega, by simp [Value.oneCell'], rfl, ?_⟩
  intro φ k v c hv hc'
  match k with
  | 0 =>
   cases hv; cases hc'
   have : (n.toNat : Int) = n := by omega
   rw [this]; exact .int _ _
  | k + 1 => simp at hv) h
 exact ⟨xs0, q1, fun d hd => (q3 d hd).choose_spec.1, q2⟩
theorem open_z {t tb tm e : TypeId} {fs : Array Field} {f0 f1 : Field} (ht : P.underlying t = some (.struct fs)) (hfs : fs.toList = [f0, f1]) (h0 : f0.type = tb ∧ f0.offset = 0) (h1 : f1.type = tm ∧ f1.offset = 1) (hb : P.underlying tb = some .bool) (hbc : P.cellsOf tb = 1) (hmc : P.cellsOf tm = 1)
  (hm : P.underlying tm = some (.slice e)) (he : P.underlying e = some (.int .u32)) (hc : P.cellsOf e = 1) {fuel : Nat} {cs : List Value} {x : DataW K × List MemPlace} (h : DataW.trod enc P w base sp held fuel t cs = some x) (hl2 : cs.length = 2) :
  ∃ z : ZI, Stands w cs z.av ∧ Zok (uptoBulk x.1) z := by
 obtain ⟨xs, n, rfl, rfl, hl, hxs, hget⟩ := DataW.trod_struct ht h
 have hf0 : fs[0]? = some f0 := by rw [← Array.getElem?_toList, hfs]; rfl
 have hf1 : fs[1]? = some f1 := by rw [← Array.getElem?_toList, hfs]; rfl
 have hsz : fs.size = 2 := by rw [← Array.length_toList, hfs]; rfl
 have g0 := hget 0 f0 hf0
 have g1 := hget 1 f1 hf1
 rw [h0.1, h0.2, hbc] at g0
 rw [h1.1, h1.2, hmc] at g1
 obtain ⟨c0, c1, rfl⟩ : ∃ c0 c1, cs = [c0, c1] := by
  match cs, hl2 with
  | [a, b], _ => exact ⟨a, b, rfl⟩
 have e0 : xs[0]? = some (xs[0]'(by omega)) := List.getElem?_eq_getElem (by omega)
 have e1 : xs[1]? = some (xs[1]'(by omega)) := List.getElem?_eq_getElem (by omega)
 rw [e0] at g0
 rw [e1] at g1
 simp only [List.drop_zero, List.take_succ_cons, List.take_zero, List.drop_succ_cons] at g0 g1
 obtain ⟨b, hb1, _⟩ := DataW.trod_bool hb g0
 obtain ⟨l, q1, q2, q3⟩ := e1v hm he hc g1
 simp only [List.cons.injEq, and_true] at hb1
 subst hb1
 refine ⟨⟨b, l⟩, ⟨?_, rfl, ?_⟩, q2, ?_⟩
 ·intro c hc'
  simp only [List.mem_cons, List.not_mem_nil, or_false] at hc'
  rcases hc' with rfl | rfl
  ·rfl
  ·exact q1.one _ (by simp)
 ·intro φ k v c hv hc'
  match k with
  | 0 => cases hv; cases hc'; exact .bool b
  | 1 => cases hv; cases hc'; exact q1.rep φ 0 _ _ rfl rfl
  | k + 2 => simp at hv
 ·have hm1 : (xs[1]'(by omega)).1 ∈ xs.map (·.1) := List.mem_map.2 ⟨_, List.getElem_mem _, rfl⟩
  have := c8F hm1
  show l.length ≤ uptoBulk (.agg (xs.map (·.1)))
  simp only [uptoBulk]
  omega
structure Types (P : Program) (tm tv tz tb tn te : TypeId) : Prop where
 mat : P.underlying tm = some (.slice tv)
 vec : P.underlying tv = some (.slice tz)
 num : ∃ fs f0 f1, P.underlying tz = some (.struct fs) ∧ fs.toList = [f0, f1] ∧ (f0.type = tb ∧ f0.offset = 0) ∧ (f1.type = tn ∧ f1.offset = 1)
 bool : P.underlying tb = some .bool
 nat : P.underlying tn = some (.slice te)
 u32 : P.underlying te = some (.int .u32)
 cv : P.cellsOf tv = 1
 cz : P.cellsOf tz = 2
 cb : P.cellsOf tb = 1
 cn : P.cellsOf tn = 1
 ce : P.cellsOf te = 1
variable {tm tv tz tb tn te : TypeId}
theorem Types.open_z (T : Types P tm tv tz tb tn te) {fuel : Nat} {cs : List Value} {x : DataW K × List MemPlace} (h : DataW.trod enc P w base sp held fuel tz cs = some x) (hl2 : cs.length = 2) : ∃ z : ZI, Stands w cs z.av ∧ Zok (uptoBulk x.1) z := by
 obtain ⟨fs, f0, f1, h1, h2, h3, h4⟩ := T.num
 exact Abs.open_z h1 h2 h3 h4 T.bool T.cb T.cn T.nat T.u32 T.ce h hl2
theorem Types.open_vec (T : Types P tm tv tz tb tn te) {fuel : Nat} {cs : List Value} {x : DataW K × List MemPlace} (h : DataW.trod enc P w base sp held fuel tv cs = some x) : ∃ v : List ZI, Stands w cs (vecV v) ∧ v.length ≤ uptoBulk x.1 ∧ (∀ z ∈ v, Zok (uptoBulk x.1) z) ∧ (v.map fun z => z.mag.length).sum ≤ uptoBulk x.1 := by
 obtain ⟨xs0, q1, q2, q3, q4⟩ := d1L (enc := enc) (P := P) (w := w) (base := base) (sp := sp) (held := held) ZI.av (fun z (d : DataW K) => Zok (uptoBulk d) z) 2 T.vec T.cz (by decide) (fun _ => rfl) ZI.cl (by
  intro m cs y hy hl
  obtain ⟨z, r1, r2⟩ := T.open_z hy hl
  exact ⟨z, r2, r1⟩) h
 exact ⟨xs0, q1, q2, fun z hz => (by obtain ⟨d, h1, h2⟩ := q3 z hz; exact h1.mono h2), by have := q4 (fun z => z.mag.length) (fun z d h => h.len); omega⟩
theorem Types.open_mat (T : Types P tm tv tz tb tn te) {fuel : Nat} {cs : List Value} {x : DataW K × List MemPlace} (h : DataW.trod enc P w base sp held fuel tm cs = some x) : ∃ b : List (List ZI), Stands w cs (matV b) ∧ b.length ≤ uptoBulk x.1 ∧ (∀ v ∈ b, v.length ≤ uptoBulk x.1 ∧ ∀ z ∈ v, Zok (uptoBulk x.1) z) ∧ (b.map fun v => v.length).sum ≤ uptoBulk x.1 ∧ (b.map fun v => (v.map fun z => z.mag.length).sum).sum ≤ uptoBulk x.1 := by
 obtain ⟨xs0, q1, q2, q3, q4⟩ := d1L (enc := enc) (P := P) (w := w) (base := base) (sp := sp) (held := held) vecV (fun v (d : DataW K) => v.length ≤ uptoBulk d ∧ (∀ z ∈ v, Zok (uptoBulk d) z) ∧ (v.map fun z => z.mag.length).sum ≤ uptoBulk d) 1 T.mat T.cv (by decide) (fun _ => rfl) a0x (by
  intro m cs y hy hl
  obtain ⟨v, r1, r2, r3, r4⟩ := T.open_vec hy
  exact ⟨v, ⟨r2, r3, r4⟩, r1⟩) h
 refine ⟨xs0, q1, q2, fun v hv => ?_, by have := q4 (fun v => v.length) (fun v d h => h.1); omega, by have := q4 (fun v => (v.map fun z => z.mag.length).sum) (fun v d h => h.2.2); omega⟩
 obtain ⟨d, h1, h2⟩ := q3 v hv
 exact ⟨Nat.le_trans h1.1 h2, fun z hz => (h1.2.1 z hz).mono h2⟩
theorem Stands.rep1 {v : Value} {a : AV} (h : Stands w [v] a) (ha : a.cells = [a]) (φ : Nat → Option Nat) : Rep ⟨φ, [], w⟩ v a := h.rep φ 0 v a rfl (by rw [ha]; rfl)
end
end Go.Abs
namespace Go.Abs
open Go.ChangeShapes Go.WideShapes Go.RowKit
theorem d8z {P : Program} {f : FuncId} {ss : List AV} {r : Bool} (hp : a0f P f ss (.bool r)) {args : Array Value} {W : World} (hl : args.size = ss.length) (hr : ∀ (k : Nat) v a, args.toList[k]? = some v → ss[k]? = some a → Rep ⟨fun _ => none, [], W⟩ v a) :
  Calls P f args W fun e W' => e = .returned (.bool r) ∧ Below W.heap.size W W' := by
 have h := (hp []).2 (fun _ => none) W args.toList (e5h _ _) (by simpa using hl) hr
 rw [Array.toArray_toList] at h
 refine h.mono ?_
 rintro e w' ⟨v, r', φ', H', rfl, ⟨rfl, rfl⟩, q1, q2, q3, q4⟩
 refine ⟨by rw [a1Q q2], q4.os, q4.tape, q4.output, q4.size, fun k hk => q4.keep k hk d7X⟩
theorem Below.trodAll {K : Type} {enc : TypeId × Value → K} {P : Program} (hl : laidOutB P = true) {W W' : World} (hb : Below W.heap.size W W') : ∀ {ts : List TypeId} {vs : List Value} {ds : List (DataW K)} {ps : List MemPlace}, (ts.all fun t => P.readableRec t && decide (t < P.types.size)) = true →
  DataW.TrodAll enc P W 0 (fun _ => true) true ts vs ds ps → (∀ x ∈ ps, x.block < W.heap.size) → DataW.TrodAll enc P W' 0 (fun b => decide (b < W.heap.size)) true ts vs ds ps
 | [], [], [], _, _, h, _ => h
 | t :: ts, v :: vs, d :: ds, _, hts, ⟨p, q, h1, h2, e⟩, hlt => by
  simp only [List.all_cons, Bool.and_eq_true, decide_eq_true_eq] at hts
  exact ⟨p, q, Go.RowKit.Below.trod hl hts.1.1 hts.1.2 h1 hb (fun x hx => hlt x (by rw [e]; exact List.mem_append_left _ hx)), Below.trodAll hl hb (by simpa using hts.2) h2 (fun x hx => hlt x (by rw [e]; exact List.mem_append_right _ hx)), e⟩
 | [], _ :: _, _, _, _, h, _ => by simp [DataW.TrodAll] at h
 | [], [], _ :: _, _, _, h, _ => by simp [DataW.TrodAll] at h
 | _ :: _, [], _, _, _, h, _ => by simp [DataW.TrodAll] at h
 | _ :: _, _ :: _, [], _, _, h, _ => by simp [DataW.TrodAll] at h
theorem d2W {P : Program} {W : World} {base : Nat} {t e : TypeId} {v : Value} (ht : P.underlying t = some (.slice e)) (h : Value.okWide P W .any base t v) : v.cells.toList = [v] := by
 cases v <;> first | rfl | (exfalso; simp [Value.okWide, Cell.okWide, Cell.ok, ht] at h)
theorem e6H {v : List ZI} {n : Nat} (hl : v.length ≤ n) (he : ∀ z ∈ v, Zok n z) (hn : n ≤ 1048576) : Vok 1048576 v := ⟨by omega, fun z hz => (he z hz).mono hn⟩
theorem e7r {b : List (List ZI)} {n : Nat} (hl : b.length ≤ n) (he : ∀ v ∈ b, v.length ≤ n ∧ ∀ z ∈ v, Zok n z) (hn : n ≤ 1048576) : Mok 1048576 b := ⟨by omega, fun v hv => e6H (he v hv).1 (he v hv).2 hn⟩
theorem e1e {K : Type} {enc : TypeId × Value → K} {P : Program} {f : Func} {s : ChangeSpec} {fresh handsOn : Bool} {W W' : World} {args : Array Value} {ds gs : List (DataW K)} {before : List MemPlace} {tb : TypeId}
  (hW : DataW.Whole enc P f.params.toList s.vars false W args.toList ds gs before) (hv : s.vars = []) (hfn : s.fn K ds = { results := [.lit (.bool true)], args := ds }) (ht : f.resultTypes = #[tb]) (htb : P.underlying tb = some .bool)
  (hl : laidOutB P = true) (hts : (f.params.toList.all fun t => P.readableRec t && decide (t < P.types.size)) = true) (hb : Below W.heap.size W W') :
  s.post enc P f false fresh handsOn false W args (.bool true) W' := by
 have hW0 := hW
 obtain ⟨p, q, hA, hV, rfl, hz, hn⟩ := hW
 rw [hv] at hV
 obtain ⟨rfl, rfl⟩ := trodVars_none hV
 have hlt : ∀ x ∈ p, x.block < W.heap.size := fun x hx => by simpa using hW0.lt x (by simpa using hx)
 have hA' := Below.trodAll (enc := enc) hl hb hts hA hlt
 refine ⟨ds, [], p ++ [], [], p, [], hW0, ?_, ?_, ?_, ?_, by simp⟩
 ·rw [List.append_nil, hfn, ht]
  exact trodAll_cons_mk (shut_bool htb true) trodAll_mk0
 ·rw [List.append_nil, hfn]; exact hA'
 ·rw [List.append_nil, hfn, hv]; rfl
 ·refine ⟨hb.os, hb.output, fun i hi => ?_⟩
  have := (World.keptBut_refl W (fun x => x ∈ p ++ [] ∧ (x ∈ [] ∨ x ∈ p ∨ x ∈ []))).2.2 i hi
  rw [hb.block i hi]
  exact this
end Go.Abs
namespace Go.Abs
open Go.ChangeShapes Go.WideShapes Go.RowKit
open Go.Proofs.YtclecbomkhgflaaGreatDoor.Rows (uptoBulk uptoBulkAll)
section
variable {K : Type} {enc : TypeId × Value → K} {P : Program} {w : World} {base : Nat} {sp : Nat → Bool} {held : Bool} {tm tv tz tb tn te : TypeId} {v : Value} {fuel : Nat} {x : DataW K × List MemPlace} {b1 : Nat}
theorem Types.arg_mat (T : Types P tm tv tz tb tn te) (hok : Value.okWide P w .any b1 tm v) (h : DataW.trod enc P w base sp held fuel tm v.cells.toList = some x) (hb : uptoBulk x.1 ≤ 1048576) : ∃ b, Mok 1048576 b ∧ ∀ φ, Rep ⟨φ, [], w⟩ v (matV b) := by
 obtain ⟨b, s, l, e, _⟩ := T.open_mat h
 rw [d2W T.mat hok] at s
 exact ⟨b, e7r l e hb, fun φ => s.rep1 rfl φ⟩
theorem Types.arg_z (T : Types P tm tv tz tb tn te) (hok : Value.okWide P w .any b1 tz v) (h : DataW.trod enc P w base sp held fuel tz v.cells.toList = some x) (hb : uptoBulk x.1 ≤ 1048576) : ∃ b : ZI, Zok 1048576 b ∧ ∀ φ, Rep ⟨φ, [], w⟩ v b.av := by
 obtain ⟨fs, f0, f1, h1, h2, h3, h4⟩ := T.num
 unfold Value.okWide at hok
 rw [h1] at hok
 obtain ⟨cs, rfl, hsz, _⟩ := hok
 rw [T.cz] at hsz
 obtain ⟨z, s, e⟩ := T.open_z h (by simpa [Value.cells] using hsz)
 refine ⟨z, e.mono hb, fun φ => ?_⟩
 have := Rep.agg (E := ⟨φ, [], w⟩) cs.toList z.av.cells s.len s.one (s.rep φ)
 rw [Array.toArray_toList] at this
 exact this
theorem d9P {c : Value} (h : v.cells.toList = [c]) (hn : ∀ cs, v ≠ .agg cs) : v = c := by
 cases v with
 | agg cs => exact absurd rfl (hn cs)
 | _ => exact (List.cons.inj h).1
theorem e0g {t : TypeId} (ht : P.underlying t = some (.int .i64)) (hok : Value.okWide P w .any b1 t v) (h : DataW.trod enc P w base sp held fuel t v.cells.toList = some x) : ∃ n : Int, (-9223372036854775808 ≤ n ∧ n < 9223372036854775808) ∧ ∀ φ, Rep ⟨φ, [], w⟩ v (.int .i64 n) := by
 obtain ⟨n, hc, hx, hwf⟩ := DataW.trod_int ht h
 have hb := bounds_i64 hwf
 refine ⟨n, ⟨hb.1, by omega⟩, fun φ => ?_⟩
 have : v = .int .i64 n := d9P hc (by
  rintro cs rfl
  unfold Value.okWide at hok
  rw [ht] at hok
  simp [Cell.okWide, Cell.ok, ht] at hok)
 subst this
 exact .int _ _
end
end Go.Abs

/- Part 6 of the proof of MatReads: V7, E7, E8, E9, E10, E11, E12, E13, E14, E15, E16, E17, E18. -/
import Derived.Test.YtkehcnbnmjmpbaaDoorMatReadsK5
set_option linter.unusedVariables false
set_option linter.unusedSimpArgs false
namespace Go.Abs
section
variable {A L : Heap} {id : Nat} {x : Option Blk}
theorem c7h (i : Nat) : lid (A.set id x) i = lid A i := by simp [lid]
theorem c2a (i : Nat) : hrow (hap (A.set id x) L) (lid A i) = (L[i]?).join := by rw [← c7h (id := id) (x := x), a1U]
end
theorem c6K {A L : Heap} {id i : Nat} {xs : List AV} {q : Int} {env : Env} (hid : id < A.length) (hi : i < xs.length) :
    a4Z 1 (.loc id i 0) (.int .u32 q) env (hap (A.set id (some ⟨1, xs⟩)) L) = some (.top, env, hap (A.set id (some ⟨1, xs.set i (.int .u32 q)⟩)) L) := by
  rw [c7a hid env ⟨1, xs⟩ 1 i (.int .u32 q) hi rfl rfl (Nat.le_refl _), a7u]
noncomputable def spCx (A : Heap) : Cx := ⟨Pr, fun _ _ => false, a4j, 33, [], A.length⟩
def a8H (ys : List AV) : Prop := ∀ y ∈ ys, ∃ z : Int, y = .int .u32 z
theorem a8H.app {ys : List AV} (h : a8H ys) (z : Int) : a8H (ys ++ [.int .u32 z]) := fun y hy => by
  rcases List.mem_append.1 hy with hy | hy
  · exact h y hy
  · exact ⟨z, by simpa using hy⟩
theorem a8H.cl {ys : List AV} (h : a8H ys) {wd : Nat} : ∀ a ∈ (Blk.mk wd ys).flat, Cl a := fun a ha => by
  obtain ⟨y, hy, ha⟩ := List.mem_flatMap.1 ha
  obtain ⟨z, rfl⟩ := h y hy
  simp only [AV.cells, List.mem_cons, List.not_mem_nil, or_false] at ha
  subst ha
  exact .int _ _
theorem c7x {b : Bool} {m : AV} : ∀ (k : Nat) a c, (Blk.mk 2 [AV.agg [.bool b, m]]).flat[k]? = some a → (Blk.mk 2 [AV.agg [.bool b, .top]]).flat[k]? = some c → Le a c := fun k a c h1 h2 => by
  match k with
  | 0 => simp [Blk.flat, AV.cells] at h1 h2; subst h1; subst h2; exact Le.refl _
  | 1 => simp [Blk.flat, AV.cells] at h1 h2; subst h2; exact Le.top _
  | k + 2 => simp [Blk.flat, AV.cells] at h2
theorem b8h (a b : AV) (id off len : Nat) (oc : Option Nat) : upd (.agg [a, b]) 2 1 1 (.mu id off len oc) = .agg [a, .mu id off len oc] := by simp [upd, a1p, AV.cells]
/-- Limbs put behind those that are there. -/
theorem b5c {A B : Heap} (hB : a0r B) (hl : B.length = A.length) {b : Bool} (ys0 : List AV) (h0 : ys0.length ≤ 17592186044418) (hy0 : a8H ys0) : Safe (spCx A) [.inLoop a2L, .inBlock 2]
    [(1, .loc (lid B 0) 0 0), (3, .int .i64 (1 : Nat))] (hap B [some ⟨2, [.agg [.bool b, .mu (lid B 1) 0 ys0.length none]]⟩, some ⟨1, ys0⟩]) fun r' H' => r' = .tup [] ∧ ∃ L, H' = hap B L := by
  unfold spCx
  refine Safe.loopW (fun a : Nat × List AV => 9 - a.1) (fun a => [(1, .loc (lid B 0) 0 0), (3, .int .i64 a.1)]) (fun a => hap B [some ⟨2, [.agg [.bool b, .mu (lid B 1) 0 a.2.length none]]⟩, some ⟨1, a.2⟩])
    (fun a => a.1 ≤ 9 ∧ a.2.length + 9 ≤ ys0.length + 9 + a.1 ∧ a8H a.2) (1, ys0) rfl rfl ⟨by simp, by simp only; omega, hy0⟩ ?_
  rintro ⟨j, ys⟩ ⟨hj, hyl, hyc⟩ ih
  simp only at hj hyl hyc
  refine Safe.inLoop ?_
  by_cases hlt' : j < 9
  · have hlt : ((j : Int) < 9) = True := eq_true (by omega)
    have hiw : IntKind.wrap .i64 ((j : Int) + 1) = ((j + 1 : Nat) : Int) := by rw [a0g] <;> omega
    refine Safe.rg rfl ?_
    simp only [a1O, hlt, E3, a0c, a0b, a0a, a0d, seval]
    refine Safe.cd rfl ?_
    simp only [E3, a0c, a0b, a0a, a0d, seval]
    refine Safe.rg2 [⟨some 25, none, .p (.fldp (.t 1) 1)⟩, ⟨some 26, none, .p (.load none (.t 25))⟩] (a1N.drop 2) rfl rfl ?_
    simp only [E3, a0c, a0b, a0a, a0d, seval]
    refine ⟨_, _, c2S 0 (b' := ⟨2, [.agg [.bool b, .top]]⟩) rfl rfl (fun y hy => by simp at hy; subst hy; rfl) rfl (fun h => by simp at h) c7x (Nat.zero_lt_succ 1), ?_⟩
    have happ := fun env z => b6G A.length env B [some ⟨2, [.agg [.bool b, .top]]⟩, some ⟨1, ys⟩] 1 4 false 1 ys.length none (.sl 1 [.int .u32 z]) ys [.int .u32 z] hB rfl rfl (by simp [lid]; omega) (a2Q _ 1 _)
      (b6D (RC.one (.agg _ fun c hc => by simp at hc; rcases hc with rfl | rfl; exact .bool b; exact .top) (RC.cons hyc.cl RC.nil))) (fun a ha => by simp [AV.cells] at ha; subst ha; exact .int _ _) (by simp; omega) (by simp; omega) rfl
    simp only [a0H, Option.bind_none, List.length_cons, List.length_nil, Nat.zero_add, List.set_cons_succ, List.set_cons_zero] at happ
    simp only [a1N, List.drop_succ_cons, List.drop_zero, happ, E3, a0c, a0b, a0a, a0d, seval]
    refine Safe.rg rfl ?_
    simp only [a2J, hiw, E3, a0c, a0b, a0a, a0d, seval]
    refine Safe.keep [1, 3] ?_
    simp only [b8h, E3, a0c, a0b, a0a, a0d, seval]
    have hn := ih (j + 1, ys ++ [.int .u32 (IntKind.wrap .u32 (IntKind.wrap .i64 (900 + (j : Int))))]) ⟨by simp only; omega, by simp; omega, hyc.app _⟩ (by simp only; omega)
    simp only [List.length_append, List.length_cons, List.length_nil, Nat.zero_add] at hn
    exact hn
  · have h9 : j = 9 := by omega
    subst h9
    refine Safe.rg rfl ?_
    simp only [a1O, E3, a0c, a0b, a0a, a0d, seval]
    refine Safe.cd rfl ?_
    simp only [E3, a0c, a0b, a0a, a0d, seval]
    refine Safe.stl 5 _ (Safe.donen ?_)
    simp only [E3, a0c, a0b, a0a, a0d, seval]
    exact ⟨_, rfl⟩
theorem c1i {A B : Heap} (hB : a0r B) (hl : B.length = A.length) {b : Bool} : Safe (spCx A) [.inLoop a2L, .inBlock 2]
    [(1, .loc (lid B 0) 0 0), (3, .int .i64 0)] (hap B [some ⟨2, [.agg [.bool b, .nil]]⟩]) fun r' H' => r' = .tup [] ∧ ∃ L, H' = hap B L := by
  have ht := fun z => b5c (A := A) hB hl (b := b) [.int .u32 z] (by simp) (fun y hy => ⟨z, by simpa using hy⟩)
  unfold spCx at ht ⊢
  refine Safe.inLoop ?_
  refine Safe.rg rfl ?_
  simp only [a1O, E3, a0c, a0b, a0a, a0d, seval]
  refine Safe.cd rfl ?_
  simp only [E3, a0c, a0b, a0a, a0d, seval]
  have happ := fun env z => b9L A.length env B [some ⟨2, [.agg [.bool b, .nil]]⟩] 1 4 false (.sl 1 [.int .u32 z]) [.int .u32 z] (a2Q _ 1 _) (by decide) (by simp) (by simp)
  refine Safe.rg rfl ?_
  simp only [a1N, happ, E3, a0c, a0b, a0a, a0d, seval]
  refine Safe.rg rfl ?_
  simp only [a2J, E3, a0c, a0b, a0a, a0d, seval]
  refine Safe.keep [1, 3] ?_
  simp only [b8h, E3, a0c, a0b, a0a, a0d, seval]
  exact ht _
theorem b9Y {A B : Heap} (hB : a0r B) (hl : B.length = A.length) {b : Bool} {id : Nat} {xs : List AV} (h : B[id]? = some (some ⟨1, xs⟩)) (hx : a8H xs) (h0 : xs.length ≤ 17592186044416) : Safe (spCx A) [.inLoop a2L, .inBlock 2]
    [(1, .loc (lid B 0) 0 0), (3, .int .i64 0)] (hap B [some ⟨2, [.agg [.bool b, .mu id 0 xs.length (some xs.length)]]⟩]) fun r' H' => r' = .tup [] ∧ ∃ L, H' = hap B L := by
  have ht := fun z => b5c (A := A) hB hl (b := b) (xs ++ [.int .u32 z]) (by simp; omega) (hx.app z)
  have hid := a0f h
  unfold spCx at ht ⊢
  refine Safe.inLoop ?_
  refine Safe.rg rfl ?_
  simp only [a1O, E3, a0c, a0b, a0a, a0d, seval]
  refine Safe.cd rfl ?_
  simp only [E3, a0c, a0b, a0a, a0d, seval]
  have happ := fun env z => c6z (n0 := A.length) (bytes := 4) (env := env) (G := hap B [some ⟨2, [.agg [.bool b, .mu id 0 xs.length (some xs.length)]]⟩]) (y := .sl 1 [.int .u32 z]) (ys := [.int .u32 z]) (a3C h) rfl (by omega) (a2Q _ 1 _) (by simp) (by simp; omega) (by simp; omega)
  refine Safe.rg rfl ?_
  simp only [a1N, happ, E3, a0c, a0b, a0a, a0d, seval]
  refine Safe.rg rfl ?_
  simp only [a2J, E3, a0c, a0b, a0a, a0d, seval]
  refine Safe.keep [1, 3] ?_
  simp only [b8h, E3, a0c, a0b, a0a, a0d, seval]
  have hn := ht (IntKind.wrap .u32 900)
  simp only [List.length_append, List.length_cons, List.length_nil, Nat.zero_add] at hn
  exact hn
theorem a0r.limbs {A : Heap} (hA : a0r A) (id : Nat) {xs : List AV} (hx : a8H xs) : a0r (A.set id (some ⟨1, xs⟩)) := hA.set id fun a ha => (hx.cl a ha).ref
theorem c1j (n0 : Nat) (A : Heap) {a : AV} (ha : IntT n0 A a) : ACalls Pr a4j [a] A fun r' A' => r' = .tup [] ∧ Sp n0 A A' := by
  obtain ⟨b, m, rfl, hm⟩ := ha
  rcases hm with rfl | ⟨id, r, rfl, h0, h1, h2⟩
  · refine ACalls.eff a8X a8W (Nat.le_of_ble_eq_true rfl) fun hA => ?_
    have ht := c1i (A := A) hA rfl (b := b)
    unfold spCx at ht
    refine Safe.rg rfl ?_
    simp only [a5C, E3, a0c, a0b, a0a, a0d, seval]
    refine Safe.rg rfl ?_
    simp only [a5B, E3, a0c, a0b, a0a, a0d, seval]
    refine Safe.lp rfl (Safe.inLoop ?_)
    refine Safe.rg rfl ?_
    simp only [a2K, E3, a0c, a0b, a0a, a0d, seval]
    refine Safe.cd rfl ?_
    simp only [E3, a0c, a0b, a0a, a0d, seval]
    refine Safe.rg rfl ?_
    simp only [a5A, E3, a0c, a0b, a0a, a0d, seval]
    refine Safe.lp rfl ?_
    refine Safe.keep [1, 3] ?_
    simp only [E3, a0c, a0b, a0a, a0d, seval]
    refine ht.mono ?_
    rintro r' H' ⟨rfl, L, rfl⟩
    exact ⟨A, L, rfl, rfl, hA, .tup _ (by simp), rfl, Sp.refl hA⟩
  · have hid := a0f h1
    refine ACalls.eff a8X a8W (Nat.le_of_ble_eq_true rfl) fun hA => ?_
    refine Safe.rg rfl ?_
    simp only [a5C, E3, a0c, a0b, a0a, a0d, seval]
    refine Safe.rg rfl ?_
    simp only [a5B, E3, a0c, a0b, a0a, a0d, seval]
    refine Safe.lp rfl ?_
    refine Safe.keep [1, 2] ?_
    simp only [E3, a0c, a0b, a0a, a0d, seval]
    have hset := c2Z h1
    refine Safe.loopW (fun a : Nat × List AV => r.xs.length - a.1) (fun a => [(1, .loc (lid A 0) 0 0), (2, .int .i64 a.1)]) (fun a => hap (A.set id (some ⟨1, a.2⟩)) [some ⟨2, [.agg [.bool b, .mu id 0 r.xs.length (some r.xs.length)]]⟩])
      (fun a => a.1 ≤ r.xs.length ∧ a.2.length = r.xs.length ∧ a8H a.2) (0, r.xs) rfl (by rw [show (⟨1, r.xs⟩ : Blk) = r by have := h2.wd; cases r; simp at this; subst this; rfl, hset]) ⟨Nat.zero_le _, rfl, h2.el⟩ ?_
    rintro ⟨i, xs⟩ ⟨hi, hxl, hx⟩ ih
    simp only at hi hxl hx
    refine Safe.inLoop ?_
    have hrl := h2.len
    by_cases hlt' : i < r.xs.length
    · have hlt : ((i : Int) < (r.xs.length : Int)) = True := eq_true (by omega)
      have hiw : IntKind.wrap .i64 ((i : Int) + 1) = ((i + 1 : Nat) : Int) := by rw [a0g] <;> omega
      have hxi : ∃ z : Int, xs.getD i .top = .int .u32 z := by
        rw [List.getD_eq_getElem?_getD, List.getElem?_eq_getElem (by omega)]
        exact hx _ (List.getElem_mem _)
      obtain ⟨z, hz⟩ := hxi
      refine Safe.rg rfl ?_
      simp only [a2K, c2a, c1B hid, hlt, E3, a0c, a0b, a0a, a0d, seval]
      refine Safe.cd rfl ?_
      simp only [E3, a0c, a0b, a0a, a0d, seval]
      refine Safe.rg rfl ?_
      simp only [a8V, c2a, c5z hid 1 xs 0 r.xs.length i _ _ hlt', c7b hid ⟨1, xs⟩ i (by simp only; omega), hz, fun q env => c6K (L := [some ⟨2, [.agg [.bool b, .mu id 0 r.xs.length (some r.xs.length)]]⟩]) (q := q) (env := env) hid (show i < xs.length by omega), E3, a0c, a0b, a0a, a0d, seval]
      refine Safe.rg rfl ?_
      simp only [a8U, hiw, E3, a0c, a0b, a0a, a0d, seval]
      refine Safe.keep [1, 2] ?_
      simp only [E3, a0c, a0b, a0a, a0d, seval]
      refine ih (i + 1, xs.set i (.int .u32 _)) ⟨by simp only; omega, by simp [hxl], fun y hy => ?_⟩ (by simp only; omega)
      rcases List.mem_or_eq_of_mem_set hy with hy | rfl
      · exact hx y hy
      · exact ⟨_, rfl⟩
    · have hlt : ((i : Int) < (r.xs.length : Int)) = False := eq_false (by omega)
      refine Safe.rg rfl ?_
      simp only [a2K, c2a, c1B hid, hlt, E3, a0c, a0b, a0a, a0d, seval]
      refine Safe.cd rfl ?_
      simp only [E3, a0c, a0b, a0a, a0d, seval]
      refine Safe.rg rfl ?_
      simp only [a5A, E3, a0c, a0b, a0a, a0d, seval]
      refine Safe.lp rfl ?_
      refine Safe.keep [1, 3] ?_
      simp only [E3, a0c, a0b, a0a, a0d, seval]
      have hB := hA.limbs id hx
      have hBl : (A.set id (some ⟨1, xs⟩)).length = A.length := List.length_set
      have hrow : (A.set id (some ⟨1, xs⟩))[id]? = some (some ⟨1, xs⟩) := by rw [a4M hid, if_pos rfl]
      have ht := b9Y (A := A) hB hBl (b := b) hrow hx (by omega)
      unfold spCx at ht
      rw [hxl, c7h] at ht
      refine ht.mono ?_
      rintro r' H' ⟨rfl, L, rfl⟩
      have hk0 : K0 ⟨1, xs⟩ := ⟨rfl, by have := h2.pos; simp only; omega, by simp only; omega, hx⟩
      obtain ⟨s0, s1, s2⟩ := c2W (n0 := n0) h1 h2 hk0 hxl
      exact ⟨_, L, rfl, hBl, hB, .tup _ (by simp), rfl, s0, s1, s2, hBl, hB, fun j hj => by rw [a4M hid, if_neg (by omega)]⟩
theorem b9W (n0 : Nat) (A : Heap) {v : AV} (hv : VecT n0 A v) : ACalls Pr a5H [v] A fun r' A' => r' = .tup [] ∧ Sp n0 A A' := by
  rcases hv with rfl | ⟨β, off, l, oc, r, rfl, h0, h1, h2, h3, h4⟩
  · refine ACalls.open a8e a8d (Nat.le_of_ble_eq_true rfl) fun hH => ?_
    refine Safe.rg rfl ?_
    simp only [a4J, E3, a0c, a0b, a0a, a0d, seval]
    refine Safe.lp rfl (Safe.inLoop ?_)
    refine Safe.rg rfl ?_
    simp only [a2q, E3, a0c, a0b, a0a, a0d, seval]
    refine Safe.cd rfl ?_
    simp only [E3, a0c, a0b, a0a, a0d, seval]
    refine Safe.stl 5 _ (Safe.donen ?_)
    simp only [E3, a0c, a0b, a0a, a0d, seval]
    rw [a4L]
    exact Sp.refl hH
  · refine ACalls.open a8e a8d (Nat.le_of_ble_eq_true rfl) fun hH => ?_
    refine Safe.rg rfl ?_
    simp only [a4J, E3, a0c, a0b, a0a, a0d, seval]
    refine Safe.lp rfl ?_
    refine Safe.keep [0, 2] ?_
    simp only [E3, a0c, a0b, a0a, a0d, seval]
    refine Safe.loopW (fun a : Nat × Heap => l - a.1) (fun a => [(0, .mu β off l oc), (2, .int .i64 a.1)]) (fun a => a.2)
      (fun a => a.1 ≤ l ∧ Sp n0 A a.2) (0, A) rfl (a4L A) ⟨Nat.zero_le _, Sp.refl hH⟩ ?_
    rintro ⟨i, G⟩ ⟨hi, hsp⟩ ih
    simp only at hi hsp
    obtain ⟨r', g1, g2, g3⟩ := hsp.m1 β r h0 h1 h2
    have hrow : hrow G β = some r' := by simp [Go.Abs.hrow, g1]
    refine Safe.inLoop ?_
    by_cases hlt' : i < l
    · have hlt : ((i : Int) < (l : Int)) = True := eq_true (by omega)
      have hiw : IntKind.wrap .i64 ((i : Int) + 1) = ((i + 1 : Nat) : Int) := by rw [a0g] <;> omega
      have hlen : off + i < r'.xs.length := by omega
      obtain ⟨b, m, hel, hm⟩ := g2.el _ (List.getElem_mem (l := r'.xs) (n := off + i) hlen)
      have hget : r'.xs.getD (off + i) .top = .agg [.bool b, m] := by
        rw [List.getD_eq_getElem?_getD, List.getElem?_eq_getElem hlen]; exact hel
      have hix : idxV G 2 (.mu β off l oc) (.int .i64 i) = some (.loc β (off + i) 0) := by
        rw [b1r _ _ _ _ _ _ _ _ (by omega) (by omega), hrow]
        simp [g2.wd]
      have hat : atV G (.loc β (off + i) 0) = some [.bool b, m] := by
        rw [b4B, hrow]; simp [hlen, hel, AV.cells]
      refine Safe.rg rfl ?_
      simp only [a2q, b1m, hrow, hlt, E3, a0c, a0b, a0a, a0d, seval]
      refine Safe.cd rfl ?_
      simp only [E3, a0c, a0b, a0a, a0d, seval]
      refine Safe.rg rfl ?_
      simp only [a8c, hix, hat, E3, a0c, a0b, a0a, a0d, seval]
      refine (c1j n0 G ⟨b, m, rfl, hm⟩).mono ?_
      rintro r2 G2 ⟨rfl, hsp2⟩
      obtain ⟨r3, k1, k2, k3⟩ := hsp2.m1 β r' h0 g1 g2
      have hrow3 : Go.Abs.hrow G2 β = some r3 := by simp [Go.Abs.hrow, k1]
      have hlen3 : off + i < r3.xs.length := by omega
      have hix3 : idxV G2 2 (.mu β off l oc) (.int .i64 i) = some (.loc β (off + i) 0) := by
        rw [b1r _ _ _ _ _ _ _ _ (by omega) (by omega), hrow3]
        simp [k2.wd]
      have hst : ∀ env, a4Z 2 (.loc β (off + i) 0) (.agg [.bool true, .nil]) env G2 = some (.top, env, G2.set β (some ⟨2, r3.xs.set (off + i) (.agg [.bool true, .nil])⟩)) := fun env => by
        simp only [a4Z, hrow3, Option.bind_some, k2.wd]
        rw [if_pos ⟨hlen3, rfl, rfl, Nat.le_refl _⟩, a7u]
      simp only [E3, a0c, a0b, a0a, a0d, seval]
      refine Safe.rg rfl ?_
      simp only [a8b, hix3, hst, E3, a0c, a0b, a0a, a0d, seval]
      refine Safe.rg rfl ?_
      simp only [a8a, hiw, E3, a0c, a0b, a0a, a0d, seval]
      refine Safe.keep [0, 2] ?_
      simp only [E3, a0c, a0b, a0a, a0d, seval]
      have hnew : IntT n0 G2 (.agg [.bool true, .nil]) := ⟨true, .nil, rfl, .inl rfl⟩
      obtain ⟨s0, s1, s2⟩ := c6L (n0 := n0) (i := off + i) k1 k2 hnew
      refine ih (i + 1, _) ⟨by simp only; omega, hsp.trans (hsp2.trans ⟨s0, s1, s2, List.length_set, hsp2.refs.set β fun a ha => ?_, fun j hj => by rw [a4M (a0f k1), if_neg (by omega)]⟩)⟩ (by simp only; omega)
      obtain ⟨x, hx, ha⟩ := List.mem_flatMap.1 ha
      rcases List.mem_or_eq_of_mem_set hx with hx | rfl
      · exact ((k2.el x hx).cells a ha).mono fun j hj => hj.2
      · simp only [AV.cells, List.mem_cons, List.not_mem_nil, or_false] at ha
        rcases ha with rfl | rfl
        · exact .bool _
        · exact .nil
    · have hlt : ((i : Int) < (l : Int)) = False := eq_false (by omega)
      refine Safe.rg rfl ?_
      simp only [a2q, b1m, hrow, hlt, E3, a0c, a0b, a0a, a0d, seval]
      refine Safe.cd rfl ?_
      simp only [E3, a0c, a0b, a0a, a0d, seval]
      refine Safe.stl 5 _ (Safe.donen ?_)
      simp only [E3, a0c, a0b, a0a, a0d, seval]
      exact hsp
theorem b9X (n0 : Nat) (A : Heap) {v : AV} (hv : MatT n0 A v) : ACalls Pr a5I [v] A fun r' A' => r' = .tup [] ∧ Sp n0 A A' := by
  rcases hv with rfl | ⟨β, off, l, oc, r, rfl, h0, h1, h2, h3, h4⟩
  · refine ACalls.open a8i a8h (Nat.le_of_ble_eq_true rfl) fun hH => ?_
    refine Safe.rg rfl ?_
    simp only [a4K, E3, a0c, a0b, a0a, a0d, seval]
    refine Safe.lp rfl (Safe.inLoop ?_)
    refine Safe.rg rfl ?_
    simp only [a2r, E3, a0c, a0b, a0a, a0d, seval]
    refine Safe.cd rfl ?_
    simp only [E3, a0c, a0b, a0a, a0d, seval]
    refine Safe.stl 5 _ (Safe.donen ?_)
    simp only [E3, a0c, a0b, a0a, a0d, seval]
    rw [a4L]
    exact Sp.refl hH
  · refine ACalls.open a8i a8h (Nat.le_of_ble_eq_true rfl) fun hH => ?_
    refine Safe.rg rfl ?_
    simp only [a4K, E3, a0c, a0b, a0a, a0d, seval]
    refine Safe.lp rfl ?_
    refine Safe.keep [0, 2] ?_
    simp only [E3, a0c, a0b, a0a, a0d, seval]
    refine Safe.loopW (fun a : Nat × Heap => l - a.1) (fun a => [(0, .mu β off l oc), (2, .int .i64 a.1)]) (fun a => a.2)
      (fun a => a.1 ≤ l ∧ Sp n0 A a.2) (0, A) rfl (a4L A) ⟨Nat.zero_le _, Sp.refl hH⟩ ?_
    rintro ⟨i, G⟩ ⟨hi, hsp⟩ ih
    simp only at hi hsp
    obtain ⟨r', g1, g2, g3⟩ := hsp.m2 β r h0 h1 h2
    have hrow : hrow G β = some r' := by simp [Go.Abs.hrow, g1]
    refine Safe.inLoop ?_
    by_cases hlt' : i < l
    · have hlt : ((i : Int) < (l : Int)) = True := eq_true (by omega)
      have hiw : IntKind.wrap .i64 ((i : Int) + 1) = ((i + 1 : Nat) : Int) := by rw [a0g] <;> omega
      have hlen : off + i < r'.xs.length := by omega
      have hvt := g2.el _ (List.getElem_mem (l := r'.xs) (n := off + i) hlen)
      have hcells : (r'.xs[off + i]).cells = [r'.xs[off + i]] := by rcases hvt with h | ⟨_, _, _, _, _, h, _⟩ <;> rw [h] <;> rfl
      have hix : idxV G 1 (.mu β off l oc) (.int .i64 i) = some (.loc β (off + i) 0) := by
        rw [b1r _ _ _ _ _ _ _ _ (by omega) (by omega), hrow]
        simp [g2.wd]
      have hat : atV G (.loc β (off + i) 0) = some [r'.xs[off + i]] := by
        rw [b4B, hrow]; simp [hlen, hcells]
      refine Safe.rg rfl ?_
      simp only [a2r, b1m, hrow, hlt, E3, a0c, a0b, a0a, a0d, seval]
      refine Safe.cd rfl ?_
      simp only [E3, a0c, a0b, a0a, a0d, seval]
      refine Safe.rg rfl ?_
      simp only [a8g, hix, hat, E3, a0c, a0b, a0a, a0d, seval]
      refine (b9W n0 G hvt).mono ?_
      rintro r2 G2 ⟨rfl, hsp2⟩
      simp only [E3, a0c, a0b, a0a, a0d, seval]
      refine Safe.rg rfl ?_
      simp only [a8f, hiw, E3, a0c, a0b, a0a, a0d, seval]
      refine Safe.keep [0, 2] ?_
      simp only [E3, a0c, a0b, a0a, a0d, seval]
      exact ih (i + 1, _) ⟨by simp only; omega, hsp.trans hsp2⟩ (by simp only; omega)
    · have hlt : ((i : Int) < (l : Int)) = False := eq_false (by omega)
      refine Safe.rg rfl ?_
      simp only [a2r, b1m, hrow, hlt, E3, a0c, a0b, a0a, a0d, seval]
      refine Safe.cd rfl ?_
      simp only [E3, a0c, a0b, a0a, a0d, seval]
      refine Safe.stl 5 _ (Safe.donen ?_)
      simp only [E3, a0c, a0b, a0a, a0d, seval]
      exact hsp
end Go.Abs
namespace Go.Abs
def NatF (n0 : Nat) (A : Heap) (a : AV) (m : List Nat) : Prop := (a = .nil ∧ m = []) ∨ ∃ id, a = .mu id 0 m.length (some m.length) ∧ n0 ≤ id ∧ A[id]? = some (some ⟨1, u32s m⟩) ∧ 0 < m.length ∧ m.length ≤ 17592186044416
def IntF (n0 : Nat) (A : Heap) (a : AV) (x : ZI) : Prop := ∃ m, a = .agg [.bool x.neg, m] ∧ NatF n0 A m x.mag
def ElsF {α : Type} (T : Nat → Heap → AV → α → Prop) (n0 : Nat) (A : Heap) (xs : List AV) (v : List α) : Prop := xs.length = v.length ∧ ∀ (i : Nat) x z, xs[i]? = some x → v[i]? = some z → T n0 A x z
def RowF {α : Type} (T : Nat → Heap → AV → α → Prop) (wd : Nat) (n0 : Nat) (A : Heap) (a : AV) (v : List α) : Prop := (a = .nil ∧ v = []) ∨ ∃ id oc xs, a = .mu id 0 v.length oc ∧ n0 ≤ id ∧ A[id]? = some (some ⟨wd, xs⟩) ∧ v.length ≤ 2097152 ∧ ElsF T n0 A xs v
abbrev VecF := RowF IntF 2
abbrev MatF := RowF VecF 1
section
variable {n0 n1 : Nat} {A : Heap} {α : Type} {T : Nat → Heap → AV → α → Prop} {wd : Nat}
theorem ElsF.mem {xs : List AV} {v : List α} (h : ElsF T n0 A xs v) {x : AV} (hx : x ∈ xs) : ∃ z, T n0 A x z := by
  obtain ⟨i, hi, rfl⟩ := List.getElem_of_mem hx
  exact ⟨_, h.2 i _ _ (List.getElem?_eq_getElem hi) (List.getElem?_eq_getElem (by rw [← h.1]; exact hi))⟩
theorem ElsF.mono {n1 : Nat} {B : Heap} {xs : List AV} {v : List α} (h : ElsF T n0 A xs v) (k : ∀ x z, T n0 A x z → T n1 B x z) : ElsF T n1 B xs v := ⟨h.1, fun i x z hx hz => k _ _ (h.2 i x z hx hz)⟩
theorem ElsF.nil : ElsF T n0 A [] [] := ⟨rfl, fun i x z hx => by simp at hx⟩
theorem ElsF.snoc {xs : List AV} {v : List α} (h : ElsF T n0 A xs v) {x : AV} {z : α} (k : T n0 A x z) : ElsF T n0 A (xs ++ [x]) (v ++ [z]) := by
  refine ⟨by simp [h.1], fun i y u hy hu => ?_⟩
  rcases Nat.lt_trichotomy i xs.length with hi | hi | hi
  · rw [List.getElem?_append_left hi] at hy
    rw [List.getElem?_append_left (by rw [← h.1]; exact hi)] at hu
    exact h.2 i y u hy hu
  · subst hi
    rw [List.getElem?_append_right (Nat.le_refl _), Nat.sub_self] at hy
    rw [h.1, List.getElem?_append_right (Nat.le_refl _), Nat.sub_self] at hu
    cases hy; cases hu; exact k
  · rw [List.getElem?_eq_none (by simp; omega)] at hy
    cases hy
theorem NatF.t {a : AV} {m : List Nat} (h : NatF n0 A a m) : NatT n0 A a := by
  rcases h with ⟨rfl, _⟩ | ⟨id, rfl, h0, h1, h2, h3⟩
  · exact .inl rfl
  · exact .inr ⟨id, ⟨1, u32s m⟩, by rw [show (Blk.mk 1 (u32s m)).xs = u32s m from rfl, a0B], h0, h1, c7i h2 h3⟩
theorem IntF.t {a : AV} {x : ZI} (h : IntF n0 A a x) : IntT n0 A a := by
  obtain ⟨m, rfl, hm⟩ := h
  exact ⟨_, m, rfl, hm.t⟩
theorem RowF.vecT {a : AV} {v : List ZI} (h : VecF n0 A a v) : VecT n0 A a := by
  rcases h with ⟨rfl, _⟩ | ⟨id, oc, xs, rfl, h0, h1, h2, h3⟩
  · exact .inl rfl
  · exact .inr ⟨id, 0, v.length, oc, ⟨2, xs⟩, rfl, h0, h1, ⟨rfl, fun x hx => (h3.mem hx).elim fun z hz => hz.t⟩, by have := h3.1; show 0 + v.length ≤ xs.length; omega, h2⟩
theorem RowF.matT {a : AV} {v : List (List ZI)} (h : MatF n0 A a v) : MatT n0 A a := by
  rcases h with ⟨rfl, _⟩ | ⟨id, oc, xs, rfl, h0, h1, h2, h3⟩
  · exact .inl rfl
  · exact .inr ⟨id, 0, v.length, oc, ⟨1, xs⟩, rfl, h0, h1, ⟨rfl, fun x hx => (h3.mem hx).elim fun z hz => hz.vecT⟩, by have := h3.1; show 0 + v.length ≤ xs.length; omega, h2⟩
theorem NatF.app (L : Heap) {a : AV} {m : List Nat} (h : NatF n0 A a m) : NatF n0 (hap A L) a m := by
  rcases h with h | ⟨id, e, h0, h1, h2⟩
  · exact .inl h
  · exact .inr ⟨id, e, h0, a3C h1, h2⟩
theorem IntF.app (L : Heap) {a : AV} {x : ZI} (h : IntF n0 A a x) : IntF n0 (hap A L) a x := by
  obtain ⟨m, e, hm⟩ := h
  exact ⟨m, e, hm.app L⟩
theorem RowF.app (hT : ∀ {L a x}, T n0 A a x → T n0 (hap A L) a x) (L : Heap) {a : AV} {v : List α} (h : RowF T wd n0 A a v) : RowF T wd n0 (hap A L) a v := by
  rcases h with h | ⟨id, oc, xs, e, h0, h1, h2, h3⟩
  · exact .inl h
  · exact .inr ⟨id, oc, xs, e, h0, a3C h1, h2, h3.mono fun _ _ => hT⟩
theorem NatF.low (hn : n0 ≤ n1) {a : AV} {m : List Nat} (h : NatF n1 A a m) : NatF n0 A a m := by
  rcases h with h | ⟨id, e, h0, h1⟩
  · exact .inl h
  · exact .inr ⟨id, e, by omega, h1⟩
theorem IntF.low (hn : n0 ≤ n1) {a : AV} {x : ZI} (h : IntF n1 A a x) : IntF n0 A a x := by
  obtain ⟨m, e, hm⟩ := h
  exact ⟨m, e, hm.low hn⟩
theorem RowF.low (hT : ∀ {a x}, T n1 A a x → T n0 A a x) (hn : n0 ≤ n1) {a : AV} {v : List α} (h : RowF T wd n1 A a v) : RowF T wd n0 A a v := by
  rcases h with h | ⟨id, oc, xs, e, h0, h1, h2, h3⟩
  · exact .inl h
  · exact .inr ⟨id, oc, xs, e, by omega, h1, h2, h3.mono fun _ _ => hT⟩
/-- A row of two cells an element bound anew. -/
theorem IntF.set {β : Nat} {xs ys : List AV} (hβ : A[β]? = some (some ⟨2, xs⟩)) {a : AV} {x : ZI} (h : IntF n0 A a x) : IntF n0 (A.set β (some ⟨2, ys⟩)) a x := by
  obtain ⟨m, e, hm⟩ := h
  refine ⟨m, e, ?_⟩
  rcases hm with hm | ⟨id, e, h0, h1, h2⟩
  · exact .inl hm
  · refine .inr ⟨id, e, h0, ?_, h2⟩
    rw [List.getElem?_set, if_neg]
    · exact h1
    · rintro rfl
      rw [hβ] at h1; cases h1
/-- A row of vectors bound anew. -/
theorem RowF.set1 {β : Nat} {xs ys : List AV} (hβ : A[β]? = some (some ⟨1, xs⟩)) (hxs : ∀ y ∈ xs, VecT n0 A y) {a : AV} {v : List ZI} (h : VecF n0 A a v) : VecF n0 (A.set β (some ⟨1, ys⟩)) a v := by
  rcases h with h | ⟨id, oc, zs, e, h0, h1, h2, h3⟩
  · exact .inl h
  · refine .inr ⟨id, oc, zs, e, h0, ?_, h2, h3.mono ?_⟩
    · rw [List.getElem?_set, if_neg]
      · exact h1
      · rintro rfl
        rw [hβ] at h1; cases h1
    · rintro x z ⟨m, e, hm⟩
      refine ⟨m, e, ?_⟩
      rcases hm with hm | ⟨id, e, h0, h1, h2⟩
      · exact .inl hm
      · refine .inr ⟨id, e, h0, ?_, h2⟩
        rw [List.getElem?_set, if_neg]
        · exact h1
        · rintro rfl
          rw [hβ] at h1
          simp only [Option.some.injEq, Blk.mk.injEq, true_and] at h1
          subst h1
          exact (hxs _ (List.mem_map.2 ⟨z.mag[0]'h2.1, List.getElem_mem h2.1, rfl⟩)).nint
end
/-- Rows from n0 on are no rows any more; what they held stays. -/
def Shut (n0 : Nat) (A K : Heap) : Prop := ∀ (id : Nat) b, K[id]? = some (some b) → id < n0 ∧ ∃ b', A[id]? = some (some b')
section
variable {φ : Nat → Option Nat} {A K : Heap} {w : World} {n0 : Nat}
theorem c2X (hok : HOk ⟨φ, A, w⟩) (hK : Shut n0 A K) {id b : Nat} {r : Blk} (h0 : n0 ≤ id) (hl : A[id]? = some (some r)) (hb : φ id = some b) : ¬ Emb.Mut ⟨φ, K, w⟩ b := by
  rintro ⟨j, bj, h1, h2⟩
  obtain ⟨q1, b', q2⟩ := hK j bj h1
  have := hok.inj j id b' r b q2 hl h2 hb
  omega
/-- A row read aXs a value. -/
theorem b5R (hok : HOk ⟨φ, A, w⟩) (hK : Shut n0 A K) {id wd : Nat} {xs ys : List AV} {oc : Option Nat} (h0 : n0 ≤ id) (hl : A[id]? = some (some ⟨wd, xs⟩)) (hpos : 0 < wd) (hlen : ys.length = xs.length) (hw : ∀ y ∈ ys, y.cells.length = wd) (hcl : ∀ c ∈ ys.flatMap AV.cells, Cl c)
    (hle : ∀ (k : Nat) a c v, (xs.flatMap AV.cells)[k]? = some a → (ys.flatMap AV.cells)[k]? = some c → Rep ⟨φ, A, w⟩ v a → Rep ⟨φ, K, w⟩ v c) {v : Value} {len : Nat} (hlen2 : len = ys.length) (hr : Rep ⟨φ, A, w⟩ v (.mu id 0 len oc)) : Rep ⟨φ, K, w⟩ v (.sl wd ys) := by
  have hwx : ∀ x ∈ xs, x.cells.length = wd := hok.wids id _ hl
  cases hr with
  | dead _ _ i hr hd h1 =>
    simp only [AV.ref, Option.some.injEq] at hr
    subst hr
    rw [hl] at hd; cases hd
  | mu0 blk _ _ _ hlive hb hoc =>
    have : ys = [] := List.length_eq_zero_iff.1 hlen2.symm
    subst this
    exact .sl none 0 wd [] [] 0 0 (Nat.le_refl _) hpos hw hcl (.inl rfl) rfl (fun k v hk => by simp at hk) (fun k v a hk => by simp at hk)
  | mu blk _ _ _ _ b q cap hlive hb hq hcap hsz hoc =>
    rw [hl] at hlive
    cases hlive
    obtain ⟨c, e, hrow⟩ := hok.row id _ b hl hb
    have hfl : (Blk.mk wd xs).flat.length = ys.length * wd := by
      show (xs.flatMap AV.cells).length = _
      rw [a1m hwx, hlen]
    obtain ⟨vs, q1, q2, q3⟩ := b5T hrow hpos 0 (ys.length * wd) (by rw [hfl]; omega)
    simp only [Nat.zero_add] at q2 q3
    have hm := c2X hok hK h0 hl hb
    subst hlen2
    by_cases hy : ys = []
    · subst hy
      exact .sl _ cap wd [] [] b 0 hcap hpos hw hcl (.inl rfl) rfl (fun k v hk => by simp at hk) (fun k v a hk => by simp at hk)
    · have hyl : 0 < ys.length := List.length_pos_iff.2 hy
      have hq0 : q = 0 := by
        rcases hq with h | ⟨h, _⟩
        · simpa using h
        · omega
      subst hq0
      have hfy : (ys.flatMap AV.cells).length = ys.length * wd := a1m hw
      refine .sl _ cap wd ys vs b 0 hcap hpos hw hcl (.inr ⟨rfl, hm⟩) (by rw [q1, hfy]) (fun k v hk => ?_) (fun k v a hk ha => ?_)
      · have := q2 k v hk
        simpa using this
      · have hkl : k < ys.length * wd := by rw [← hfy]; exact a0h ha
        have hx : (xs.flatMap AV.cells)[k]? = some ((xs.flatMap AV.cells)[k]'(by rw [a1m hwx, ← hlen]; exact hkl)) := List.getElem?_eq_getElem _
        exact hle k _ a v hx ha (q3 k v _ hk hx)
theorem NatF.shut (hok : HOk ⟨φ, A, w⟩) (hK : Shut n0 A K) {a : AV} {m : List Nat} (h : NatF n0 A a m) {v : Value} (hr : Rep ⟨φ, A, w⟩ v a) : Rep ⟨φ, K, w⟩ v (natV m) := by
  rcases h with ⟨rfl, rfl⟩ | ⟨id, rfl, h0, h1, h2, h3⟩
  · cases hr with
    | nil => exact a5P 1 (by decide) .nil
    | dead _ _ i hr hd h1 => simp [AV.ref] at hr
  · refine b5R hok hK h0 h1 (by decide) rfl (fun y hy => ?_) (fun c hc => ?_) (fun k a c v ha hc hv => ?_) (a0B m).symm hr
    · obtain ⟨d, _, rfl⟩ := List.mem_map.1 hy; rfl
    · obtain ⟨y, hy, hc⟩ := List.mem_flatMap.1 hc
      obtain ⟨d, _, rfl⟩ := List.mem_map.1 hy
      simp only [AV.cells, List.mem_singleton] at hc
      subst hc; exact .int _ _
    · rw [ha] at hc
      cases hc
      obtain ⟨y, hy, hc⟩ := List.mem_flatMap.1 (List.mem_of_getElem? ha)
      obtain ⟨d, _, rfl⟩ := List.mem_map.1 hy
      simp only [AV.cells, List.mem_singleton] at hc
      subst hc
      rw [a0n hv]; exact .int _ _
theorem IntF.cells {a : AV} {x : ZI} (h : IntF n0 A a x) (hok : HOk ⟨φ, A, w⟩) (hK : Shut n0 A K) : a.cells.length = 2 ∧ ∀ (k : Nat) c d v, a.cells[k]? = some c → x.av.cells[k]? = some d → Rep ⟨φ, A, w⟩ v c → Rep ⟨φ, K, w⟩ v d := by
  obtain ⟨m, rfl, hm⟩ := h
  refine ⟨rfl, fun k c d v hc hd hv => ?_⟩
  match k with
  | 0 =>
    cases hc; cases hd
    rw [a0O hv]; exact .bool _
  | 1 =>
    cases hc; cases hd
    exact hm.shut hok hK hv
  | k + 2 => simp [AV.cells] at hc
/-- Cells of two lists, element by element. -/
theorem b4z {wd : Nat} {Q : AV → AV → Prop} : ∀ {xs ys : List AV}, xs.length = ys.length → (∀ x ∈ xs, x.cells.length = wd) → (∀ y ∈ ys, y.cells.length = wd) →
    (∀ (i : Nat) x y, xs[i]? = some x → ys[i]? = some y → ∀ (k : Nat) c d, x.cells[k]? = some c → y.cells[k]? = some d → Q c d) → ∀ (k : Nat) c d, (xs.flatMap AV.cells)[k]? = some c → (ys.flatMap AV.cells)[k]? = some d → Q c d
  | [], [], _, _, _, _, k, c, d, hc, _ => by simp at hc
  | x :: xs, y :: ys, hl, hx, hy, hq, k, c, d, hc, hd => by
    have h1 := hx x (by simp)
    have h2 := hy y (by simp)
    rw [List.flatMap_cons] at hc hd
    rcases Nat.lt_or_ge k wd with hk | hk
    · rw [List.getElem?_append_left (by omega)] at hc hd
      exact hq 0 x y rfl rfl k c d hc hd
    · rw [List.getElem?_append_right (by omega), h1] at hc
      rw [List.getElem?_append_right (by omega), h2] at hd
      exact b4z (by simpa using hl) (fun a h => hx a (by simp [h])) (fun a h => hy a (by simp [h])) (fun i a b ha hb => hq (i + 1) a b ha hb) (k - wd) c d hc hd
theorem RowF.shutV (hok : HOk ⟨φ, A, w⟩) (hK : Shut n0 A K) {a : AV} {l : List ZI} (h : VecF n0 A a l) {v : Value} (hr : Rep ⟨φ, A, w⟩ v a) : Rep ⟨φ, K, w⟩ v (vecV l) := by
  rcases h with ⟨rfl, rfl⟩ | ⟨id, oc, xs, rfl, h0, h1, h2, h3⟩
  · cases hr with
    | nil => exact a5P 2 (by decide) .nil
    | dead _ _ i hr hd h1 => simp [AV.ref] at hr
  · have hy : ∀ y ∈ l.map ZI.av, y.cells.length = 2 := fun y hy => by
      obtain ⟨d, _, rfl⟩ := List.mem_map.1 hy; rfl
    refine b5R hok hK h0 h1 (by decide) (by rw [List.length_map, h3.1]) hy (fun c hc => ?_) (fun k a c v ha hc hv => ?_) (by rw [List.length_map]) hr
    · obtain ⟨y, hy, hc⟩ := List.mem_flatMap.1 hc
      obtain ⟨d, _, rfl⟩ := List.mem_map.1 hy
      exact a8o (ZI.cl d) c hc
    · refine b4z (Q := fun c d => ∀ v, Rep ⟨φ, A, w⟩ v c → Rep ⟨φ, K, w⟩ v d) (by rw [List.length_map, h3.1]) (hok.wids id _ h1) hy (fun i x y hx hy k c d hc hd v hv => ?_) k a c ha hc v hv
      rw [List.getElem?_map, Option.map_eq_some_iff] at hy
      obtain ⟨z, hz, rfl⟩ := hy
      exact ((h3.2 i x z hx hz).cells hok hK).2 k c d v hc hd hv
theorem RowF.vcells {a : AV} {l : List ZI} (h : VecF n0 A a l) : a.cells = [a] := by
  rcases h with ⟨rfl, rfl⟩ | ⟨id, oc, xs, rfl, _⟩ <;> rfl
theorem RowF.shutM (hok : HOk ⟨φ, A, w⟩) (hK : Shut n0 A K) {a : AV} {l : List (List ZI)} (h : MatF n0 A a l) {v : Value} (hr : Rep ⟨φ, A, w⟩ v a) : Rep ⟨φ, K, w⟩ v (matV l) := by
  rcases h with ⟨rfl, rfl⟩ | ⟨id, oc, xs, rfl, h0, h1, h2, h3⟩
  · cases hr with
    | nil => exact a5P 1 (by decide) .nil
    | dead _ _ i hr hd h1 => simp [AV.ref] at hr
  · have hy : ∀ y ∈ l.map vecV, y.cells.length = 1 := fun y hy => by
      obtain ⟨d, _, rfl⟩ := List.mem_map.1 hy; rfl
    refine b5R hok hK h0 h1 (by decide) (by rw [List.length_map, h3.1]) hy (fun c hc => ?_) (fun k a c v ha hc hv => ?_) (by rw [List.length_map]) hr
    · obtain ⟨y, hy, hc⟩ := List.mem_flatMap.1 hc
      obtain ⟨d, _, rfl⟩ := List.mem_map.1 hy
      exact a8o (a0I d) c hc
    · refine b4z (Q := fun c d => ∀ v, Rep ⟨φ, A, w⟩ v c → Rep ⟨φ, K, w⟩ v d) (by rw [List.length_map, h3.1]) (hok.wids id _ h1) hy (fun i x y hx hy k c d hc hd v hv => ?_) k a c ha hc v hv
      rw [List.getElem?_map, Option.map_eq_some_iff] at hy
      obtain ⟨z, hz, rfl⟩ := hy
      have hT := h3.2 i x z hx hz
      rw [hT.vcells] at hc
      match k with
      | 0 =>
        cases hc; cases hd
        exact hT.shutV hok hK hv
      | k + 1 => simp at hc
end
theorem c5i {φ : Nat → Option Nat} {A : Heap} {w : World} : HOk ⟨φ, A.map fun _ => none, w⟩ ∧ Shut 0 A (A.map fun _ => none) := by
  have no : ∀ (id : Nat) b, (A.map fun _ => (none : Option Blk))[id]? ≠ some (some b) := fun id b h => by
    rw [List.getElem?_map, Option.map_eq_some_iff] at h
    obtain ⟨_, _, h⟩ := h
    cases h
  exact ⟨⟨fun id b _ h => absurd h (no id b), fun id b h => absurd h (no id b), fun id b _ h => absurd h (no id b), fun id b h => absurd h (no id b), fun id _ b _ _ h => absurd h (no id b)⟩, fun id b h => absurd h (no id b)⟩
/-- A function that only answers true or false, asked of rows of the call's own: they stay. -/
theorem a0o.peek {P : Program} {f : FuncId} {args args0 : List AV} {A : Heap} {b : Bool} (h : a0o P f args0 (.bool b)) (hlen : args.length = args0.length)
    (hle : ∀ φ w, HOk ⟨φ, A, w⟩ → ∀ (k : Nat) a c v, args[k]? = some a → args0[k]? = some c → Rep ⟨φ, A, w⟩ v a → Rep ⟨φ, A.map fun _ => none, w⟩ v c) : ACalls P f args A fun r' H' => r' = .bool b ∧ H' = A := by
  have h0 := h (A.map fun _ => none)
  refine ⟨h0.1, fun φ w vs hok hl hrep => ?_⟩
  refine (h0.2 φ w vs c5i.1 (by omega) fun k v c hv hc => ?_).mono ?_
  · have hk : k < args.length := by rw [hlen]; exact a0h hc
    exact hle φ w hok k _ c v (List.getElem?_eq_getElem hk) hc (hrep k v _ hv (List.getElem?_eq_getElem hk))
  · rintro e w' ⟨v, r', φ', H', rfl, ⟨rfl, rfl⟩, q1, q2, q3, q4⟩
    have hkeep : ∀ j, j < w.heap.size → w'.heap[j]? = w.heap[j]? := fun j hj => q4.keep j hj fun ⟨id, b', hb, _⟩ => by
      rw [List.getElem?_map, Option.map_eq_some_iff] at hb
      obtain ⟨_, _, hb⟩ := hb
      cases hb
    have hv := a0O q2
    subst hv
    exact ⟨_, .bool b, φ, A, rfl, ⟨rfl, rfl⟩, HOk.of_heap (E := ⟨φ, A, w⟩) q4.os q4.tape q4.output q4.size hkeep hok, .bool b, Nat.le_refl _, Ext.of_heap (E := ⟨φ, A, w⟩) q4.os q4.tape q4.output q4.size hkeep hok⟩
end Go.Abs
namespace Go.Abs
open Go.Proofs
theorem c4e (neg : Bool) {v : Nat} (h : 0 < v) : canZ (sgn neg v) = ⟨neg, limbs v⟩ := by
  unfold canZ
  cases neg with
  | true =>
    have e : sgn true v = -(v : Int) := rfl
    rw [e, decide_eq_true (by omega)]
    congr 1
    rw [Int.natAbs_neg]; rfl
  | false =>
    have e : sgn false v = (v : Int) := rfl
    rw [e, decide_eq_false (by omega)]
    rfl
theorem c2x (neg : Bool) : canZ (sgn neg 0) = ⟨false, []⟩ := by
  have e : sgn neg 0 = 0 := by cases neg <;> rfl
  rw [e]
  unfold canZ
  rw [show (0 : Int).natAbs = 0 from rfl, a0y]; rfl
theorem c0B (neg : Bool) (l : List Nat) (hl : Nt l) : OpC Pr a0Z [.bool neg, natV l] fun n A a => IntF n A a (canZ (sgn neg (val l))) := by
  intro H hH
  have hLl := hl.limbs.len
  by_cases hz : val l = 0
  · refine ⟨.agg [.bool false, .nil], [some ⟨2, [.agg [.bool false, .nil]]⟩], b7t neg l hl H _ (fun _ => ⟨rfl, rfl⟩) fun n h0 h1 h2 => ?_, ?_, ?_⟩
    · rw [hz, a0y] at h2
      have := congrArg List.length h2
      rw [List.length_take, List.length_nil] at this
      omega
    · rw [hz, c2x]
      exact ⟨.nil, rfl, .inl ⟨rfl, rfl⟩⟩
    · intro b hb a ha
      have : b = ⟨2, [.agg [.bool false, .nil]]⟩ := by simpa using hb
      subst this
      exact (b6J a ha).ref
  · have hp : 0 < (limbs (val l)).length := by
      rcases Nat.eq_zero_or_pos (limbs (val l)).length with h | h
      · refine absurd ?_ hz
        rw [← a1c (val l), List.length_eq_zero_iff.1 h]; rfl
      · exact h
    refine ⟨.agg [.bool neg, .mu (lid H 1) 0 (limbs (val l)).length (some (limbs (val l)).length)], [some ⟨2, [.agg [.bool neg, .mu (lid H 1) 0 (limbs (val l)).length (some (limbs (val l)).length)]]⟩, some ⟨1, u32s (limbs (val l))⟩],
      b7t neg l hl H _ (fun h => absurd h hz) fun n h0 h1 h2 => ?_, ?_, ?_⟩
    · have hn : (limbs (val l)).length = n := by rw [h2, List.length_take]; omega
      rw [hn, h2]; exact ⟨rfl, rfl⟩
    · rw [c4e neg (by omega)]
      exact ⟨_, rfl, .inr ⟨lid H 1, rfl, a7Z _ _, by simp [hap, lid], hp, hLl⟩⟩
    · intro b hb a ha
      simp only [List.mem_cons, List.not_mem_nil, or_false, Option.some.injEq] at hb
      rcases hb with rfl | rfl
      · simp only [Blk.flat, List.flatMap_cons, List.flatMap_nil, List.append_nil, AV.cells, List.mem_cons, List.not_mem_nil, or_false] at ha
        rcases ha with rfl | rfl
        · exact .bool _
        · refine .mu _ _ _ _ ?_
          simp only [lid, List.length_cons, List.length_nil]; omega
      · exact (a2B _ a ha).ref
theorem c3R {H B B' L : Heap} {a : AV} {x : ZI} (t : IntF (hap H B).length (hap (hap H B) L) a x) (hl : B.length = B'.length) : IntF H.length (hap H (B' ++ L)) a x := by
  obtain ⟨m, e, hm⟩ := t
  refine ⟨m, e, ?_⟩
  rcases hm with h | ⟨id, e, h0, h1, h2⟩
  · exact .inl h
  · exact .inr ⟨id, e, by simp only [hap, List.length_append] at h0; omega, c5N hl h0 h1, h2⟩
theorem b7L {H B L : Heap} {r : AV} (hT : IntT H.length (hap H (([some ⟨2, [r]⟩] : Heap) ++ L)) r) : ∀ c, some c ∈ ([some ⟨2, [r]⟩] : Heap) → ∀ a ∈ c.flat, Ref (fun j => H.length ≤ j ∧ j < H.length + (([some ⟨2, [r]⟩] : Heap) ++ L).length) a := fun c hc a ha => by
  have e : c = ⟨2, [r]⟩ := by simpa using hc
  subst e
  simp only [Blk.flat, List.flatMap_cons, List.flatMap_nil, List.append_nil] at ha
  exact (hT.cells a ha).mono fun j hj => by simp only [hap, List.length_append] at hj ⊢; omega
theorem b8e {t : List UInt8} (hlen : t.length ≤ 65536) {z : Int} (hz : tokV t = some z) : OpC Pr a1A [strU t] fun n A a => ∃ x, a = .tup [x, .int .i64 0, .int .i64 0] ∧ IntF n A x (canZ z) := by
  intro H hH
  by_cases hg : numB (tokN t) (tokD t) = true ∧ (tokD t).length ≤ 65536 ∧ z = sgn (tokN t) (decV (tokD t))
  · obtain ⟨hg, hDl, rfl⟩ := hg
    have hM := a5D (b2X hg).dg
    have hH1 : a0r (hap H [some ⟨2, [a3R]⟩]) := b6v hH (RC.one b5G RC.nil)
    obtain ⟨r, L, h1, hT, hO⟩ := c0B (tokN t) (limbs (decV (tokD t))) (a5Y hM hDl) (hap H [some ⟨2, [a3R]⟩]) hH1
    rw [a1c] at hT
    have ht := c3R (B' := [some ⟨2, [r]⟩]) hT rfl
    refine ⟨.tup [r, .int .i64 0, .int .i64 0], [some ⟨2, [r]⟩] ++ L, ?_, ⟨r, rfl, ht⟩, c6d hO rfl (b7L (B := []) ht.t)⟩
    refine ACalls.open a7q a7o (Nat.le_of_ble_eq_true rfl) fun hH => ?_
    refine b0R t hlen hH (fun h => by rw [hz] at h; cases h) fun neg D e1 e2 _ _ _ => ?_
    subst e1; subst e2
    have hdec : decide ((if tokN t = true then (1 : Int) else 0) = 1) = tokN t := by cases tokN t <;> rfl
    obtain ⟨hfit, hcel⟩ := hT.t.fit
    unfold zrCx c0S
    unfold a3R at h1 ⊢
    refine Safe.rg rfl ?_
    simp only [a2j, hdec, E3, a0c, a0b, a0a, a0d, seval]
    refine h1.mono ?_
    rintro r' H' ⟨rfl, rfl⟩
    obtain ⟨m, rfl, _⟩ := ht
    simp only [b0O, E3, a0c, a0b, a0a, a0d, seval]
    refine Safe.rt rfl ?_
    simp only [one3, E3, a0c, a0b, a0a, a0d, seval]
  · exfalso
    apply hg
    match t, hz with
    | c :: D, hz =>
      by_cases hc : c = 45
      · subst hc
        have := b3t (P := [45]) (D := D) (.inl rfl) hz
        exact ⟨this.1, by simp at hlen; exact (show D.length ≤ 65536 by omega), this.2⟩
      · have hn : ((c :: D).getD 0 0).toNat ≠ 45 := fun e => hc (UInt8.toNat_inj.1 (show c.toNat = (45 : UInt8).toNat from e))
        have h2 := b6N hn
        rw [h2.1, h2.2]
        have := b3t (P := []) (D := c :: D) (.inr ⟨rfl, hn⟩) hz
        exact ⟨this.1, hlen, this.2⟩
    | [], hz => cases hz
end Go.Abs
namespace Go.Abs
open Go.Proofs
def c2J (G : Heap) (t : List UInt8) (p : AV × Heap) : Prop := (ACalls Pr a1A [strU t] G fun r' H' => r' = .tup [p.1, .int .i64 0, .int .i64 0] ∧ H' = hap G p.2) ∧ (∀ z, tokV t = some z → IntF G.length (hap G p.2) p.1 (canZ z)) ∧ Own G.length p.2
open Classical in
noncomputable def zrS (G : Heap) (t : List UInt8) : AV × Heap := if h : ∃ p, c2J G t p then Classical.choose h else (.nil, [])
theorem b9g {G : Heap} (hG : a0r G) {t : List UInt8} (hlen : t.length ≤ 65536) {z : Int} (hz : tokV t = some z) : c2J G t (zrS G t) := by
  have h : ∃ p, c2J G t p := by
    obtain ⟨r, L, h1, ⟨x, rfl, hT⟩, hO⟩ := b8e hlen hz G hG
    exact ⟨(x, L), h1, fun z' hz' => by rw [hz] at hz'; cases hz'; exact hT, hO⟩
  unfold zrS
  rw [dif_pos h]
  exact Classical.choose_spec h
noncomputable def stG (β : Nat) (G : Heap) (xs : List AV) (t : List UInt8) : Heap := (hap (hap G (zrS G t).2) [some ⟨2, [(zrS G t).1]⟩, some ⟨2, [(zrS G t).1]⟩]).set β (some ⟨2, xs ++ [(zrS G t).1]⟩)
/-- The rows behind the words of a text. -/
noncomputable def wF (β : Nat) (s : List UInt8) (G : Heap) (xs : List AV) : Heap × List AV := match s with
  | [] => (G, xs)
  | c :: s' => if h : c = 32 then wF β s' G xs else wF β (a7t (c :: s')) (stG β G xs (a3S (c :: s'))) (xs ++ [(zrS G (a3S (c :: s'))).1])
termination_by s.length
decreasing_by
  · simp
  · exact a2P h
theorem c0V (β : Nat) (G : Heap) (xs : List AV) : wF β [] G xs = (G, xs) := by rw [wF]
theorem c6H (β : Nat) (s : List UInt8) (G : Heap) (xs : List AV) : wF β (32 :: s) G xs = wF β s G xs := by rw [wF, dif_pos rfl]
theorem c4D (β : Nat) {c : UInt8} {s : List UInt8} (h : c ≠ 32) (G : Heap) (xs : List AV) : wF β (c :: s) G xs = wF β (a7t (c :: s)) (stG β G xs (a3S (c :: s))) (xs ++ [(zrS G (a3S (c :: s))).1]) := by rw [wF, dif_neg h]
structure WInv (H : Heap) (ds : List Int) (G : Heap) (xs : List AV) : Prop where
  gw : Gw H G
  free : Free G H.length
  row : G[H.length]? = some (some ⟨2, xs⟩)
  els : ElsF IntF H.length G xs (ds.map canZ)
  ref : ∀ x ∈ xs, ∀ c ∈ x.cells, Ref (· ≠ H.length) c
theorem Ref.neF {n0 m β : Nat} {a : AV} (h : Ref (fun j => n0 ≤ j ∧ j < m) a) (hb : β < n0) : Ref (· ≠ β) a := h.mono fun j hj => by show j ≠ β; omega
theorem WInv.step {H : Heap} (hH : a0r H) {ds : List Int} {G : Heap} {xs : List AV} (h : WInv H ds G xs) {t : List UInt8} (hlen : t.length ≤ 65536) {z : Int} (hz : tokV t = some z) :
    WInv H (ds ++ [z]) (stG (lid H 0) G xs t) (xs ++ [(zrS G t).1]) ∧ Free (hap (hap G (zrS G t).2) [some ⟨2, [(zrS G t).1]⟩, some ⟨2, [(zrS G t).1]⟩]) H.length ∧ ∀ c ∈ (zrS G t).1.cells, Ref (· ≠ H.length) c := by
  obtain ⟨h1, h2, h3⟩ := b9g (h.gw.refs hH) hlen hz
  have hT := h2 z hz
  unfold stG
  generalize zrS G t = p at *
  obtain ⟨r, L⟩ := p
  simp only at *
  have hβ := a0f h.row
  have hrr : ∀ c ∈ r.cells, Ref (· ≠ H.length) c := fun c hc => (hT.t.cells c hc).neF hβ
  have hbox : ∀ b, some b ∈ ([some ⟨2, [r]⟩, some ⟨2, [r]⟩] : Heap) → b = ⟨2, [r]⟩ := fun b hb => by simpa using hb
  have hF2 : Free (hap (hap G L) [some ⟨2, [r]⟩, some ⟨2, [r]⟩]) H.length := (h.free.own hβ h3).app fun b hb a ha => by
    rw [hbox b hb] at ha
    simp only [Blk.flat, List.flatMap_cons, List.flatMap_nil, List.append_nil] at ha
    exact hrr a ha
  have hG2 := h.gw.own_app h3
  have hT2 : IntF H.length (hap G L) r (canZ z) := hT.low h.gw.len
  have hG3 : Gw H (hap (hap G L) [some ⟨2, [r]⟩, some ⟨2, [r]⟩]) := hG2.app fun b hb a ha => by
    rw [hbox b hb] at ha
    simp only [Blk.flat, List.flatMap_cons, List.flatMap_nil, List.append_nil] at ha
    exact (hT2.t.cells a ha).mono fun j hj => ⟨hj.1, by simp only [List.length_cons, List.length_nil]; omega⟩
  have hxs3 : ElsF IntF H.length (hap (hap G L) [some ⟨2, [r]⟩, some ⟨2, [r]⟩]) xs (ds.map canZ) := h.els.mono fun x z hx => (hx.app _).app _
  have hT3 : IntF H.length (hap (hap G L) [some ⟨2, [r]⟩, some ⟨2, [r]⟩]) r (canZ z) := hT2.app _
  have hrow3 : (hap (hap G L) [some ⟨2, [r]⟩, some ⟨2, [r]⟩])[H.length]? = some (some ⟨2, xs⟩) := a3C (a3C h.row)
  refine ⟨⟨hG3.set (Nat.le_refl _) ?_, hF2.self _, (a4M (x := some ⟨2, xs ++ [r]⟩) (a0f hrow3)).trans (if_pos rfl), ?_, ?_⟩, hF2, hrr⟩
  · intro a ha
    simp only [Blk.flat, List.flatMap_append, List.mem_append, List.flatMap_cons, List.flatMap_nil, List.append_nil] at ha
    rcases ha with ha | ha
    · obtain ⟨x, hx, ha⟩ := List.mem_flatMap.1 ha
      obtain ⟨z', hx⟩ := hxs3.mem hx
      exact hx.t.cells a ha
    · exact hT3.t.cells a ha
  · rw [List.map_append]
    exact (hxs3.snoc hT3).mono fun x z hx => hx.set hrow3
  · intro x hx
    rcases List.mem_append.1 hx with hx | hx
    · exact h.ref x hx
    · have e : x = r := by simpa using hx
      subst e
      exact hrr
theorem c6I {H : Heap} (hH : a0r H) : ∀ (n : Nat) (s : List UInt8) (k : Nat) (zs ds : List Int) (G : Heap) (xs : List AV), s.length ≤ n → s.length ≤ 65536 → wd k s = .inr zs → WInv H ds G xs → WInv H (ds ++ zs) (wF (lid H 0) s G xs).1 (wF (lid H 0) s G xs).2 := by
  intro n
  induction n with
  | zero =>
    intro s k zs ds G xs hn hl hw h
    have : s = [] := List.length_eq_zero_iff.1 (by omega)
    subst this
    rw [b1H] at hw
    cases hw
    rw [c0V, List.append_nil]
    exact h
  | succ n ih =>
    intro s k zs ds G xs hn hl hw h
    match s, hn, hl, hw with
    | [], _, _, hw =>
      rw [b1H] at hw
      cases hw
      rw [c0V, List.append_nil]
      exact h
    | c :: s, hn, hl, hw =>
      by_cases hc : c = 32
      · subst hc
        rw [b9N] at hw
        rw [c6H]
        exact ih s _ zs ds G xs (by simp at hn; omega) (by simp at hl; omega) hw h
      · have hd := a2P (s := s) hc
        have ha := c0T (c :: s)
        rw [b4Y _ hc] at hw
        rw [c4D _ hc]
        have hl2 : (a3S (c :: s)).length + (a7t (c :: s)).length = (c :: s).length := by rw [← List.length_append, ha]
        cases htv : tokV (a3S (c :: s)) with
        | none => rw [htv] at hw; cases hw
        | some z =>
          rw [htv] at hw
          simp only at hw
          cases hw2 : wd (k + (a3S (c :: s)).length) (a7t (c :: s)) with
          | inl e => rw [hw2] at hw; cases hw
          | inr zs2 =>
            rw [hw2] at hw
            simp only [Sum.inr.injEq] at hw
            subst hw
            have h2 := (h.step hH (by omega) htv).1
            have := ih _ _ zs2 (ds ++ [z]) _ _ (by omega) (by omega) hw2 h2
            rw [List.append_assoc] at this
            exact this
theorem c4C : ∀ (n : Nat) (s : List UInt8) (k : Nat) (zs : List Int), s.length ≤ n → wd k s = .inr zs → zs.length ≤ s.length := by
  intro n
  induction n with
  | zero =>
    intro s k zs hn hw
    have : s = [] := List.length_eq_zero_iff.1 (by omega)
    subst this
    rw [b1H] at hw
    cases hw
    simp
  | succ n ih =>
    intro s k zs hn hw
    match s, hn, hw with
    | [], _, hw =>
      rw [b1H] at hw
      cases hw
      simp
    | c :: s, hn, hw =>
      by_cases hc : c = 32
      · subst hc
        rw [b9N] at hw
        have := ih s _ zs (by simp at hn; omega) hw
        simp only [List.length_cons]; omega
      · have hd := a2P (s := s) hc
        rw [b4Y _ hc] at hw
        cases htv : tokV (a3S (c :: s)) with
        | none => rw [htv] at hw; cases hw
        | some z =>
          rw [htv] at hw
          simp only at hw
          cases hw2 : wd (k + (a3S (c :: s)).length) (a7t (c :: s)) with
          | inl e => rw [hw2] at hw; cases hw
          | inr zs2 =>
            rw [hw2] at hw
            simp only [Sum.inr.injEq] at hw
            subst hw
            have := ih _ _ zs2 (by omega) hw2
            simp only [List.length_cons] at hd ⊢; omega
theorem WInv.start {H : Heap} (hH : a0r H) : WInv H [] (hap H [some ⟨2, []⟩]) [] := ⟨(Gw.refl H).cl (RC.emp RC.nil), Free.last hH _, by simp [hap], ElsF.nil, by simp⟩
theorem b3l (s : List UInt8) (k : Nat) (zs : List Int) (hw : wd k s = .inr zs) (hl : s.length ≤ 65536) : OpC Pr a0D [strU s, .int .i64 k] fun n A a => VecF n A a (zs.map canZ) := by
  intro H hH
  have hfin := c6I hH s.length s k zs [] _ [] (Nat.le_refl _) hl hw (WInv.start hH)
  rw [List.nil_append] at hfin
  obtain ⟨L, hL, hO⟩ := hfin.gw.out
  have hzl : zs.length ≤ 65536 := Nat.le_trans (c4C s.length s k zs (Nat.le_refl _) hw) hl
  refine ⟨.mu (lid H 0) 0 zs.length none, L, ?_, .inr ⟨lid H 0, none, (wF (lid H 0) s (hap H [some ⟨2, []⟩]) []).2, by rw [List.length_map], Nat.le_refl _, by rw [← hL]; exact hfin.row, by rw [List.length_map]; omega, by rw [← hL]; exact hfin.els⟩, hO⟩
  rw [← hL]
  refine ACalls.open b6q b6o (Nat.le_of_ble_eq_true rfl) fun hH => ?_
  refine Safe.rg rfl ?_
  simp only [b0J, E3, a0c, a0b, a0a, a0d, seval]
  refine Safe.rg rfl ?_
  simp only [b0I, E3, a0c, a0b, a0a, a0d, seval]
  refine Safe.nilrow 5 2 (by decide) (by simp only [E3, a0c, a0b, a0a, a0d, seval]) ?_
  refine Safe.rg rfl ?_
  simp only [b0H, E3, a0c, a0b, a0a, a0d, seval]
  refine Safe.lp rfl ?_
  refine Safe.keep [0, 5, 6] ?_
  simp only [E3, a0c, a0b, a0a, a0d, seval]
  have hwR : wd k s = .inr zs := hw
  refine Safe.loopW (fun a : List UInt8 × List Int × List UInt8 × Heap × List AV => a.2.2.1.length) (fun a => [(0, strU s), (5, .mu (lid H 0) 0 a.2.1.length none), (6, .int .i64 a.1.length)]) (fun a => a.2.2.2.1)
    (fun a => s = a.1 ++ a.2.2.1 ∧ wd k s = b3o a.2.1 (wd (k + a.1.length) a.2.2.1) ∧ a.2.1.length ≤ a.1.length ∧ WInv H a.2.1 a.2.2.2.1 a.2.2.2.2 ∧ wF (lid H 0) s (hap H [some ⟨2, []⟩]) [] = wF (lid H 0) a.2.2.1 a.2.2.2.1 a.2.2.2.2) ([], [], s, hap H [some ⟨2, []⟩], []) rfl rfl ⟨rfl, (b3m _).symm, Nat.le_refl _, WInv.start hH, rfl⟩ ?_
  rintro ⟨P, ds, rest, G, xs⟩ ⟨h1, h2, h3, h4, h5⟩ ih
  simp only at h1 h2 h3 h4 h5
  have hsl : s.length = P.length + rest.length := by rw [h1, List.length_append]
  have hat : ∀ j, j < rest.length → idxS (strU s) (.int .i64 ((P.length + j : Nat) : Int)) = some (.int .u8 ((rest.getD j 0).toNat : Int)) := fun j hj => by
    rw [a2M s .i64 (by omega)]
    conv => lhs; rw [h1]
    rw [getD_app]
  refine Safe.inLoop ?_
  match rest, h1, h2, hsl, hat, ih, h5 with
  | [], h1, h2, hsl, hat, ih, h5 =>
    have hlt : ((P.length : Int) < (s.length : Int)) = False := eq_false (by simp at hsl; omega)
    refine Safe.rg rfl ?_
    simp only [a4e, a0e, hlt, E3, a0c, a0b, a0a, a0d, seval]
    refine Safe.cd rfl ?_
    simp only [E3, a0c, a0b, a0a, a0d, seval]
    refine Safe.keep [5] ?_
    simp only [E3, a0c, a0b, a0a, a0d, seval]
    refine Safe.rg rfl ?_
    simp only [a5t, E3, a0c, a0b, a0a, a0d, seval]
    refine Safe.rt rfl ?_
    simp only [E3, a0c, a0b, a0a, a0d, seval]
    rw [b1H, hwR] at h2
    simp only [b3o, List.append_nil, Sum.inr.injEq] at h2
    rw [h5, c0V, h2]
    exact ⟨rfl, rfl⟩
  | c :: rest, h1, h2, hsl, hat, ih, h5 =>
  have hlc : (c :: rest).length = rest.length + 1 := rfl
  have hlt : ((P.length : Int) < (s.length : Int)) = True := eq_true (by omega)
  by_cases hc : c = 32
  · subst hc
    have hi := hat 0 (by omega)
    rw [Nat.add_zero, show ((32 :: rest : List UInt8).getD 0 0).toNat = 32 from rfl] at hi
    have h32 : (((32 : Nat) : Int) = 32) = True := eq_true (by omega)
    have hiw : IntKind.wrap .i64 ((P.length : Int) + 1) = ((P.length + 1 : Nat) : Int) := by rw [a0g] <;> omega
    refine Safe.rg rfl ?_
    simp only [a4e, a0e, hlt, E3, a0c, a0b, a0a, a0d, seval]
    refine Safe.cd rfl ?_
    simp only [E3, a0c, a0b, a0a, a0d, seval]
    refine Safe.rg rfl ?_
    simp only [a6T, hi, h32, E3, a0c, a0b, a0a, a0d, seval]
    refine Safe.cd rfl ?_
    simp only [E3, a0c, a0b, a0a, a0d, seval]
    refine Safe.rg rfl ?_
    simp only [b0G, hiw, E3, a0c, a0b, a0a, a0d, seval]
    refine Safe.keep [0, 5, 6] ?_
    simp only [E3, a0c, a0b, a0a, a0d, seval]
    repeat (first | refine Safe.seq ?_ | refine Safe.skip ?_ | refine Safe.inBlock ?_ | refine Safe.block ?_ | refine Safe.exit rfl ?_)
    have hn := ih (P ++ [32], ds, rest, G, xs) ⟨by rw [h1]; simp, by rw [h2, b9N, List.length_append]; rfl, by simp; omega, h4, by rw [h5, c6H]⟩ (by simp)
    simp only [List.length_append, List.length_cons, List.length_nil, Nat.zero_add] at hn
    exact hn
  · have e0 := c0T (c :: rest)
    have htp := b3p (s := rest) hc
    have hdl := a2P (s := rest) hc
    have htn := b5I (s := c :: rest)
    have hdc := a9a (c :: rest)
    rw [b4Y _ hc] at h2
    rw [c4D _ hc] at h5
    generalize a3S (c :: rest) = t at *
    generalize a7t (c :: rest) = d at *
    generalize c :: rest = r at *
    have hl0 : r.length = t.length + d.length := by rw [← e0, List.length_append]
    have hti : ∀ j, j < t.length → idxS (strU s) (.int .i64 ((P.length + j : Nat) : Int)) = some (.int .u8 (((t.getD j 0).toNat : Int))) ∧ (((t.getD j 0).toNat : Int) = 32) = False := fun j hj => by
      have hg : r.getD j 0 = t.getD j 0 := by
        rw [← e0, List.getD_eq_getElem?_getD, List.getD_eq_getElem?_getD, List.getElem?_append_left hj]
      refine ⟨by rw [hat j (by omega), hg], ?_⟩
      have hm : t.getD j 0 ∈ t := by rw [List.getD_eq_getElem?_getD, List.getElem?_eq_getElem hj]; exact List.getElem_mem _
      exact c1a _ 32 (htn _ hm)
    obtain ⟨ht0, ht1⟩ := hti 0 htp
    rw [Nat.add_zero] at ht0
    cases htv : tokV t with
    | none =>
      rw [htv, hwR] at h2
      cases h2
    | some z =>
    rw [htv] at h2
    refine Safe.rg rfl ?_
    simp only [a4e, a0e, hlt, E3, a0c, a0b, a0a, a0d, seval]
    refine Safe.cd rfl ?_
    simp only [E3, a0c, a0b, a0a, a0d, seval]
    refine Safe.rg rfl ?_
    simp only [a6T, ht0, ht1, E3, a0c, a0b, a0a, a0d, seval]
    refine Safe.cd rfl ?_
    simp only [E3, a0c, a0b, a0a, a0d, seval]
    refine Safe.rg rfl ?_
    simp only [b0F, E3, a0c, a0b, a0a, a0d, seval]
    refine Safe.lp rfl ?_
    refine Safe.keep [0, 5, 6, 7] ?_
    simp only [E3, a0c, a0b, a0a, a0d, seval]
    refine Safe.loopN t.length (fun j => [(0, strU s), (5, .mu (lid H 0) 0 ds.length none), (6, .int .i64 P.length), (7, .int .i64 ((P.length + j : Nat) : Int))]) (fun _ => G) rfl rfl (fun j hj ih2 => ?_) ?_
    · obtain ⟨g1, g2⟩ := hti j hj
      have hltj : (((P.length + j : Nat) : Int) < (s.length : Int)) = True := eq_true (by omega)
      have hiw : IntKind.wrap .i64 (((P.length + j : Nat) : Int) + 1) = ((P.length + (j + 1) : Nat) : Int) := by rw [a0g] <;> omega
      refine Safe.inLoop ?_
      refine Safe.rg rfl ?_
      simp only [a4d, a0e, hltj, g1, g2, E3, a0c, a0b, a0a, a0d, seval]
      refine Safe.cd rfl ?_
      simp only [E3, a0c, a0b, a0a, a0d, seval]
      refine Safe.rg rfl ?_
      simp only [b0E, hiw, E3, a0c, a0b, a0a, a0d, seval]
      refine Safe.keep [0, 5, 6, 7] ?_
      simp only [E3, a0c, a0b, a0a, a0d, seval]
      repeat (first | refine Safe.seq ?_ | refine Safe.skip ?_ | refine Safe.inBlock ?_ | refine Safe.block ?_ | refine Safe.exit rfl ?_)
      exact ih2
    · have hrest : Safe ⟨Pr, fun _ k => (k == 2), a0D, 56, [.tmp 4], H.length⟩ [.code (.region a6S false), .code (.seq (.seq (.region a5w false) (.cond (.t 44) (.raw 11 (a0R Tryd.f20 11) false) (.skip))) (.seq (.region a5v false) (.region a5u false))), .inBlock 1, .inLoop b0K, .inBlock 0, .code (.seq (.region a5t false) (.ret))]
          [(0, strU s), (5, .mu (lid H 0) 0 ds.length none), (6, .int .i64 P.length), (7, .int .i64 ((P.length + t.length : Nat) : Int))] G fun r' H' => r' = .mu (lid H 0) 0 zs.length none ∧ H' = (wF (lid H 0) s (hap H [some ⟨2, []⟩]) []).1 := by
        have hsc := b3B s P.length (P.length + t.length) (by omega) (by omega)
        have htk : (s.drop P.length).take (P.length + t.length - P.length) = t := by
          rw [h1, ← e0, List.drop_left', Nat.add_sub_cancel_left, List.take_left']
          · rfl
          · rfl
        rw [htk] at hsc
        have hstep := h4.step hH (t := t) (by omega) htv
        have hn := ih (P ++ t, ds ++ [z], d, _, _) ⟨by rw [h1, ← e0, List.append_assoc], by rw [h2, List.length_append, ← Nat.add_assoc]; exact (b3n _ _ _).symm, by simp; omega, hstep.1, h5⟩ (by simp only; omega)
        have hsp := b9g (h4.gw.refs hH) (t := t) (by omega) htv
        obtain ⟨hcall, hT, hO⟩ := hsp
        have hT := hT z htv
        obtain ⟨_, hF2, hrr⟩ := hstep
        simp only [List.length_append, List.length_cons, List.length_nil, Nat.zero_add, stG] at hn
        clear h5 ih
        generalize zrS G t = p at *
        obtain ⟨x, L⟩ := p
        simp only at hcall hT hO hn hF2 hrr
        have hb3 : (hap (hap G L) [some ⟨2, [x]⟩, some ⟨2, [x]⟩])[lid H 0]? = some (some ⟨2, xs⟩) := a3C (a3C h4.row)
        have hl3 : (hap (hap G L) [some ⟨2, [x]⟩, some ⟨2, [x]⟩])[lid (hap G L) 1]? = some (some ⟨2, [x]⟩) := c3G (hap G L) [some ⟨2, [x]⟩] (some ⟨2, [x]⟩)
        have hxl : xs.length = ds.length := by rw [h4.els.1, List.length_map]
        have happ := fun env => c4y (bytes := 32) (env := env) (n0 := H.length) hb3 hxl (a7Z H 0) hl3 hF2 h4.ref hrr (by omega) (by omega)
        obtain ⟨hfit, hcel⟩ := hT.t.fit
        obtain ⟨m, rfl, _⟩ := hT
        refine Safe.rg rfl ?_
        simp only [a6S, hsc, E3, a0c, a0b, a0a, a0d, seval]
        refine hcall.mono ?_
        rintro r' H' ⟨rfl, rfl⟩
        generalize hap G L = G1 at *
        rw [← a4L G1]
        simp only [E3, a0c, a0b, a0a, a0d, seval]
        refine Safe.rg rfl ?_
        simp only [a5w, E3, a0c, a0b, a0a, a0d, seval]
        refine Safe.cd rfl ?_
        simp only [E3, a0c, a0b, a0a, a0d, seval]
        refine Safe.rg rfl ?_
        simp only [a5v, E3, a0c, a0b, a0a, a0d, seval]
        rw [happ]
        simp only [E3, a0c, a0b, a0a, a0d, seval]
        refine Safe.rg rfl ?_
        simp only [a5u, E3, a0c, a0b, a0a, a0d, seval]
        refine Safe.keep [0, 5, 6] ?_
        simp only [ES, E3, a0c, a0b, a0a, a0d, seval]
        repeat (first | refine Safe.seq ?_ | refine Safe.skip ?_ | refine Safe.inBlock ?_ | refine Safe.block ?_ | refine Safe.exit rfl ?_)
        exact hn
      refine Safe.inLoop ?_
      rcases hdc with hd | ⟨d', hd⟩
      · have hltj : (((P.length + t.length : Nat) : Int) < (s.length : Int)) = False := eq_false (by rw [hd] at hl0; simp at hl0; omega)
        refine Safe.rg rfl ?_
        simp only [a4d, a0e, hltj, E3, a0c, a0b, a0a, a0d, seval]
        refine Safe.cd rfl ?_
        simp only [E3, a0c, a0b, a0a, a0d, seval]
        refine Safe.keep [0, 5, 6, 7] ?_
        simp only [E3, a0c, a0b, a0a, a0d, seval]
        repeat (first | refine Safe.seq ?_ | refine Safe.skip ?_ | refine Safe.inBlock ?_ | refine Safe.block ?_ | refine Safe.exit rfl ?_)
        exact hrest
      · have hltj : (((P.length + t.length : Nat) : Int) < (s.length : Int)) = True := eq_true (by rw [hd] at hl0; simp at hl0; omega)
        have hi := hat t.length (by rw [hd] at hl0; simp at hl0; omega)
        have hg : (r.getD t.length 0).toNat = 32 := by
          rw [← e0, hd]
          have := getD_app t (32 :: d') 0
          rw [Nat.add_zero] at this
          rw [this]; rfl
        rw [hg] at hi
        have h32 : (((32 : Nat) : Int) = 32) = True := eq_true (by omega)
        refine Safe.rg rfl ?_
        simp only [a4d, a0e, hltj, hi, h32, E3, a0c, a0b, a0a, a0d, seval]
        refine Safe.cd rfl ?_
        simp only [E3, a0c, a0b, a0a, a0d, seval]
        refine Safe.keep [0, 5, 6, 7] ?_
        simp only [E3, a0c, a0b, a0a, a0d, seval]
        repeat (first | refine Safe.seq ?_ | refine Safe.skip ?_ | refine Safe.inBlock ?_ | refine Safe.block ?_ | refine Safe.exit rfl ?_)
        exact hrest
end Go.Abs
namespace Go.Abs
open Go.Proofs Go.RowKit Go.Shelf
theorem OpC.pureV {P : Program} {f : FuncId} {args : List AV} {l : List ZI} (h : OpC P f args fun n A a => VecF n A a l) (hH : ∀ H : Heap, (∃ φ w, HOk ⟨φ, H, w⟩) ∨ True := fun _ => .inr trivial) : ∀ H, a0r H → ACalls P f args H fun r' H' => r' = vecV l ∧ H' = H := by
  intro H hR
  obtain ⟨r, L, h1, hT, hO⟩ := h H hR
  refine ⟨h1.1, fun φ w vs hok hl hrep => (h1.2 φ w vs hok hl hrep).mono ?_⟩
  rintro e w' ⟨v, r', φ', H', rfl, ⟨rfl, rfl⟩, q1, q2, q3, q4⟩
  have hfree : ∀ (j : Nat) bj, j < H.length → (hap H L)[j]? = some (some bj) → ∀ a ∈ bj.flat, Ref (· < H.length) a := by
    intro j bj hj hb
    simp only [hap] at hb
    rw [List.getElem?_append_left hj] at hb
    exact hok.refs hb
  have hcut := HOk.cut q1 H.length hfree
  have ht : (hap H L).take H.length = H := by simp [hap]
  simp only [ht] at hcut
  have hK : Shut H.length (hap H L) H := fun id b hb => ⟨a0f hb, b, a3C hb⟩
  exact ⟨v, vecV l, φ', H, rfl, ⟨rfl, rfl⟩, hcut.1, hT.shutV q1 hK q2, Nat.le_refl _, q4.trans hcut.2⟩
/-- A contract over heaps that name their own rows is one over all. -/
theorem a0o.of_refs {P : Program} {f : FuncId} {args : List AV} {r : AV} (hc : a8F P f) (h : ∀ H, a0r H → ACalls P f args H fun r' H' => r' = r ∧ H' = H) : a0o P f args r := fun H =>
  ⟨hc, fun φ w vs hok hl hrep => (h H hok.hrefs).2 φ w vs hok hl hrep⟩
theorem b4I : a8F Pr a0D := ⟨_, Tryd.func20, by decide +kernel, by kernel_rfl⟩
theorem b9k {s : List UInt8} {k : Nat} {zs : List Int} (hw : wd k s = .inr zs) (hl : s.length ≤ 65536) : a0o Pr a0D [strU s, .int .i64 k] (vecV (zs.map canZ)) :=
  a0o.of_refs b4I (OpC.pureV (b3l s k zs hw hl))
theorem c3S (v : Value) (w : World) : (Instr.typeAssert (.iface 72 v) 20 72 false).run Pr w = .ok v w := by kernel_rfl
theorem c2g (n : Int) (w : World) : (Instr.field 72 (.agg #[.int .i64 n]) 0).run Pr w = .ok (.int .i64 n) w := by kernel_rfl
set_option maxRecDepth 100000 in
theorem b7X {tmps : Array Value} {p q : Addr} {n : Int} {w : World} {cs : List Frame} {Q : Exit → Act → List Frame → World → Prop} (hsz : tmps.size = 9) (t0 : tmps[0]'(by omega) = .pointer (some p)) (t1 : tmps[1]'(by omega) = .pointer (some q)) (t2 : tmps[2]'(by omega) = .iface 72 (.agg #[.int .i64 n]))
    {v1 v2 : Value} (c1 : w.cell? p = some v1) (c2 : (w.setCell p (.int .i64 n)).cell? q = some v2) (f1 : w.frozen? p = false) (f2 : (w.setCell p (.int .i64 n)).frozen? q = false) (hQ : ∀ tmps', Q .normal ⟨tmps', []⟩ cs ((w.setCell p (.int .i64 n)).setCell q (.int .i64 4))) :
    (Code.region 2 #[⟨some 6, .move (.tmp 2), 20, "mat.go:249", #[], none⟩, ⟨some 7, .typeAssert (.tmp 6) 20 72 false, 72, "mat.go:249", #[⟨0, .data⟩], none⟩,
    ⟨some 8, .field 72 (.tmp 7) 0, 3, "mat.go:249", #[⟨1, .data⟩], none⟩, ⟨none, .store 3 (.tmp 0) (.tmp 8), 0, "mat.go:249", #[⟨2, .data⟩, ⟨0, .phase⟩, ⟨1, .phase⟩, ⟨2, .phase⟩], none⟩,
    ⟨none, .store 23 (.tmp 1) (.const (.int .i64 4)), 0, "mat.go:249", #[⟨3, .chain⟩, ⟨0, .phase⟩, ⟨1, .phase⟩, ⟨2, .phase⟩, ⟨3, .phase⟩], none⟩] false).wpS Pr Q ⟨tmps, []⟩ cs w := by
  refine wpS_region ?_
  simp [wpOpsS, Oper.wp, Act.eval, Act.put, go_sem, c3S, c2g, t0, t1, t2, hsz, f1, f2, c1, c2, Array.getElem?_setIfInBounds]
  exact hQ _
set_option maxRecDepth 100000 in
theorem b8Z {p q : Addr} {n : Int} {w : World} {v1 v2 : Value} (c1 : w.cell? p = some v1) (c2 : (w.setCell p (.int .i64 n)).cell? q = some v2) (f1 : w.frozen? p = false) (f2 : (w.setCell p (.int .i64 n)).frozen? q = false) :
    CallsD Pr 41 #[.pointer (some p), .pointer (some q)] (.panicking [{ v := .iface 72 (.agg #[.int .i64 n]), recovered := false }]) w fun e u' w' => e = .returned (.tuple #[]) ∧ u' = .panicking [{ v := .iface 72 (.agg #[.int .i64 n]), recovered := true }] ∧ w' = (w.setCell p (.int .i64 n)).setCell q (.int .i64 4) := by
  refine callsD_of_wpS Tryd.func41 rfl fun c₀ cs hu => ?_
  refine wpS_seq ?_
  refine wpS_region ?_
  simp [wpOpsS, go_sem, recoverD, hu, Tryd.ntmps41, Exit.thenS]
  refine wpS_seq ?_
  refine wpS_region ?_
  simp [wpOpsS, go_sem, Exit.thenS]
  refine wpS_cond (t := true) (by simp [Act.eval, Array.replicate]) ?_
  rw [if_pos rfl]
  refine b7X (n := n) (p := p) (q := q) (by simp) (by simp) (by simp) (by simp) c1 c2 f1 f2 fun tmps' => ?_
  simp [bodyPostS, results, Tryd.results41]
theorem a6D (w : World) (b : Nat) (v : Value) (k : Nat) (h : k ≠ b) : (w.setCell ⟨b, 0, none⟩ v).heap[k]? = w.heap[k]? := by
  unfold World.setCell
  simp only [Array.getElem?_modify]
  rw [if_neg (fun e => h e.symm)]
theorem a7B (w : World) (b : Nat) (v : Value) {c : Array Value} {e : TypeId} {f : Nat × Nat} (h : w.heap[b]? = some (.cells c e f)) : (w.setCell ⟨b, 0, none⟩ v).heap[b]? = some (.cells (c.setIfInBounds 0 v) e f) := by
  unfold World.setCell
  simp only [Array.getElem?_modify, if_true, h, Option.map_some, Option.isSome_none, Bool.false_eq_true, if_false]
  try rfl
set_option maxRecDepth 100000 in
theorem b2S (f : FuncId) (caps : Array Value) (w : World) (he : ∀ args w, (callFunc f args).run Pr w = .ok (.enter f args) w) (n : Int) (Q : World → Prop)
    (hdo : Calls Pr f caps ((w.alloc (Obj.cells #[Value.int IntKind.i64 0] 3)).alloc (Obj.cells #[Value.int IntKind.i64 0] 23)) fun e w2 => e = .panicked [{ v := .iface 72 (.agg #[.int .i64 n]), recovered := false }] ∧ Q w2)
    (hQ : ∀ w2, Q w2 → ∃ c1 e1 c2 e2, w2.heap[w.heap.size]? = some (.cells c1 e1 (0, 0)) ∧ 0 < c1.size ∧ w2.heap[w.heap.size + 1]? = some (.cells c2 e2 (0, 0)) ∧ 0 < c2.size) :
    Calls Pr a1B #[.func (.func f) #[] caps] w fun e w' => e = .returned (.tuple #[.int .i64 n, .int .i64 4]) ∧ ∃ w2, Q w2 ∧ w' = (w2.setCell ⟨w.heap.size, 0, none⟩ (.int .i64 n)).setCell ⟨w.heap.size + 1, 0, none⟩ (.int .i64 4) := by
  have hmf : ∀ (fn : Fn) (first cap : Array Value) (w : World), (Instr.makeFunc fn first cap).run Pr w = .ok (.func fn first cap) w := fun _ _ _ _ => rfl
  go_enter_defers Tryd.func17, Tryd.ntmps17
  go_wp2_with (go_at_fn f; refine hdo.mono ?_; rintro e w2 ⟨rfl, hq⟩; obtain ⟨c1, e1, c2, e2, g1, s1, g2, s2⟩ := hQ _ hq)
  have q1 : w2.cell? ⟨w.heap.size, 0, none⟩ = some c1[0] := by simp [World.cell?, g1, s1]
  have q2 : (w2.setCell ⟨w.heap.size, 0, none⟩ (.int .i64 n)).heap[w.heap.size + 1]? = some (.cells c2 e2 (0, 0)) := by rw [a6D _ _ _ _ (by omega)]; exact g2
  have q3 : (w2.setCell ⟨w.heap.size, 0, none⟩ (.int .i64 n)).cell? ⟨w.heap.size + 1, 0, none⟩ = some c2[0] := by simp [World.cell?, q2, s2]
  have q4 : w2.frozen? ⟨w.heap.size, 0, none⟩ = false := by simp [World.frozen?, g1]
  have q5 : (w2.setCell ⟨w.heap.size, 0, none⟩ (.int .i64 n)).frozen? ⟨w.heap.size + 1, 0, none⟩ = false := by simp [World.frozen?, q2]
  have r1 : ((w2.setCell ⟨w.heap.size, 0, none⟩ (.int .i64 n)).setCell ⟨w.heap.size + 1, 0, none⟩ (.int .i64 4)).cell? ⟨w.heap.size, 0, none⟩ = some (.int .i64 n) := by
    have h := (a6D (w2.setCell ⟨w.heap.size, 0, none⟩ (.int .i64 n)) (w.heap.size + 1) (.int .i64 4) w.heap.size (by omega)).trans (a7B w2 _ (.int .i64 n) g1)
    simp [World.cell?, h, s1]
  have r2 : ((w2.setCell ⟨w.heap.size, 0, none⟩ (.int .i64 n)).setCell ⟨w.heap.size + 1, 0, none⟩ (.int .i64 4)).cell? ⟨w.heap.size + 1, 0, none⟩ = some (.int .i64 4) := by
    have h := a7B (w2.setCell ⟨w.heap.size, 0, none⟩ (.int .i64 n)) _ (.int .i64 4) q2
    simp [World.cell?, h, s2]
  refine leaves_cons (f := 41) (args := #[.pointer (some ⟨w.heap.size, 0, none⟩), .pointer (some ⟨w.heap.size + 1, 0, none⟩)]) (by simp) (by simp [go_sem]) ?_
  refine (b8Z q1 q3 q4 q5).mono ?_
  rintro e u' w'' ⟨rfl, rfl, rfl⟩
  simp [Leaves, settle, results, Tryd.results17, go_sem, r1, r2]
  exact ⟨_, hq, rfl⟩
theorem b8m {w : World} {b : Nat} {v : Value} {c : Array Value} {e : TypeId} {f : Nat × Nat} (h : w.heap[b]? = some (.cells c e f)) : w.setRow b (c.setIfInBounds 0 v) = w.setCell ⟨b, 0, none⟩ v := by
  have hh : (w.setRow b (c.setIfInBounds 0 v)).heap = (w.setCell ⟨b, 0, none⟩ v).heap := by
    apply Array.ext_getElem?
    intro k
    by_cases hk : k = b
    · subst hk
      rw [a4w _ _ _ _ _ _ h, a7B _ _ _ h]
    · rw [a5a _ _ _ _ hk, a6D _ _ _ _ hk]
  unfold World.setRow World.setCell at *
  exact congrArg (fun h => { w with heap := h }) hh
theorem b9r {φ : Nat → Option Nat} {H : Heap} {w : World} (hok : HOk ⟨φ, H, w⟩) {id b : Nat} {k : IntKind} {x : Int} (hl : H[id]? = some (some ⟨1, [.int k x]⟩)) (hb : φ id = some b) (n : Int) :
    HOk ⟨φ, H.set id (some ⟨1, [.int k n]⟩), w.setCell ⟨b, 0, none⟩ (.int k n)⟩ ∧ Ext (· < H.length) ⟨φ, H, w⟩ ⟨φ, H.set id (some ⟨1, [.int k n]⟩), w.setCell ⟨b, 0, none⟩ (.int k n)⟩ := by
  obtain ⟨c, e, r⟩ := hok.row id _ b hl hb
  have hs : 0 < c.size := by have := r.fits; simp [Blk.flat, AV.cells] at this; omega
  rw [← b8m (v := .int k n) (r.heap (Nat.zero_lt_succ _))]
  refine HOk.write (E := ⟨φ, H, w⟩) hok hl hb (Nat.zero_lt_succ _) r (c.setIfInBounds 0 (.int k n)) [.int k n] (by simp) (by simp [AV.cells]) (by simp [AV.cells]; omega) fun j v a hv ha => ?_
  match j with
  | 0 =>
    simp [AV.cells] at ha
    subst ha
    rw [Array.getElem?_setIfInBounds, if_pos rfl, if_pos hs] at hv
    cases hv
    exact ⟨rfl, .int _ _⟩
  | j + 1 => simp [AV.cells] at ha
theorem c1q {E : Emb} (hok : HOk E) {id b : Nat} (h : E.H[id]? = some row0) (hp : E.φ id = some b) : ∃ c e, E.w.heap[b]? = some (.cells c e (0, 0)) ∧ 0 < c.size := by
  obtain ⟨c, e, h1, h2⟩ := a7D hok h hp
  exact ⟨c, e, h1, (Array.getElem?_eq_some_iff.1 h2).1⟩
theorem b5E (f : FuncId) (caps : List AV) (H : Heap) (n : Nat) (R : Heap → Prop) (he : ∀ args w, (callFunc f args).run Pr w = .ok (.enter f args) w)
    (hdo : Pan.ACalls Pr f caps (hap H [row0, row0]) fun r' H' => r' = .lit (pval n) ∧ ∃ G M, H' = hap G ([row0, row0] ++ M) ∧ G.length = H.length ∧ a0r G ∧ R G) : ACalls Pr a1B [.fn f caps] H fun r' H' => r' = .tup [.int .i64 n, .int .i64 4] ∧ H'.length = H.length ∧ R H' := by
  refine ⟨⟨_, Tryd.func17, by decide +kernel, by kernel_rfl⟩, fun φ w vs hok hl hrep => ?_⟩
  match vs, hl with
  | [v], _ =>
    have hv := hrep 0 v _ rfl rfl
    cases hv with
    | dead v a id hr hd h1 => simp [AV.ref] at hr
    | fn _ vs _ hlen hcap =>
      obtain ⟨φ1, k1, x1, p1⟩ := a8x hok 3
      obtain ⟨φ2, k2, x2, p2⟩ := a8x k1 23
      have hH2 : H ++ [row0] ++ [row0] = hap H [row0, row0] := by simp [hap]
      have hl1 : (H ++ [row0]).length = H.length + 1 := by simp
      have hl2 : (H ++ [row0] ++ [row0]).length = H.length + 2 := by simp
      have hs1 : (w.alloc (.cells #[Value.int IntKind.i64 0] 3)).heap.size = w.heap.size + 1 := by simp
      have x12 : Ext (· < H.length) ⟨φ, H, w⟩ ⟨φ2, H ++ [row0] ++ [row0], (w.alloc (.cells #[Value.int IntKind.i64 0] 3)).alloc (.cells #[Value.int IntKind.i64 0] 23)⟩ := x1.trans (x2.sub fun i hi => by rw [hl1]; have : i < H.length := hi; show i < _; omega)
      have q1 : φ2 H.length = some w.heap.size := by
        have := x2.phi H.length (by rw [hl1]; show _ < _; omega) (by rw [hl1]; show _ < _; omega)
        exact this.trans p1
      have q2 : φ2 (H.length + 1) = some (w.heap.size + 1) := by rw [hl1, hs1] at p2; exact p2
      rw [hH2] at k2 x12 hl2
      have hcall := hdo.2 φ2 _ vs k2 hlen fun k v a hk ha => (hcap k v a hk ha).mono' x12
      refine (b2S f vs.toArray w he n (fun w2 => ∃ φ3 G M, HOk ⟨φ3, hap G ([row0, row0] ++ M), w2⟩ ∧ G.length = H.length ∧ a0r G ∧ R G ∧ Ext (· < (hap H [row0, row0]).length) ⟨φ2, hap H [row0, row0], (w.alloc (.cells #[Value.int IntKind.i64 0] 3)).alloc (.cells #[Value.int IntKind.i64 0] 23)⟩ ⟨φ3, hap G ([row0, row0] ++ M), w2⟩) (hcall.mono ?_) ?_).mono ?_
      · rintro e w2 ⟨v, r, φ3, H3, rfl, ⟨rfl, G, M, rfl, g1, g2, g3⟩, g4, g5, g6, g7⟩
        refine ⟨?_, φ3, G, M, g4, g1, g2, g3, g7⟩
        cases g5 with
        | lit => rfl
        | dead _ _ i hr hd h1 => simp [AV.ref] at hr
      · rintro w2 ⟨φ3, G, M, g4, g1, g2, g3, g7⟩
        have e1 : φ3 H.length = some w.heap.size := (g7.phi H.length (by rw [hl2]; show _ < _; omega) (by rw [hl2]; show _ < _; omega)).trans q1
        have e2 : φ3 (H.length + 1) = some (w.heap.size + 1) := (g7.phi (H.length + 1) (by rw [hl2]; show _ < _; omega) (by rw [hl2]; show _ < _; omega)).trans q2
        obtain ⟨c1, t1, a1, b1⟩ := c1q (E := ⟨φ3, hap G ([row0, row0] ++ M), w2⟩) g4 (id := H.length) (by simp [hap, ← g1]) e1
        obtain ⟨c2, t2, a2, b2⟩ := c1q (E := ⟨φ3, hap G ([row0, row0] ++ M), w2⟩) g4 (id := H.length + 1) (by simp [hap, ← g1]) e2
        exact ⟨c1, t1, c2, t2, a1, b1, a2, b2⟩
      · rintro e w' ⟨rfl, w2, ⟨φ3, G, M, g4, g1, g2, g3, g7⟩, rfl⟩
        have e1 : φ3 H.length = some w.heap.size := (g7.phi H.length (by rw [hl2]; show _ < _; omega) (by rw [hl2]; show _ < _; omega)).trans q1
        have e2 : φ3 (H.length + 1) = some (w.heap.size + 1) := (g7.phi (H.length + 1) (by rw [hl2]; show _ < _; omega) (by rw [hl2]; show _ < _; omega)).trans q2
        obtain ⟨k3, x3⟩ := b9r g4 (id := H.length) (k := .i64) (x := 0) (by simp [hap, ← g1, row0]) e1 n
        have hrow1 : ((hap G ([row0, row0] ++ M)).set H.length (some ⟨1, [.int .i64 n]⟩))[H.length + 1]? = some (some ⟨1, [.int .i64 0]⟩) := by
          rw [List.getElem?_set, if_neg (by omega)]
          simp [hap, ← g1, row0]
        obtain ⟨k4, x4⟩ := b9r k3 (id := H.length + 1) (k := .i64) (x := 0) hrow1 e2 4
        have htk : (((hap G ([row0, row0] ++ M)).set H.length (some ⟨1, [.int .i64 n]⟩)).set (H.length + 1) (some ⟨1, [.int .i64 4]⟩)).take H.length = G := by
          rw [List.take_set_of_le (by omega), List.take_set_of_le (by omega)]
          simp [hap, ← g1]
        have hfree : ∀ (j : Nat) bj, j < H.length → (((hap G ([row0, row0] ++ M)).set H.length (some ⟨1, [.int .i64 n]⟩)).set (H.length + 1) (some ⟨1, [.int .i64 4]⟩))[j]? = some (some bj) → ∀ a ∈ bj.flat, Ref (· < H.length) a := by
          intro j bj hj hb
          rw [List.getElem?_set, if_neg (by omega), List.getElem?_set, if_neg (by omega)] at hb
          simp only [hap] at hb
          rw [List.getElem?_append_left (by omega)] at hb
          have := g2 j bj hb
          rwa [g1] at this
        have hcut := HOk.cut (E := ⟨φ3, _, _⟩) k4 H.length hfree
        simp only [htk] at hcut
        have hlen3 : (hap G ([row0, row0] ++ M)).length = H.length + 2 + M.length := by simp [hap, g1]; omega
        refine ⟨_, .tup [.int .i64 n, .int .i64 4], φ3, G, rfl, ⟨rfl, g1, g3⟩, hcut.1, ?_, by omega, ?_⟩
        · exact .tup [.int .i64 n, .int .i64 4] _ rfl fun k v a hk ha => by
            match k with
            | 0 => cases hk; cases ha; exact .int _ _
            | 1 => cases hk; cases ha; exact .int _ _
            | k + 2 => simp at hk
        · refine (x12.trans (g7.sub fun i hi => by rw [hl2]; have : i < H.length := hi; show i < _; omega)).trans ((x3.sub fun i hi => by rw [hlen3]; have : i < H.length := hi; show i < _; omega).trans ((x4.sub fun i hi => by rw [List.length_set, hlen3]; have : i < H.length := hi; show i < _; omega).trans hcut.2))
end Go.Abs
namespace Go.Abs
open Go.Proofs Go.RowKit Go.Shelf
theorem c6N (H : Heap) (hH : a0r H) (s : List UInt8) (hl : s.length ≤ 65536) {zs : List Int} (hw : wd 0 s = .inr zs) :
    ACalls Pr a0t [.loc (lid H 0) 0 0, .loc (lid H 1) 0 0] (hap (rdB H s .nil) [row0, row0]) fun r' H' => r' = .tup [] ∧ ∃ G M, H' = hap G ([row0, row0] ++ M) ∧ G.length = (rdB H s .nil).length ∧ a0r G ∧ G = rdB H s (vecV (zs.map canZ)) := by
  have hwo := b9k hw hl
  simp only [Int.natCast_zero] at hwo
  have hcb : clb (vecV (zs.map canZ)) = true := b6C.2 (a0I _)
  refine ACalls.open a4H a4G (Nat.le_of_ble_eq_true rfl) fun hH2 => ?_
  unfold rdB row0
  simp only [b0O, List.cons_append, List.nil_append, List.append_nil]
  refine Safe.rg rfl ?_
  simp only [a4F, ES, E3, seval]
  first | refine (hwo).acall ?_ | refine (hwo).dcall ?_ | refine (hwo).dgcall ?_
  try simp only [E3, seval]
  refine Safe.stl 5 _ (Safe.donen ?_)
  simp only [E3, seval]
  exact ⟨hap H [some ⟨1, [strU s]⟩, some ⟨1, [vecV (zs.map canZ)]⟩], [], by simp [hap], by simp [hap, lid], b6v hH (RC.one (a1n _) (RC.one (a0I _) RC.nil)), rfl⟩
namespace Pan
theorem rv1_pan (H : Heap) (hH : a0r H) (s : List UInt8) (hl : s.length ≤ 65536) {e : Nat} (hw : wd 0 s = .inl e) :
    ACalls Pr a0t [.loc (lid H 0) 0 0, .loc (lid H 1) 0 0] (hap (rdB H s .nil) [row0, row0]) fun r' H' => r' = .lit (pval e) ∧ ∃ G M, H' = hap G ([row0, row0] ++ M) ∧ G.length = (rdB H s .nil).length ∧ a0r G ∧ G = rdB H s .nil := by
  have hwo := b6L s 0 e hw hl (by decide)
  simp only [Int.natCast_zero] at hwo
  refine ACalls.open a4H a4G (Nat.le_of_ble_eq_true rfl) fun hH2 => ?_
  unfold rdB row0
  simp only [b0O, List.cons_append, List.nil_append, List.append_nil]
  refine Safe.rgP [⟨some 2, none, .p (.load none (.t 0))⟩] [⟨none, none, .e (.store 1 (.t 1) (.t 3))⟩] rfl rfl ?_
  simp only [ES, E3, seval]
  refine ACalls.mono (hwo _) ?_
  rintro r' H' ⟨rfl, rfl⟩
  exact ⟨rfl, hap H [some ⟨1, [strU s]⟩, some ⟨1, [.nil]⟩], [], by simp [hap], by simp [hap, lid], b6v hH (RC.one (a1n _) (RC.one .nil RC.nil)), rfl⟩
end Pan
theorem b3K (s : List UInt8) : a0o Pr a3E [strU s] (rvA (rvO s)) := by
  have hent : ∀ args w, (callFunc a0t args).run Pr w = .ok (.enter a0t args) w := enters_of Tryd.func23 (by kernel_rfl) rfl
  refine a0o.introL b1j b1i (Nat.le_of_ble_eq_true rfl) (c4H _) fun H hH => ?_
  refine Safe.rg rfl ?_
  simp only [a5W, E3, seval]
  by_cases hl : 65536 < s.length
  · have hbig : ((s.length : Int) > 65536) = True := eq_true (by omega)
    refine Safe.rg rfl ?_
    simp only [a2z, ES, a0e, hbig, E3, seval]
    refine Safe.cd rfl ?_
    simp only [E3, seval]
    refine Safe.rg rfl ?_
    simp only [a5V, E3, seval]
    refine Safe.rt rfl ?_
    simp only [one3, E3, seval]
    rw [rvO, if_pos hl]
    exact ⟨Le.tup3 (Le.nil 2 (by decide)) (Le.refl _) (Le.refl _), _, rfl⟩
  · have hbig : ((s.length : Int) > 65536) = False := eq_false (by omega)
    rw [rvO, if_neg hl]
    refine Safe.rg rfl ?_
    simp only [a2z, ES, a0e, hbig, E3, seval]
    refine Safe.cd rfl ?_
    simp only [E3, seval]
    refine Safe.rg rfl ?_
    simp only [a5U, E3, seval]
    cases hw : wd 0 s with
    | inl e =>
      have hca := b5E a0t [.loc (lid H 0) 0 0, .loc (lid H 1) 0 0] (rdB H s .nil) e (fun G => G = rdB H s .nil) hent (Pan.rv1_pan H hH s (by omega) hw)
      unfold rdB at hca
      refine Safe.rg rfl ?_
      simp only [a2y, E3, seval]
      refine hca.mono ?_
      rintro r' H' ⟨rfl, _, rfl⟩
      simp only [E3, seval]
      refine Safe.rg rfl ?_
      simp only [a2x, E3, seval]
      refine Safe.cd rfl ?_
      simp only [E3, seval]
      refine Safe.rg rfl ?_
      simp only [a5T, E3, seval]
      refine Safe.rt rfl ?_
      simp only [one3, E3, seval]
      exact ⟨Le.tup3 (Le.nil 2 (by decide)) (Le.refl _) (Le.refl _), _, rfl⟩
    | inr zs =>
      have hca := b7W a0t [.loc (lid H 0) 0 0, .loc (lid H 1) 0 0] (rdB H s .nil) (fun G => G = rdB H s (vecV (zs.map canZ))) hent (c6N H hH s (by omega) hw)
      unfold rdB at hca
      refine Safe.rg rfl ?_
      simp only [a2y, E3, seval]
      refine hca.mono ?_
      rintro r' H' ⟨rfl, _, rfl⟩
      simp only [E3, seval]
      refine Safe.rg rfl ?_
      simp only [a2x, E3, seval]
      refine Safe.cd rfl ?_
      simp only [E3, seval]
      refine Safe.rg rfl ?_
      simp only [a5S, E3, seval]
      refine Safe.rt rfl ?_
      simp only [one3, E3, seval]
      exact ⟨Le.refl _, _, rfl⟩
end Go.Abs
namespace Go.Abs
open Go.Proofs Go.RowKit Go.Shelf
/-- The closure's four boxes, and the rows behind them. -/
def rZ (H : Heap) (s : List UInt8) (bv : AV) (M : Heap) : Heap := hap H (some ⟨1, [strU s]⟩ :: some ⟨1, [bv]⟩ :: row0 :: row0 :: M)
theorem b5f (H : Heap) (s : List UInt8) (bv : AV) (M : Heap) : (rZ H s bv M).length = H.length + 4 + M.length := by simp [rZ, hap]; omega
theorem c4K {H : Heap} {s : List UInt8} {bv bv' : AV} {M : Heap} {id : Nat} (h : H.length + 4 ≤ id) : (rZ H s bv M)[id]? = (rZ H s bv' M)[id]? := by
  unfold rZ hap
  rw [List.getElem?_append_right (by omega), List.getElem?_append_right (by omega)]
  obtain ⟨j, hj⟩ : ∃ j, id - H.length = j + 4 := ⟨id - H.length - 4, by omega⟩
  rw [hj]; rfl
theorem c1t {H : Heap} {s : List UInt8} {bv : AV} {M : Heap} (o : Nat) : (rZ H s bv M)[lid H (4 + o)]? = M[o]? := by
  unfold rZ hap lid
  rw [List.getElem?_append_right (by omega)]
  have : H.length + (4 + o) - H.length = o + 4 := by omega
  rw [this]; rfl
section
variable {n0 : Nat} {A B : Heap}
theorem NatF.move (hg : ∀ id, n0 ≤ id → A[id]? = B[id]?) {a : AV} {m : List Nat} (h : NatF n0 A a m) : NatF n0 B a m := by
  rcases h with h | ⟨id, e, h0, h1, h2⟩
  · exact .inl h
  · exact .inr ⟨id, e, h0, by rw [← hg id h0]; exact h1, h2⟩
theorem IntF.move (hg : ∀ id, n0 ≤ id → A[id]? = B[id]?) {a : AV} {x : ZI} (h : IntF n0 A a x) : IntF n0 B a x := by
  obtain ⟨m, e, hm⟩ := h
  exact ⟨m, e, hm.move hg⟩
theorem RowF.move {α : Type} {T : Nat → Heap → AV → α → Prop} {wd : Nat} (hT : ∀ {a x}, T n0 A a x → T n0 B a x) (hg : ∀ id, n0 ≤ id → A[id]? = B[id]?) {a : AV} {v : List α} (h : RowF T wd n0 A a v) : RowF T wd n0 B a v := by
  rcases h with h | ⟨id, oc, xs, e, h0, h1, h2, h3⟩
  · exact .inl h
  · exact .inr ⟨id, oc, xs, e, h0, by rw [← hg id h0]; exact h1, h2, h3.mono fun _ _ => hT⟩
theorem VecF.move (hg : ∀ id, n0 ≤ id → A[id]? = B[id]?) {a : AV} {v : List ZI} (h : VecF n0 A a v) : VecF n0 B a v := RowF.move (fun h => h.move hg) hg h
end
theorem b2W : ∀ l : List UInt8, ((a0s 59 l).map fun p => p.length + 1).sum = l.length + 1
  | [] => rfl
  | b :: l => by
    have ih := b2W l
    unfold a0s
    by_cases h : b = 59
    · rw [if_pos h, List.map_cons, List.sum_cons, ih]; simp only [List.length_nil, List.length_cons]; omega
    · rw [if_neg h]
      match hs : a0s 59 l with
      | [] => have := a2f 59 l; rw [hs] at this; simp at this
      | p :: ps =>
        rw [hs] at ih
        simp only [List.map_cons, List.sum_cons, List.length_cons] at ih ⊢
        omega
/-- The rows behind the boxes. -/
structure RInv (H : Heap) (s : List UInt8) (i : Nat) (M : Heap) (o : Nat) (xs : List AV) (X : List (List Int)) : Prop where
  own : Own (H.length + 4) M
  none : i = 0 → M = [] ∧ xs = []
  row : 0 < i → M[o]? = some (some ⟨1, xs⟩)
  els : ElsF VecF (H.length + 4) (rZ H s .nil M) xs (a4P X)
  nn : 0 < i → ∀ b, some b ∈ M → ∀ a ∈ b.flat, Ref (· ≠ lid H (4 + o)) a
def rB (H : Heap) (i o : Nat) : AV := if i = 0 then .nil else .mu (lid H (4 + o)) 0 i none
theorem RInv.refs {H : Heap} (hH : a0r H) {s : List UInt8} {i o : Nat} {M : Heap} {xs : List AV} {X : List (List Int)} (h : RInv H s i M o xs X) : a0r (rZ H s (rB H i o) M) := by
  unfold rZ
  refine Own.refs hH fun b hb a ha => ?_
  have hl : ∀ k, (some ⟨1, [strU s]⟩ :: some ⟨1, [rB H i o]⟩ :: row0 :: row0 :: M : Heap).length = k → k = 4 + M.length := fun k e => by rw [← e]; simp; omega
  have hl := hl _ rfl
  simp only [List.mem_cons] at hb
  rcases hb with hb | hb | hb | hb | hb
  · cases hb
    simp only [Blk.flat, List.flatMap_cons, List.flatMap_nil, List.append_nil] at ha
    exact (a8o (a1n s) a ha).ref
  · cases hb
    unfold rB at ha
    split at ha
    · simp [Blk.flat, AV.cells] at ha
      subst ha; exact .nil
    · simp [Blk.flat, AV.cells] at ha
      subst ha
      rename_i hi
      have := a0f (h.row (by omega))
      exact .mu _ _ _ _ ⟨a7Z _ _, by rw [hl]; unfold lid; omega⟩
  · cases hb
    simp [Blk.flat, AV.cells] at ha
    subst ha; exact .int _ _
  · cases hb
    simp [Blk.flat, AV.cells] at ha
    subst ha; exact .int _ _
  · exact (h.own b hb a ha).mono fun j hj => by rw [hl]; omega
theorem RInv.start (H : Heap) (s : List UInt8) : RInv H s 0 [] 0 [] [] := ⟨c5x _, fun _ => ⟨rfl, rfl⟩, fun h => absurd h (by omega), ElsF.nil, fun h => absurd h (by omega)⟩
theorem b2i (H : Heap) (s : List UInt8) (bv : AV) (M L : Heap) : hap (rZ H s bv M) L = rZ H s bv (M ++ L) := by simp [rZ, hap]
theorem c6P (H : Heap) (s : List UInt8) (bv : AV) (M : Heap) (o : Nat) (b : Option Blk) : (rZ H s bv M).set (lid H (4 + o)) b = rZ H s bv (M.set o b) := by
  unfold rZ
  rw [a4v]
  have : 4 + o = o + 1 + 1 + 1 + 1 := by omega
  rw [this]; rfl
def rM1 (M L : Heap) (r : AV) : Heap := M ++ L ++ [some ⟨1, [r]⟩]
def rM2 (i : Nat) (M L : Heap) (o : Nat) (xs : List AV) (r : AV) : Heap := if i = 0 then rM1 M L r ++ [some ⟨1, [r]⟩] else (rM1 M L r).set o (some ⟨1, xs ++ [r]⟩)
def rO2 (i : Nat) (M L : Heap) (o : Nat) (r : AV) : Nat := if i = 0 then (rM1 M L r).length else o
theorem RInv.step {H : Heap} (hH : a0r H) {s : List UInt8} {i o : Nat} {M L : Heap} {xs : List AV} {X : List (List Int)} (h : RInv H s i M o xs X) {r : AV} {v : List Int}
    (hT : VecF (rZ H s (rB H i o) M).length (hap (rZ H s (rB H i o) M) L) r (v.map canZ)) (hO : Own (rZ H s (rB H i o) M).length L) : RInv H s (i + 1) (rM2 i M L o xs r) (rO2 i M L o r) (xs ++ [r]) (X ++ [v]) := by
  have hGl := b5f H s (rB H i o) M
  have hTr := hT.vecT.ref
  have hTc : ∀ c ∈ r.cells, Ref (fun j => H.length + 4 + M.length ≤ j ∧ j < H.length + 4 + M.length + L.length) c := fun c hc => by
    rw [hT.vcells, List.mem_singleton] at hc
    subst hc
    refine hTr.mono fun j hj => ?_
    rw [b2i, b5f, b5f] at hj
    rw [List.length_append] at hj
    omega
  have hTn : VecF (H.length + 4) (rZ H s .nil (rM1 M L r)) r (v.map canZ) := by
    have h1 : VecF (H.length + 4) (hap (rZ H s (rB H i o) M) L) r (v.map canZ) := RowF.low (fun h => h.low (by rw [hGl]; omega)) (by rw [hGl]; omega) hT
    have h2 := RowF.app (fun h => h.app _) [some ⟨1, [r]⟩] h1
    rw [b2i, b2i] at h2
    exact VecF.move (fun id hid => c4K hid) h2
  have hEn : ElsF VecF (H.length + 4) (rZ H s .nil (rM1 M L r)) xs (a4P X) := h.els.mono fun x z hx => by
    have := RowF.app (fun h => h.app _) (L ++ [some ⟨1, [r]⟩]) hx
    rw [b2i, ← List.append_assoc] at this
    exact this
  have hr1 : ∀ b, some b ∈ ([some ⟨1, [r]⟩] : Heap) → ∀ a ∈ b.flat, Ref (fun j => H.length + 4 + M.length ≤ j ∧ j < H.length + 4 + M.length + L.length) a := fun b hb a ha => by
    have e : b = ⟨1, [r]⟩ := by simpa using hb
    subst e
    simp only [Blk.flat, List.flatMap_cons, List.flatMap_nil, List.append_nil] at ha
    exact hTc a ha
  have hM1 : (rM1 M L r).length = M.length + L.length + 1 := by simp [rM1]; omega
  have hown1 : Own (H.length + 4) (rM1 M L r) := fun b hb a ha => by
    unfold rM1 at hb
    rw [List.mem_append, List.mem_append] at hb
    rcases hb with (hb | hb) | hb
    · exact (h.own b hb a ha).mono fun j hj => by rw [hM1]; omega
    · exact (hO b hb a ha).mono fun j hj => by rw [hGl] at hj; rw [hM1]; omega
    · exact (hr1 b hb a ha).mono fun j hj => by rw [hM1]; omega
  by_cases hi : i = 0
  · subst hi
    obtain ⟨rfl, rfl⟩ := h.none rfl
    unfold rM2 rO2
    rw [if_pos rfl, if_pos rfl]
    have hlt : ∀ b, some b ∈ rM1 [] L r ++ ([some ⟨1, [r]⟩] : Heap) → ∀ a ∈ b.flat, Ref (fun j => H.length + 4 ≤ j ∧ j < H.length + 4 + L.length) a := fun b hb a ha => by
      unfold rM1 at hb
      rw [List.nil_append, List.mem_append, List.mem_append] at hb
      rcases hb with (hb | hb) | hb
      · exact (hO b hb a ha).mono fun j hj => by rw [hGl] at hj; simp only [List.length_nil] at hj; omega
      · exact (hr1 b hb a ha).mono fun j hj => by simp only [List.length_nil] at hj; omega
      · exact (hr1 b hb a ha).mono fun j hj => by simp only [List.length_nil] at hj; omega
    refine ⟨fun b hb a ha => (hlt b hb a ha).mono fun j hj => by rw [List.length_append, hM1]; simp only [List.length_nil] at *; omega, fun h => absurd h (by omega), fun _ => by rw [List.getElem?_append_right (Nat.le_refl _), Nat.sub_self]; rfl, ?_, fun _ b hb a ha => (hlt b hb a ha).mono fun j hj => by
      show j ≠ _
      unfold lid
      rw [hM1]; simp only [List.length_nil]; omega⟩
    have hX : X = [] := by
      have := h.els.1
      simp [a4P] at this
      exact List.length_eq_zero_iff.1 (by omega)
    subst hX
    refine (ElsF.nil.snoc (T := VecF) (n0 := H.length + 4) (A := rZ H s .nil (rM1 [] L r ++ [some ⟨1, [r]⟩])) (x := r) (z := cans v) ?_)
    rw [← b2i]
    exact RowF.app (fun h => h.app _) _ hTn
  · unfold rM2 rO2
    rw [if_neg hi, if_neg hi]
    have hrow := h.row (by omega)
    have ho := a0f hrow
    have hnn := h.nn (by omega)
    have hrow1 : (rM1 M L r)[o]? = some (some ⟨1, xs⟩) := by
      unfold rM1
      rw [List.append_assoc, List.getElem?_append_left ho]; exact hrow
    have hxr : ∀ a ∈ (Blk.mk 1 (xs ++ [r])).flat, Ref (fun j => H.length + 4 ≤ j ∧ j < H.length + 4 + (M.length + L.length + 1)) a ∧ Ref (· ≠ lid H (4 + o)) a := fun a ha => by
      simp only [Blk.flat, List.flatMap_append, List.mem_append, List.flatMap_cons, List.flatMap_nil, List.append_nil] at ha
      rcases ha with ha | ha
      · have hm := List.mem_of_getElem? hrow
        exact ⟨(h.own _ hm a ha).mono fun j hj => by omega, hnn _ hm a ha⟩
      · exact ⟨(hTc a ha).mono fun j hj => by omega, (hTc a ha).mono fun j hj => by show j ≠ _; unfold lid; omega⟩
    refine ⟨fun b hb a ha => ?_, fun h => absurd h (by omega), fun _ => ?_, ?_, fun _ b hb a ha => ?_⟩
    · rw [List.length_set, hM1]
      rcases List.mem_or_eq_of_mem_set hb with hb | hb
      · have := hown1 b hb a ha
        rwa [hM1] at this
      · cases hb; exact (hxr a ha).1
    · rw [List.getElem?_set, if_pos rfl, if_pos (a0f hrow1)]
    · rw [a4P, List.map_append]
      refine (hEn.snoc (x := r) (z := cans v) hTn).mono fun x z hx => ?_
      rw [← c6P]
      refine RowF.set1 (xs := xs) (by rw [c1t]; exact hrow1) (fun y hy => ?_) hx
      obtain ⟨z, hz⟩ := hEn.mem hy
      exact hz.vecT
    · rcases List.mem_or_eq_of_mem_set hb with hb | hb
      · unfold rM1 at hb
        rw [List.mem_append, List.mem_append] at hb
        rcases hb with (hb | hb) | hb
        · exact hnn b hb a ha
        · exact (hO b hb a ha).mono fun j hj => by rw [hGl] at hj; show j ≠ _; unfold lid; omega
        · exact (hr1 b hb a ha).mono fun j hj => by show j ≠ _; unfold lid; omega
      · cases hb; exact (hxr a ha).2
end Go.Abs
namespace Go.Abs
open Go.Proofs Go.RowKit Go.Shelf
theorem b9p (H : Heap) (s : List UInt8) (bv : AV) (M : Heap) : hrow (rZ H s bv M) (lid H 1) = some ⟨1, [bv]⟩ := by
  unfold rZ
  rw [a1U]; rfl
theorem b9q (H : Heap) (i o : Nat) : (rB H i o).cells = [rB H i o] := by
  unfold rB
  split <;> rfl
theorem b8n {id : Nat} {M : Heap} (h : ∀ b, some b ∈ M → ∀ a ∈ b.flat, Ref (· ≠ id) a) : a0P id M = M := by
  unfold a0P
  rw [List.map_congr_left (g := fun c => c) fun c hc => by
    cases c with
    | none => rfl
    | some b => simp only [Option.map_some]; rw [b3D (h b hc)]]
  simp
theorem c1s {H : Heap} (hH : a0r H) {s : List UInt8} {i o : Nat} {M L : Heap} {xs : List AV} {X : List (List Int)} (h : RInv H s i M o xs X) (hXl : X.length = i) (hil : i ≤ 65537) {r : AV} {v : List ZI}
    (hT : VecF (rZ H s (rB H i o) M).length (hap (rZ H s (rB H i o) M) L) r v) (hO : Own (rZ H s (rB H i o) M).length L) (env : Env) : ∃ env' bv', appV (lid H 4) 1 24 false (rB H i o) (.mu (rZ H s (rB H i o) (M ++ L)).length 0 1 (some 1)) env (rZ H s (rB H i o) (M ++ L) ++ [some ⟨1, [r]⟩]) = some (rB H (i + 1) (rO2 i M L o r), env', rZ H s bv' (rM2 i M L o xs r)) ∧
      ∀ t, nref (lid H (4 + o)) (look env t) = true → look env' t = look env t := by
  have hheap : rZ H s (rB H i o) (M ++ L) ++ [some ⟨1, [r]⟩] = rZ H s (rB H i o) (rM1 M L r) := b2i H s _ (M ++ L) [some ⟨1, [r]⟩]
  have hM1 : (rM1 M L r).length = M.length + L.length + 1 := by simp [rM1]; omega
  have hid : (rZ H s (rB H i o) (M ++ L)).length = lid H (4 + (M.length + L.length)) := by rw [b5f, List.length_append]; unfold lid; omega
  have hlast : (rM1 M L r)[M.length + L.length]? = some (some ⟨1, [r]⟩) := by
    unfold rM1
    rw [List.getElem?_append_right (by rw [List.length_append]; omega), List.length_append, Nat.sub_self]; rfl
  have hsrc : a0z (rZ H s (rB H i o) (rM1 M L r)) 1 false (.mu (rZ H s (rB H i o) (M ++ L)).length 0 1 (some 1)) = some [r] := by
    have hr : hrow (rZ H s (rB H i o) (rM1 M L r)) (lid H (4 + (M.length + L.length))) = some ⟨1, [r]⟩ := by
      unfold hrow
      rw [c1t, hlast]; rfl
    rw [hid]
    simp [a0z, hr]
  rw [hheap]
  by_cases hi : i = 0
  · subst hi
    obtain ⟨rfl, rfl⟩ := h.none rfl
    refine ⟨env, .nil, ?_, fun _ _ => rfl⟩
    have hG : (rZ H s .nil (rM1 [] L r)).length = lid H (4 + (rM1 [] L r).length) := by rw [b5f]; unfold lid; omega
    unfold rM2 rO2
    rw [if_pos rfl, if_pos rfl]
    have e0 : rB H 0 o = .nil := rfl
    rw [e0] at hsrc ⊢
    simp only [appV, hsrc, Option.bind_some]
    rw [if_pos ⟨by decide, by simp, by simp⟩, hG]
    have e1 : rB H (0 + 1) (rM1 [] L r).length = .mu (lid H (4 + (rM1 [] L r).length)) 0 1 none := rfl
    rw [e1, ← b2i]
    rfl
  · have hrow := h.row (by omega)
    have ho := a0f hrow
    have hnn := h.nn (by omega)
    have hxl : xs.length = i := by rw [h.els.1]; simp [a4P, hXl]
    have hGl := b5f H s (rB H i o) M
    have hrow1 : (rM1 M L r)[o]? = some (some ⟨1, xs⟩) := by
      unfold rM1
      rw [List.append_assoc, List.getElem?_append_left ho]; exact hrow
    have hrn : nref (lid H (4 + o)) r = true := a0i.2 (hT.vecT.ref.mono fun j hj => by rw [hGl] at hj; show j ≠ _; unfold lid; omega)
    have hrc : ∀ a ∈ [r].flatMap AV.cells, nref (lid H (4 + o)) a = true := fun a ha => by
      simp only [List.flatMap_cons, List.flatMap_nil, List.append_nil] at ha
      rw [hT.vcells, List.mem_singleton] at ha
      subst ha; exact hrn
    have hxn : ∀ x ∈ xs, nref (lid H (4 + o)) x = true := fun x hx => b0B fun c hc => hnn _ (List.mem_of_getElem? hrow) c (List.mem_flatMap.2 ⟨x, hx, hc⟩)
    have eB : rB H i o = .mu (lid H (4 + o)) 0 i none := by unfold rB; rw [if_neg hi]
    rw [eB] at hsrc ⊢
    have happ := c2F (L := some ⟨1, [strU s]⟩ :: some ⟨1, [.mu (lid H (4 + o)) 0 i none]⟩ :: row0 :: row0 :: rM1 M L r) hH (i := 4 + o) (n0 := lid H 4) (wd := 1) (bytes := 24) (len := i) (env := env) (xs := xs) (ys := [r]) (by
      have : 4 + o = o + 1 + 1 + 1 + 1 := by omega
      rw [this]; exact hrow1) hxl.symm (by unfold lid; omega) hsrc hrc hxn (by simp; omega) (by simp; omega)
    refine ⟨scrub (lid H (4 + o)) env, .top, ?_, fun t ht => by rw [a1l, if_pos ht]⟩
    unfold rZ at happ ⊢
    rw [happ]
    unfold rM2 rO2
    rw [if_neg hi, if_neg hi]
    have e1 : rB H (i + 1) o = .mu (lid H (4 + o)) 0 (i + 1) none := by unfold rB; rw [if_neg (by omega)]
    have hs1 : nref (lid H (4 + o)) (strU s) = true := a9L _ _
    have hsm : a0P (lid H (4 + o)) (rM1 M L r) = rM1 M L r := b8n fun b hb a ha => by
      unfold rM1 at hb
      rw [List.mem_append, List.mem_append] at hb
      rcases hb with (hb | hb) | hb
      · exact hnn b hb a ha
      · exact (hO b hb a ha).mono fun j hj => by rw [hGl] at hj; show j ≠ _; unfold lid; omega
      · have e : b = ⟨1, [r]⟩ := by simpa using hb
        subst e
        exact a0i.1 (hrc a ha)
    rw [e1]
    unfold row0
    simp only [b3C, b6R, List.map_cons, List.map_nil, b2U hs1, b6S, b2U (a8z (lid H (4 + o)) .i64 0), hsm, List.length_cons, List.length_nil, Nat.zero_add]
    have : 4 + o = o + 1 + 1 + 1 + 1 := by omega
    rw [this]
    rfl
theorem c0j {H : Heap} (hH : a0r H) {s : List UInt8} {i o : Nat} {M L : Heap} {xs : List AV} {X : List (List Int)} (h : RInv H s i M o xs X) (hXl : X.length = i) (hil : i ≤ 65537) {r : AV} {v : List ZI}
    (hT : VecF (rZ H s (rB H i o) M).length (hap (rZ H s (rB H i o) M) L) r v) (hO : Own (rZ H s (rB H i o) M).length L) {env : Env} {K : AV → Env → Heap → Prop}
    (k : ∀ env' bv', (∀ t a, look env t = a → nref (lid H (4 + o)) a = true → look env' t = a) → K (rB H (i + 1) (rO2 i M L o r)) env' (rZ H s bv' (rM2 i M L o xs r))) :
    b1u (appV (lid H 4) 1 24 false (rB H i o) (.mu (rZ H s (rB H i o) (M ++ L)).length 0 1 (some 1)) env (rZ H s (rB H i o) (M ++ L) ++ [some ⟨1, [r]⟩])) K := by
  obtain ⟨env', bv', e, hk⟩ := c1s hH h hXl hil hT hO env
  rw [e]
  exact k env' bv' fun t a ht hn => by rw [← ht] at hn ⊢; exact hk t hn
theorem c6Q (H : Heap) (i o : Nat) : (rB H i o).fit = true := by
  unfold rB
  split <;> rfl
theorem c3d {H : Heap} {s : List UInt8} {bv bv' : AV} {M : Heap} {env : Env} (h1 : bv'.fit = true) (h2 : bv'.cells = [bv']) : a4Z 1 (.loc (lid H 1) 0 0) bv' env (rZ H s bv M) = some (.top, env, rZ H s bv' M) := by
  unfold rZ
  rw [b0T (n := 1) (i := 1) (k := 0) (off := 0) (v := bv') (b := ⟨1, [bv]⟩) (hl := rfl) (hk := Nat.zero_lt_succ _) (hf := h1) (hn := by rw [h2]; rfl) (ho := Nat.le_refl _)]
  simp [upd]
theorem c0i (H : Heap) (hH : a0r H) (s : List UInt8) (hs : s.length ≤ 65536) (X : List (List Int)) (hX : rd 0 (a0s 59 s) = .inr X) : ACalls Pr a0Q [.loc (lid H 0) 0 0, .loc (lid H 1) 0 0] (rZ H s .nil []) fun r' H' => r' = .tup [] ∧ ∃ a M, H' = rZ H s a M ∧
    MatF (H.length + 4) H' a (a4P X) ∧ Own (H.length + 4) M ∧ Ref (fun j => H.length + 4 ≤ j ∧ j < H.length + 4 + M.length) a := by
  have hsp := b5d s 59 hs
  have hsum := b2W s
  have hp0 : 0 < (a0s 59 s).length := by rw [a2f]; omega
  have hpl : (a0s 59 s).length ≤ 65537 := by rw [a2f]; have := List.count_le_length (a := (59 : UInt8)) (l := s); omega
  generalize a0s 59 s = ps at *
  refine ACalls.open b4T b4R (Nat.le_of_ble_eq_true rfl) fun hH2 => ?_
  unfold rZ row0
  simp only [b0O, List.cons_append, List.nil_append, List.append_nil]
  refine Safe.rg rfl ?_
  simp only [a8T, E3, a0c, a0b, a0a, a0d, seval]
  refine Safe.rg rfl ?_
  simp only [a8S, b5O, ES, E3, a0c, a0b, a0a, a0d, seval]
  first | refine (hsp).acall ?_ | refine (hsp).dcall ?_ | refine (hsp).dgcall ?_
  try simp only [E3, a0c, a0b, a0a, a0d, seval]
  simp only [List.length_map]
  refine Safe.lp rfl ?_
  refine Safe.keep [0, 1, 2, 6, 7, 8] ?_
  simp only [E3, a0c, a0b, a0a, a0d, seval]
  refine Safe.loopW (fun a : Nat × Nat × Heap × Nat × List AV × List (List Int) => ps.length - a.1) (fun a => [(0, .loc (lid H 0) 0 0), (1, .loc (lid H 1) 0 0), (2, .int .i64 a.2.1), (6, .sl 1 (ps.map strU)), (7, .int .i64 ps.length), (8, .int .i64 a.1)])
    (fun a => rZ H s (rB H a.1 a.2.2.2.1) a.2.2.1)
    (fun a => a.1 ≤ ps.length ∧ a.2.2.2.2.2.length = a.1 ∧ rd 0 ps = b0V a.2.2.2.2.2 (rd a.2.1 (ps.drop a.1)) ∧ a.2.1 + ((ps.drop a.1).map fun p => p.length + 1).sum = s.length + 1 ∧ RInv H s a.1 a.2.2.1 a.2.2.2.1 a.2.2.2.2.1 a.2.2.2.2.2) (0, 0, [], 0, [], []) rfl rfl ⟨Nat.zero_le _, rfl, (b3L _).symm, by simpa using hsum, RInv.start H s⟩ ?_
  rintro ⟨i, f, M, o, xs, X'⟩ ⟨hi, hXl, hrd, hsm, hR⟩ ih
  simp only at hi hXl hrd hsm hR
  refine Safe.inLoop ?_
  by_cases hlt' : i < ps.length
  · have hlt : ((i : Int) < (ps.length : Int)) = True := eq_true (by omega)
    have hiw : IntKind.wrap .i64 ((i : Int) + 1) = ((i + 1 : Nat) : Int) := by rw [a0g] <;> omega
    have hdr : ps.drop i = ps[i] :: ps.drop (i + 1) := List.drop_eq_getElem_cons hlt'
    rw [hdr] at hrd hsm
    simp only [List.map_cons, List.sum_cons] at hsm
    rw [rd, hX] at hrd
    cases hw : wd f ps[i] with
    | inl e => rw [hw] at hrd; cases hrd
    | inr v =>
    rw [hw] at hrd
    simp only at hrd
    have hop := b3l ps[i] f v hw (by omega)
    refine Safe.rg rfl ?_
    simp only [a5z, hlt, E3, a0c, a0b, a0a, a0d, seval]
    refine Safe.cd rfl ?_
    simp only [E3, a0c, a0b, a0a, a0d, seval]
    refine Safe.rg rfl ?_
    simp only [a8R, b3A _ ps .i64 i hlt', ES, E3, a0c, a0b, a0a, a0d, seval]
    refine Safe.rg rfl ?_
    simp only [a8Q, b9p, b9q, List.length_cons, List.length_nil, Nat.zero_add, a7r, List.getD_cons_zero, List.getElem?_cons_zero, E3, a0c, a0b, a0a, a0d, seval]
    refine hop.dgcall (hR.refs hH) fun r L hT hO => ?_
    obtain ⟨hfit, hcel⟩ := hT.vecT.fit
    simp only [hfit, hcel, b2i, E3, a0c, a0b, a0a, a0d, seval]
    refine c0j hH hR hXl (by omega) hT hO fun E' bv' hk => ?_
    have hne : ∀ k, k < 4 → (k ≠ 4 + o) = True := fun k h => eq_true (by omega)
    have g0 := hk 0 (.loc (lid H 0) 0 0) rfl (by simp only [b6m, hne 0 (by omega), decide_true])
    have g1 := hk 1 (.loc (lid H 1) 0 0) rfl (by simp only [b6m, hne 1 (by omega), decide_true])
    have g2 := hk 2 (.int .i64 f) rfl (a8z _ _ _)
    have g4 := hk 4 (strU ps[i]) rfl (a9L _ _)
    have g6 := hk 6 (.sl 1 (ps.map strU)) rfl (c1C _ _ _)
    have g7 := hk 7 (.int .i64 ps.length) rfl (a8z _ _ _)
    have g8 := hk 8 (.int .i64 i) rfl (a8z _ _ _)
    rw [g1, c3d (c6Q _ _ _) (b9q _ _ _)]
    simp only [E3, a0c, a0b, a0a, a0d, seval]
    refine Safe.keep [0, 1, 2, 4, 6, 7, 8] ?_
    simp only [g0, g1, g2, g4, g6, g7, g8, E3, a0c, a0b, a0a, a0d, seval]
    have hf1 : IntKind.wrap .i64 ((ps[i].length : Int) + 1) = ((ps[i].length + 1 : Nat) : Int) := by rw [a0g] <;> omega
    have hf2 : IntKind.wrap .i64 ((f : Int) + ((ps[i].length + 1 : Nat) : Int)) = ((f + ps[i].length + 1 : Nat) : Int) := by rw [a0g] <;> omega
    refine Safe.rg rfl ?_
    simp only [a8P, a0e, hf1, hf2, E3, a0c, a0b, a0a, a0d, seval]
    refine Safe.rg rfl ?_
    simp only [a8O, hiw, E3, a0c, a0b, a0a, a0d, seval]
    refine Safe.keep [0, 1, 2, 6, 7, 8] ?_
    simp only [E3, a0c, a0b, a0a, a0d, seval]
    refine ih (i + 1, f + ps[i].length + 1, _, _, _, X' ++ [v]) ⟨by simp only; omega, by simp [hXl], ?_, by simp only; omega, hR.step hH hT hO⟩ (by simp only; omega)
    simp only
    rw [hX, hrd, b3M]
  · have hin : i = ps.length := by omega
    subst hin
    refine Safe.rg rfl ?_
    simp only [a5z, Int.lt_irrefl, E3, a0c, a0b, a0a, a0d, seval]
    refine Safe.cd rfl ?_
    simp only [E3, a0c, a0b, a0a, a0d, seval]
    refine Safe.keep [8] ?_
    simp only [E3, a0c, a0b, a0a, a0d, seval]
    refine Safe.stl 5 _ (Safe.donen ?_)
    simp only [E3, a0c, a0b, a0a, a0d, seval]
    rw [List.drop_length, rd, hX] at hrd
    simp only [b0V, List.append_nil, Sum.inr.injEq] at hrd
    subst hrd
    have hrow := hR.row hp0
    have ho := a0f hrow
    have eB : rB H ps.length o = .mu (lid H (4 + o)) 0 ps.length none := by unfold rB; rw [if_neg (by omega)]
    refine ⟨rB H ps.length o, M, rfl, .inr ⟨lid H (4 + o), none, xs, ?_, by unfold lid; omega, by rw [c1t]; exact hrow, ?_, ?_⟩, hR.own, ?_⟩
    · rw [eB]; simp [a4P, hXl]
    · simp only [a4P, List.length_map, hXl]; omega
    · exact hR.els.mono fun x z hx => VecF.move (fun id hid => c4K hid) hx
    · rw [eB]
      exact .mu _ _ _ _ ⟨by unfold lid; omega, by unfold lid; omega⟩
end Go.Abs
namespace Go.Abs
open Go.Proofs Go.RowKit Go.Shelf
theorem b8L {P : Program} {ops : Array Oper} {n0 nt i : Nat} {o : Oper} {mu : Bool} {ao : AOp} {E0 : Emb} {K K' : Env → Heap → Prop} {Q : Exit → Act → World → Prop} {N : Act → World → Prop} (ho : ops[i]? = some o) (hg : o.guard = none) (hc : caop P mu o.op = some ao) (hd : c2j nt o.dst = true)
    (h : ∀ env H, K env H → a1Q P n0 ao o.dst K' env H) (hN : ∀ a w, Kc n0 nt E0 K' a w → N a w) {a : Act} {w : World} (hk : Kc n0 nt E0 K a w) : wpOp P ops Q i N a w := by
  obtain ⟨φ, env, H, q1, q2, q3, q4, q5, q6, q7⟩ := hk
  have ha : a = ⟨a.tmps, []⟩ := by cases a; simp at q4; simp [q4]
  unfold wpOp
  rw [ho]
  have hw : Region.wanted o (yielded ops a.tmps) = true := by unfold Region.wanted; rw [hg]
  simp only [hw, if_true]
  refine .inl ?_
  rw [ha]
  refine a1z (E := ⟨φ, H, w⟩) hc hd q5 q2 q3 q6 (h env H q1) fun a' w' hk' => hN a' w' ?_
  obtain ⟨φ', env', H', r1, r2, r3, r4, r5, r6, r7⟩ := hk'
  exact ⟨φ', env', H', r1, r2, r3, r4, r5, r6, q7.trans r7⟩
namespace Pan
theorem kc_call {P : Program} {ops : Array Oper} {n0 nt i : Nat} {o : Oper} {c : Call} {f : FuncId} {ss : List Src} {R : AV → Heap → Prop} {E0 : Emb} {K : Env → Heap → Prop} {N : Act → World → Prop} (ho : ops[i]? = some o) (hg : o.guard = none) (hop : o.op = .call c) (hcal : c.callee = .value (.func f)) (hs : srcs c.args.toList = some ss)
    (h : ∀ env H, K env H → ACalls P f (ss.map (·.ev env)) H R) {a : Act} {w : World} (hk : Kc n0 nt E0 K a w) : wpOp P ops (fun e a w' => ∃ v r φ' H', e = .panic [{ v := v, recovered := false }] ∧ a.defers = [] ∧ R r H' ∧ HOk ⟨φ', H', w'⟩ ∧ Rep ⟨φ', H', w'⟩ v r ∧ n0 ≤ H'.length ∧ Ext (· < n0) E0 ⟨φ', H', w'⟩) i N a w := by
  obtain ⟨φ, env, H, q1, q2, q3, q4, q5, q6, q7⟩ := hk
  have ha : a = ⟨a.tmps, []⟩ := by cases a; simp at q4; simp [q4]
  unfold wpOp
  rw [ho]
  have hw : Region.wanted o (yielded ops a.tmps) = true := by unfold Region.wanted; rw [hg]
  simp only [hw, if_true]
  refine .inl ?_
  rw [ha]
  exact c0O (E := ⟨φ, H, w⟩) hop hcal hs q2 q3 q6 q7 (h env H q1)
end Pan
set_option maxRecDepth 100000 in
theorem b7i {φ : Nat → Option Nat} {H : Heap} {w : World} {tmps : Array Value} {env : Env} {n0 : Nat} {R : AV → Heap → Prop} {b : AV} (hok : HOk ⟨φ, H, w⟩) (he : a0q ⟨φ, H, w⟩ env tmps) (hsz : tmps.size = 24) (hn : n0 ≤ H.length) (hb : b2Q H none (look env 1) = some b)
    (h : Pan.ACalls Pr a0D [look env 4, look env 2] H R) :
    (Code.region 4 (a0R Tryd.f18 4) true).wp Pr (fun e a w' => ∃ v r φ' H', e = .panic [{ v := v, recovered := false }] ∧ a.defers = [] ∧ R r H' ∧ HOk ⟨φ', H', w'⟩ ∧ Rep ⟨φ', H', w'⟩ v r ∧ n0 ≤ H'.length ∧ Ext (· < n0) ⟨φ, H, w⟩ ⟨φ', H', w'⟩) ⟨tmps, []⟩ w := by
  have h0 : (a0R Tryd.f18 4)[0]? = some { dst := some 12, op := .load 22 (.tmp 1), type := 22, pos := "mat.go:281", after := #[], guard := none } := by kernel_rfl
  have h1 : (a0R Tryd.f18 4)[1]? = some { dst := some 13, op := .move (.tmp 4), type := 9, pos := "mat.go:281", after := #[], guard := none } := by kernel_rfl
  have h2 : (a0R Tryd.f18 4)[2]? = some { dst := some 14, op := .move (.tmp 2), type := 3, pos := "mat.go:281", after := #[], guard := none } := by kernel_rfl
  have h3 : (a0R Tryd.f18 4)[3]? = some { dst := some 15, op := .call { callee := .value (.func a0D), args := #[.tmp 13, .tmp 14], argTypes := #[9, 3] }, type := 30, pos := "mat.go:281", after := #[⟨1, .data⟩, ⟨2, .data⟩], guard := none } := by kernel_rfl
  have hsize : (a0R Tryd.f18 4).size = 7 := by kernel_rfl
  have c0 : caop Pr true (.load 22 (.tmp 1)) = some (.p (.load none (.t 1))) := by kernel_rfl
  have c1 : caop Pr true (.move (.tmp 4)) = some (.p (.mv (.t 4))) := by kernel_rfl
  have c2 : caop Pr true (.move (.tmp 2)) = some (.p (.mv (.t 2))) := by kernel_rfl
  refine wp_region_any (by kernel_rfl) ?_
  rw [hsize]
  let S : Bool → Bool → Env → Heap → Prop := fun b3 b4 e' H' => H' = H ∧ look e' 1 = look env 1 ∧ look e' 4 = look env 4 ∧ look e' 2 = look env 2 ∧ (b3 = true → look e' 13 = look env 4) ∧ (b4 = true → look e' 14 = look env 2)
  have st0 : ∀ (b3 b4 : Bool) (N : Act → World → Prop) (a : Act) (w' : World), Kc n0 24 ⟨φ, H, w⟩ (S b3 b4) a w' → (∀ a w', Kc n0 24 ⟨φ, H, w⟩ (S b3 b4) a w' → N a w') → wpOp Pr (a0R Tryd.f18 4) (fun e a w' => ∃ v r φ' H', e = .panic [{ v := v, recovered := false }] ∧ a.defers = [] ∧ R r H' ∧ HOk ⟨φ', H', w'⟩ ∧ Rep ⟨φ', H', w'⟩ v r ∧ n0 ≤ H'.length ∧ Ext (· < n0) ⟨φ, H, w⟩ ⟨φ', H', w'⟩) 0 N a w' := fun b3 b4 N a w' hk hN =>
    b8L h0 rfl c0 (by kernel_rfl) (fun e' H' ⟨q1, q2, q3, q4, q5, q6⟩ => by
      subst q1
      simp only [a1Q, c1v, Src.ev, q2, hb, b0A]
      exact ⟨rfl, by simpa [a0p] using q2, by simpa [a0p] using q3, by simpa [a0p] using q4, fun h => by simpa [a0p] using q5 h, fun h => by simpa [a0p] using q6 h⟩) hN hk
  have st1 : ∀ (b3 b4 : Bool) (N : Act → World → Prop) (a : Act) (w' : World), Kc n0 24 ⟨φ, H, w⟩ (S b3 b4) a w' → (∀ a w', Kc n0 24 ⟨φ, H, w⟩ (S true b4) a w' → N a w') → wpOp Pr (a0R Tryd.f18 4) (fun e a w' => ∃ v r φ' H', e = .panic [{ v := v, recovered := false }] ∧ a.defers = [] ∧ R r H' ∧ HOk ⟨φ', H', w'⟩ ∧ Rep ⟨φ', H', w'⟩ v r ∧ n0 ≤ H'.length ∧ Ext (· < n0) ⟨φ, H, w⟩ ⟨φ', H', w'⟩) 1 N a w' := fun b3 b4 N a w' hk hN =>
    b8L h1 rfl c1 (by kernel_rfl) (fun e' H' ⟨q1, q2, q3, q4, q5, q6⟩ => by
      subst q1
      simp only [a1Q, c5p, Src.ev, b0A]
      exact ⟨rfl, by simpa [a0p] using q2, by simpa [a0p] using q3, by simpa [a0p] using q4, fun _ => by simpa [a0p] using q3, fun h => by simpa [a0p] using q6 h⟩) hN hk
  have st2 : ∀ (b3 b4 : Bool) (N : Act → World → Prop) (a : Act) (w' : World), Kc n0 24 ⟨φ, H, w⟩ (S b3 b4) a w' → (∀ a w', Kc n0 24 ⟨φ, H, w⟩ (S b3 true) a w' → N a w') → wpOp Pr (a0R Tryd.f18 4) (fun e a w' => ∃ v r φ' H', e = .panic [{ v := v, recovered := false }] ∧ a.defers = [] ∧ R r H' ∧ HOk ⟨φ', H', w'⟩ ∧ Rep ⟨φ', H', w'⟩ v r ∧ n0 ≤ H'.length ∧ Ext (· < n0) ⟨φ, H, w⟩ ⟨φ', H', w'⟩) 2 N a w' := fun b3 b4 N a w' hk hN =>
    b8L h2 rfl c2 (by kernel_rfl) (fun e' H' ⟨q1, q2, q3, q4, q5, q6⟩ => by
      subst q1
      simp only [a1Q, c5p, Src.ev, b0A]
      exact ⟨rfl, by simpa [a0p] using q2, by simpa [a0p] using q3, by simpa [a0p] using q4, fun h => by simpa [a0p] using q5 h, fun _ => by simpa [a0p] using q4⟩) hN hk
  have st3 : ∀ (N : Act → World → Prop) (a : Act) (w' : World), Kc n0 24 ⟨φ, H, w⟩ (S true true) a w' → wpOp Pr (a0R Tryd.f18 4) (fun e a w' => ∃ v r φ' H', e = .panic [{ v := v, recovered := false }] ∧ a.defers = [] ∧ R r H' ∧ HOk ⟨φ', H', w'⟩ ∧ Rep ⟨φ', H', w'⟩ v r ∧ n0 ≤ H'.length ∧ Ext (· < n0) ⟨φ, H, w⟩ ⟨φ', H', w'⟩) 3 N a w' := fun N a w' hk =>
    Pan.kc_call h3 rfl rfl rfl (ss := [.t 13, .t 14]) rfl (fun e' H' ⟨q1, q2, q3, q4, q5, q6⟩ => by
      subst q1
      simp only [List.map_cons, List.map_nil, Src.ev, q5 rfl, q6 rfl]
      exact h) hk
  have T012 : ∀ (l : Array Bool), l = #[true, true, true, false, false, false, false] → ∀ (a : Act) (w' : World), Kc n0 24 ⟨φ, H, w⟩ (S true true) a w' → wpAny Pr .any (a0R Tryd.f18 4) (fun e a w' => ∃ v r φ' H', e = .panic [{ v := v, recovered := false }] ∧ a.defers = [] ∧ R r H' ∧ HOk ⟨φ', H', w'⟩ ∧ Rep ⟨φ', H', w'⟩ v r ∧ n0 ≤ H'.length ∧ Ext (· < n0) ⟨φ, H, w⟩ ⟨φ', H', w'⟩) 4 l a w' := by
    rintro l rfl a w' hk
    refine wpAny_all (rs := [3]) (by kernel_rfl) (by simp) fun i hi => ?_
    simp only [List.mem_cons, List.not_mem_nil, or_false] at hi
    subst hi
    exact st3 _ _ _ hk
  have T12 : ∀ (l : Array Bool), l = #[false, true, true, false, false, false, false] → ∀ (a : Act) (w' : World), Kc n0 24 ⟨φ, H, w⟩ (S true true) a w' → wpAny Pr .any (a0R Tryd.f18 4) (fun e a w' => ∃ v r φ' H', e = .panic [{ v := v, recovered := false }] ∧ a.defers = [] ∧ R r H' ∧ HOk ⟨φ', H', w'⟩ ∧ Rep ⟨φ', H', w'⟩ v r ∧ n0 ≤ H'.length ∧ Ext (· < n0) ⟨φ, H, w⟩ ⟨φ', H', w'⟩) 5 l a w' := by
    rintro l rfl a w' hk
    refine wpAny_all (rs := [0, 3]) (by kernel_rfl) (by simp) fun i hi => ?_
    simp only [List.mem_cons, List.not_mem_nil, or_false] at hi
    rcases hi with rfl | rfl
    · exact st0 _ _ _ _ _ hk fun a w' hk' => T012 _ (by kernel_rfl) a w' hk'
    · exact st3 _ _ _ hk
  have T02 : ∀ (l : Array Bool), l = #[true, false, true, false, false, false, false] → ∀ (a : Act) (w' : World), Kc n0 24 ⟨φ, H, w⟩ (S false true) a w' → wpAny Pr .any (a0R Tryd.f18 4) (fun e a w' => ∃ v r φ' H', e = .panic [{ v := v, recovered := false }] ∧ a.defers = [] ∧ R r H' ∧ HOk ⟨φ', H', w'⟩ ∧ Rep ⟨φ', H', w'⟩ v r ∧ n0 ≤ H'.length ∧ Ext (· < n0) ⟨φ, H, w⟩ ⟨φ', H', w'⟩) 5 l a w' := by
    rintro l rfl a w' hk
    refine wpAny_all (rs := [1]) (by kernel_rfl) (by simp) fun i hi => ?_
    simp only [List.mem_cons, List.not_mem_nil, or_false] at hi
    subst hi
    exact st1 _ _ _ _ _ hk fun a w' hk' => T012 _ (by kernel_rfl) a w' hk'
  have T01 : ∀ (l : Array Bool), l = #[true, true, false, false, false, false, false] → ∀ (a : Act) (w' : World), Kc n0 24 ⟨φ, H, w⟩ (S true false) a w' → wpAny Pr .any (a0R Tryd.f18 4) (fun e a w' => ∃ v r φ' H', e = .panic [{ v := v, recovered := false }] ∧ a.defers = [] ∧ R r H' ∧ HOk ⟨φ', H', w'⟩ ∧ Rep ⟨φ', H', w'⟩ v r ∧ n0 ≤ H'.length ∧ Ext (· < n0) ⟨φ, H, w⟩ ⟨φ', H', w'⟩) 5 l a w' := by
    rintro l rfl a w' hk
    refine wpAny_all (rs := [2]) (by kernel_rfl) (by simp) fun i hi => ?_
    simp only [List.mem_cons, List.not_mem_nil, or_false] at hi
    subst hi
    exact st2 _ _ _ _ _ hk fun a w' hk' => T012 _ (by kernel_rfl) a w' hk'
  have T2 : ∀ (l : Array Bool), l = #[false, false, true, false, false, false, false] → ∀ (a : Act) (w' : World), Kc n0 24 ⟨φ, H, w⟩ (S false true) a w' → wpAny Pr .any (a0R Tryd.f18 4) (fun e a w' => ∃ v r φ' H', e = .panic [{ v := v, recovered := false }] ∧ a.defers = [] ∧ R r H' ∧ HOk ⟨φ', H', w'⟩ ∧ Rep ⟨φ', H', w'⟩ v r ∧ n0 ≤ H'.length ∧ Ext (· < n0) ⟨φ, H, w⟩ ⟨φ', H', w'⟩) 6 l a w' := by
    rintro l rfl a w' hk
    refine wpAny_all (rs := [0, 1]) (by kernel_rfl) (by simp) fun i hi => ?_
    simp only [List.mem_cons, List.not_mem_nil, or_false] at hi
    rcases hi with rfl | rfl
    · exact st0 _ _ _ _ _ hk fun a w' hk' => T02 _ (by kernel_rfl) a w' hk'
    · exact st1 _ _ _ _ _ hk fun a w' hk' => T12 _ (by kernel_rfl) a w' hk'
  have T1 : ∀ (l : Array Bool), l = #[false, true, false, false, false, false, false] → ∀ (a : Act) (w' : World), Kc n0 24 ⟨φ, H, w⟩ (S true false) a w' → wpAny Pr .any (a0R Tryd.f18 4) (fun e a w' => ∃ v r φ' H', e = .panic [{ v := v, recovered := false }] ∧ a.defers = [] ∧ R r H' ∧ HOk ⟨φ', H', w'⟩ ∧ Rep ⟨φ', H', w'⟩ v r ∧ n0 ≤ H'.length ∧ Ext (· < n0) ⟨φ, H, w⟩ ⟨φ', H', w'⟩) 6 l a w' := by
    rintro l rfl a w' hk
    refine wpAny_all (rs := [0, 2]) (by kernel_rfl) (by simp) fun i hi => ?_
    simp only [List.mem_cons, List.not_mem_nil, or_false] at hi
    rcases hi with rfl | rfl
    · exact st0 _ _ _ _ _ hk fun a w' hk' => T01 _ (by kernel_rfl) a w' hk'
    · exact st2 _ _ _ _ _ hk fun a w' hk' => T12 _ (by kernel_rfl) a w' hk'
  have T0 : ∀ (l : Array Bool), l = #[true, false, false, false, false, false, false] → ∀ (a : Act) (w' : World), Kc n0 24 ⟨φ, H, w⟩ (S false false) a w' → wpAny Pr .any (a0R Tryd.f18 4) (fun e a w' => ∃ v r φ' H', e = .panic [{ v := v, recovered := false }] ∧ a.defers = [] ∧ R r H' ∧ HOk ⟨φ', H', w'⟩ ∧ Rep ⟨φ', H', w'⟩ v r ∧ n0 ≤ H'.length ∧ Ext (· < n0) ⟨φ, H, w⟩ ⟨φ', H', w'⟩) 6 l a w' := by
    rintro l rfl a w' hk
    refine wpAny_all (rs := [1, 2]) (by kernel_rfl) (by simp) fun i hi => ?_
    simp only [List.mem_cons, List.not_mem_nil, or_false] at hi
    rcases hi with rfl | rfl
    · exact st1 _ _ _ _ _ hk fun a w' hk' => T01 _ (by kernel_rfl) a w' hk'
    · exact st2 _ _ _ _ _ hk fun a w' hk' => T02 _ (by kernel_rfl) a w' hk'
  have Tn : ∀ (l : Array Bool), l = #[false, false, false, false, false, false, false] → ∀ (a : Act) (w' : World), Kc n0 24 ⟨φ, H, w⟩ (S false false) a w' → wpAny Pr .any (a0R Tryd.f18 4) (fun e a w' => ∃ v r φ' H', e = .panic [{ v := v, recovered := false }] ∧ a.defers = [] ∧ R r H' ∧ HOk ⟨φ', H', w'⟩ ∧ Rep ⟨φ', H', w'⟩ v r ∧ n0 ≤ H'.length ∧ Ext (· < n0) ⟨φ, H, w⟩ ⟨φ', H', w'⟩) 7 l a w' := by
    rintro l rfl a w' hk
    refine wpAny_all (rs := [0, 1, 2]) (by kernel_rfl) (by simp) fun i hi => ?_
    simp only [List.mem_cons, List.not_mem_nil, or_false] at hi
    rcases hi with rfl | rfl | rfl
    · exact st0 _ _ _ _ _ hk fun a w' hk' => T0 _ (by kernel_rfl) a w' hk'
    · exact st1 _ _ _ _ _ hk fun a w' hk' => T1 _ (by kernel_rfl) a w' hk'
    · exact st2 _ _ _ _ _ hk fun a w' hk' => T2 _ (by kernel_rfl) a w' hk'
  refine Tn _ (by kernel_rfl) _ _ ⟨φ, env, H, ?_, a8B hok, he.mono (a2t _ φ H w (w.drawn + 1)), rfl, hsz, hn, a2t _ φ H w _⟩
  exact ⟨rfl, rfl, rfl, rfl, fun h => absurd h Bool.false_ne_true, fun h => absurd h Bool.false_ne_true⟩
end Go.Abs
namespace Go.Abs
open Go.Proofs Go.RowKit Go.Shelf
namespace Pan
/-- A call's panic told, and a row forgotten. -/
theorem c4Q {n0 : Nat} {E0 : Emb} {P : Program} {id : Nat} {ops : Array Oper} {d : Bool} {a : Act} {w : World} {R R' : AV → Heap → Prop} {i : Nat} (hR : ∀ r H', R r H' → R' r (H'.set i none)) (hn : ∀ r H', R r H' → n0 ≤ H'.length)
    (h : (Code.region id ops d).wp P (fun e a w' => ∃ v r φ' H', e = .panic [{ v := v, recovered := false }] ∧ a.defers = [] ∧ R r H' ∧ HOk ⟨φ', H', w'⟩ ∧ Rep ⟨φ', H', w'⟩ v r ∧ n0 ≤ H'.length ∧ Ext (· < n0) E0 ⟨φ', H', w'⟩) a w) :
    (Code.region id ops d).wp P (fun e a w' => ∃ v r φ' H', e = .panic [{ v := v, recovered := false }] ∧ a.defers = [] ∧ R' r H' ∧ HOk ⟨φ', H', w'⟩ ∧ Rep ⟨φ', H', w'⟩ v r ∧ n0 ≤ H'.length ∧ Ext (· < n0) E0 ⟨φ', H', w'⟩) a w := by
  refine Code.wp_mono ?_ h
  rintro e a w' ⟨v, r, φ', H', q1, q2, q3, q4, q5, q6, q7⟩
  obtain ⟨k1, k2⟩ := q4.kill i
  refine ⟨v, r, φ', H'.set i none, q1, q2, hR _ _ q3, k1, ?_, by rw [List.length_set]; exact q6, q7.trans (k2.sub fun j hj => Nat.lt_of_lt_of_le hj q6)⟩
  exact q5.mono' k2
theorem read1_pan (H : Heap) (hH : a0r H) (s : List UInt8) (hs : s.length ≤ 65536) {e : Nat} (hX : rd 0 (a0s 59 s) = .inl e) :
    ACalls Pr a0Q [.loc (lid H 0) 0 0, .loc (lid H 1) 0 0] (hap (rdB H s .nil) [row0, row0]) fun r' H' => r' = .lit (pval e) ∧ ∃ G M, H' = hap G ([row0, row0] ++ M) ∧ G.length = (rdB H s .nil).length ∧ a0r G ∧ G = hap H [some ⟨1, [strU s]⟩, none] := by
  have hsp := b5d s 59 hs
  have hsum := b2W s
  have hp0 : 0 < (a0s 59 s).length := by rw [a2f]; omega
  have hpl : (a0s 59 s).length ≤ 65537 := by rw [a2f]; have := List.count_le_length (a := (59 : UInt8)) (l := s); omega
  generalize a0s 59 s = ps at *
  refine ACalls.open b4Q b4O (Nat.le_of_ble_eq_true rfl) fun hH2 => ?_
  unfold rdB row0
  simp only [b0O, List.cons_append, List.nil_append, List.append_nil]
  have hrf : a0r (hap H [some ⟨1, [strU s]⟩, none]) := b6v hH (RC.one (a1n _) (RC.none RC.nil))
  refine Safe.rg rfl ?_
  simp only [a8N, E3, Nat.reduceLeDiff, Nat.reduceSub, Nat.reduceAdd, Nat.reduceEqDiff, reduceCtorEq, ↓reduceIte]
  have hlen : ∀ G : Heap, lenV G (.sl 1 (ps.map strU)) = some (.int .i64 ps.length) := fun G => by simp [lenV]
  refine Safe.rg rfl ?_
  simp only [a8M, b5O, ES, E3, Nat.reduceLeDiff, Nat.reduceSub, Nat.reduceAdd, Nat.reduceEqDiff, reduceCtorEq, ↓reduceIte]
  first | refine (hsp).acall ?_ | refine (hsp).dcall ?_ | refine (hsp).dgcall ?_
  try simp only [E3, Nat.reduceLeDiff, Nat.reduceSub, Nat.reduceAdd, Nat.reduceEqDiff, reduceCtorEq, ↓reduceIte]
  simp only [List.length_map]
  refine Safe.lp rfl ?_
  refine Safe.keep [0, 1, 2, 6, 7, 8] ?_
  simp only [E3, Nat.reduceLeDiff, Nat.reduceSub, Nat.reduceAdd, Nat.reduceEqDiff, reduceCtorEq, ↓reduceIte]
  refine Safe.loopW (fun a : Nat × Nat × List (List Int) => ps.length - a.1) (fun a => [(0, .loc (lid H 0) 0 0), (1, .loc (lid H 1) 0 0), (2, .int .i64 a.2.1), (6, .sl 1 (ps.map strU)), (7, .int .i64 ps.length), (8, .int .i64 a.1)])
    (fun a => if a.1 = 0 then hap H [some ⟨1, [strU s]⟩, some ⟨1, [.nil]⟩, some ⟨1, [.int .i64 0]⟩, some ⟨1, [.int .i64 0]⟩] else hap H [some ⟨1, [strU s]⟩, some ⟨1, [.mu (lid H 4) 0 a.1 none]⟩, some ⟨1, [.int .i64 0]⟩, some ⟨1, [.int .i64 0]⟩, some ⟨1, (a4P a.2.2).map vecV⟩])
    (fun a => a.1 ≤ ps.length ∧ a.2.2.length = a.1 ∧ rd 0 ps = b0V a.2.2 (rd a.2.1 (ps.drop a.1)) ∧ a.2.1 + ((ps.drop a.1).map fun p => p.length + 1).sum = s.length + 1) (0, 0, []) rfl rfl ⟨Nat.zero_le _, rfl, (b3L _).symm, by simpa using hsum⟩ ?_
  rintro ⟨i, f, X'⟩ ⟨hi, hXl, hrd, hsm⟩ ih
  simp only at hi hXl hrd hsm
  refine Safe.inLoop ?_
  by_cases hlt' : i < ps.length
  · have hlt : ((i : Int) < (ps.length : Int)) = True := eq_true (by omega)
    have hiw : IntKind.wrap .i64 ((i : Int) + 1) = ((i + 1 : Nat) : Int) := by rw [a0g] <;> omega
    have hdr : ps.drop i = ps[i] :: ps.drop (i + 1) := List.drop_eq_getElem_cons hlt'
    rw [hdr] at hrd hsm
    simp only [List.map_cons, List.sum_cons] at hsm
    rw [rd, hX] at hrd
    cases hw : wd f ps[i] with
    | inl e' =>
      have hee : e' = e := by rw [hw] at hrd; simp only [b0V, Sum.inl.injEq] at hrd; exact hrd.symm
      subst hee
      have hwp := b6L ps[i] f e' hw (by omega) (by omega)
      by_cases h0 : i = 0
      · subst h0
        rw [if_pos rfl]
        refine Safe.rg rfl ?_
        simp only [a1M, hlt, E3, Nat.reduceLeDiff, Nat.reduceSub, Nat.reduceAdd, Nat.reduceEqDiff, reduceCtorEq, ↓reduceIte]
        refine Safe.cd rfl ?_
        simp only [E3, Nat.reduceLeDiff, Nat.reduceSub, Nat.reduceAdd, Nat.reduceEqDiff, reduceCtorEq, ↓reduceIte]
        refine Safe.rg rfl ?_
        simp only [a1L, b3A _ ps .i64 0 hlt', ES, E3, Nat.reduceLeDiff, Nat.reduceSub, Nat.reduceAdd, Nat.reduceEqDiff, reduceCtorEq, ↓reduceIte]
        refine Safe.rawG rfl fun φ w tmps hok he hsz hn => c4Q (i := lid H 1) ?_ ?_ (b7i hok he hsz hn (b := .nil) ?_ (hwp _))
        · rintro r H' ⟨rfl, rfl⟩
          exact ⟨rfl, hap H [some ⟨1, [strU s]⟩, none], [], by rw [a4v]; simp [hap], by simp [hap, lid], hrf, rfl⟩
        · rintro r H' ⟨rfl, rfl⟩
          exact hn
        · simp only [ES, E3, Nat.reduceLeDiff, Nat.reduceSub, Nat.reduceAdd, Nat.reduceEqDiff, reduceCtorEq, ↓reduceIte]
      · rw [if_neg h0]
        refine Safe.rg rfl ?_
        simp only [a1M, hlt, E3, Nat.reduceLeDiff, Nat.reduceSub, Nat.reduceAdd, Nat.reduceEqDiff, reduceCtorEq, ↓reduceIte]
        refine Safe.cd rfl ?_
        simp only [E3, Nat.reduceLeDiff, Nat.reduceSub, Nat.reduceAdd, Nat.reduceEqDiff, reduceCtorEq, ↓reduceIte]
        refine Safe.rg rfl ?_
        simp only [a1L, b3A _ ps .i64 i hlt', ES, E3, Nat.reduceLeDiff, Nat.reduceSub, Nat.reduceAdd, Nat.reduceEqDiff, reduceCtorEq, ↓reduceIte]
        refine Safe.rawG rfl fun φ w tmps hok he hsz hn => c4Q (i := lid H 1) ?_ ?_ (b7i hok he hsz hn (b := .mu (lid H 4) 0 i none) ?_ (hwp _))
        · rintro r H' ⟨rfl, rfl⟩
          exact ⟨rfl, hap H [some ⟨1, [strU s]⟩, none], [some ⟨1, (a4P X').map vecV⟩], by rw [a4v]; simp [hap], by simp [hap, lid], hrf, rfl⟩
        · rintro r H' ⟨rfl, rfl⟩
          exact hn
        · simp only [ES, E3, Nat.reduceLeDiff, Nat.reduceSub, Nat.reduceAdd, Nat.reduceEqDiff, reduceCtorEq, ↓reduceIte]
    | inr v =>
      rw [hw] at hrd
      simp only at hrd
      have hwi := b9k hw (show ps[i].length ≤ 65536 by omega)
      have hcb : clb (vecV (v.map canZ)) = true := b6C.2 (a0I _)
      have hf1 : IntKind.wrap .i64 ((ps[i].length : Int) + 1) = ((ps[i].length + 1 : Nat) : Int) := by rw [a0g] <;> omega
      have hf2 : IntKind.wrap .i64 ((f : Int) + ((ps[i].length + 1 : Nat) : Int)) = ((f + ps[i].length + 1 : Nat) : Int) := by rw [a0g] <;> omega
      have hnx : rd 0 ps = b0V (X' ++ [v]) (rd (f + ps[i].length + 1) (ps.drop (i + 1))) := by rw [hX, hrd, b3M]
      have hcm : (a4P (X' ++ [v])).map vecV = (a4P X').map vecV ++ [vecV (v.map canZ)] := by simp [a4P, cans]
      have hlx : (a4P X').length = i := by simp [a4P, hXl]
      by_cases h0 : i = 0
      · subst h0
        have hx0 : X' = [] := List.length_eq_zero_iff.1 hXl
        subst hx0
        have happ := fun env => b9L (lid H 4) env H [some ⟨1, [strU s]⟩, some ⟨1, [.nil]⟩, some ⟨1, [.int .i64 0]⟩, some ⟨1, [.int .i64 0]⟩] 1 24 false (.sl 1 [vecV (v.map canZ)]) [vecV (v.map canZ)] (a2Q _ 1 _) (by decide) (by simp) (by simp)
        simp only [List.length_cons, List.length_nil, Nat.zero_add, Nat.reduceAdd, List.cons_append, List.nil_append] at happ
        rw [if_pos rfl]
        refine Safe.rg rfl ?_
        simp only [a1M, hlt, E3, Nat.reduceLeDiff, Nat.reduceSub, Nat.reduceAdd, Nat.reduceEqDiff, reduceCtorEq, ↓reduceIte]
        refine Safe.cd rfl ?_
        simp only [E3, Nat.reduceLeDiff, Nat.reduceSub, Nat.reduceAdd, Nat.reduceEqDiff, reduceCtorEq, ↓reduceIte]
        refine Safe.rg rfl ?_
        simp only [a1L, b3A _ ps .i64 0 hlt', ES, E3, Nat.reduceLeDiff, Nat.reduceSub, Nat.reduceAdd, Nat.reduceEqDiff, reduceCtorEq, ↓reduceIte]
        refine Safe.rawD rfl (l := a4f) (mu := fun _ _ => false) (by kernel_rfl) ?_
        simp only [a4f, E3, Nat.reduceLeDiff, Nat.reduceSub, Nat.reduceAdd, Nat.reduceEqDiff, reduceCtorEq, ↓reduceIte]
        first | refine (hwi).acall ?_ | refine (hwi).dcall ?_ | refine (hwi).dgcall ?_
        try simp only [E3, Nat.reduceLeDiff, Nat.reduceSub, Nat.reduceAdd, Nat.reduceEqDiff, reduceCtorEq, ↓reduceIte]
        simp only [hcb, happ, ES, E3, Nat.reduceLeDiff, Nat.reduceSub, Nat.reduceAdd, Nat.reduceEqDiff, reduceCtorEq, ↓reduceIte]
        refine Safe.rg rfl ?_
        simp only [a5y, a0e, hf1, hf2, E3, Nat.reduceLeDiff, Nat.reduceSub, Nat.reduceAdd, Nat.reduceEqDiff, reduceCtorEq, ↓reduceIte]
        refine Safe.rg rfl ?_
        simp only [a5x, hiw, E3, Nat.reduceLeDiff, Nat.reduceSub, Nat.reduceAdd, Nat.reduceEqDiff, reduceCtorEq, ↓reduceIte]
        refine Safe.keep [0, 1, 2, 6, 7, 8] ?_
        simp only [E3, Nat.reduceLeDiff, Nat.reduceSub, Nat.reduceAdd, Nat.reduceEqDiff, reduceCtorEq, ↓reduceIte]
        simp only [Nat.zero_add] at hsm hnx
        have hn := ih (1, f + ps[0].length + 1, [v]) ⟨by simp only; omega, rfl, hnx, by simp only; omega⟩ (by simp only; omega)
        simp only at hn
        exact hn
      · have hxl : ((a4P X').map vecV).length = i := by rw [List.length_map, hlx]
        have h1 : nref (lid H 4) (strU s) = true := a9L _ _
        have happ := fun env => c2F (L := [some ⟨1, [strU s]⟩, some ⟨1, [.mu (lid H 4) 0 i none]⟩, some ⟨1, [.int .i64 0]⟩, some ⟨1, [.int .i64 0]⟩, some ⟨1, (a4P X').map vecV⟩]) hH (i := 4) (n0 := lid H 4) (wd := 1) (bytes := 24) (len := i) (env := env) (y := .sl 1 [vecV (v.map canZ)]) (xs := (a4P X').map vecV) (ys := [vecV (v.map canZ)]) rfl hxl.symm (Nat.le_refl _) (a2Q _ 1 _)
          (fun a ha => (show a = vecV (v.map canZ) by simpa [vecV, AV.cells] using ha) ▸ a1J (a0I _)) (fun a ha => by obtain ⟨y, _, rfl⟩ := List.mem_map.1 ha; exact a1J (a0I _)) (by simp; omega) (by simp; omega)
        simp only [b3C, c0f, b6R, List.map_cons, List.map_nil, b2U h1, b6S, b2U (a8z (lid H 4) .i64 0), List.length_cons, List.length_nil, Nat.zero_add, List.set_cons_succ, List.set_cons_zero] at happ
        rw [if_neg h0]
        refine Safe.rg rfl ?_
        simp only [a1M, hlt, E3, Nat.reduceLeDiff, Nat.reduceSub, Nat.reduceAdd, Nat.reduceEqDiff, reduceCtorEq, ↓reduceIte]
        refine Safe.cd rfl ?_
        simp only [E3, Nat.reduceLeDiff, Nat.reduceSub, Nat.reduceAdd, Nat.reduceEqDiff, reduceCtorEq, ↓reduceIte]
        refine Safe.rg rfl ?_
        simp only [a1L, b3A _ ps .i64 i hlt', ES, E3, Nat.reduceLeDiff, Nat.reduceSub, Nat.reduceAdd, Nat.reduceEqDiff, reduceCtorEq, ↓reduceIte]
        refine Safe.rawD rfl (l := a4f) (mu := fun _ _ => false) (by kernel_rfl) ?_
        simp only [a4f, E3, Nat.reduceLeDiff, Nat.reduceSub, Nat.reduceAdd, Nat.reduceEqDiff, reduceCtorEq, ↓reduceIte]
        first | refine (hwi).acall ?_ | refine (hwi).dcall ?_ | refine (hwi).dgcall ?_
        try simp only [E3, Nat.reduceLeDiff, Nat.reduceSub, Nat.reduceAdd, Nat.reduceEqDiff, reduceCtorEq, ↓reduceIte]
        simp only [hcb, happ, ES, E3, Nat.reduceLeDiff, Nat.reduceSub, Nat.reduceAdd, Nat.reduceEqDiff, reduceCtorEq, ↓reduceIte]
        refine Safe.rg rfl ?_
        simp only [a5y, a0e, hf1, hf2, E3, Nat.reduceLeDiff, Nat.reduceSub, Nat.reduceAdd, Nat.reduceEqDiff, reduceCtorEq, ↓reduceIte]
        refine Safe.rg rfl ?_
        simp only [a5x, hiw, E3, Nat.reduceLeDiff, Nat.reduceSub, Nat.reduceAdd, Nat.reduceEqDiff, reduceCtorEq, ↓reduceIte]
        refine Safe.keep [0, 1, 2, 6, 7, 8] ?_
        simp only [E3, Nat.reduceLeDiff, Nat.reduceSub, Nat.reduceAdd, Nat.reduceEqDiff, reduceCtorEq, ↓reduceIte]
        have hn := ih (i + 1, f + ps[i].length + 1, X' ++ [v]) ⟨by simp only; omega, by simp [hXl], hnx, by simp only; omega⟩ (by simp only; omega)
        simp only [Nat.add_eq_zero_iff, h0, false_and, if_false, hcm] at hn
        exact hn
  · have hin : i = ps.length := by omega
    subst hin
    exfalso
    rw [List.drop_length, rd, hX] at hrd
    simp [b0V] at hrd
end Pan
end Go.Abs
namespace Go.Abs
open Go.Proofs Go.RowKit Go.Shelf
/-- The function that catches a panic, where none comes: all rows stay. -/
theorem b8Y (f : FuncId) (caps : List AV) (H : Heap) (R : Heap → Prop) (he : ∀ args w, (callFunc f args).run Pr w = .ok (.enter f args) w)
    (hdo : ACalls Pr f caps (hap H [row0, row0]) fun r' H' => r' = .tup [] ∧ ∃ G M, H' = hap G ([row0, row0] ++ M) ∧ G.length = H.length ∧ R H') : ACalls Pr a1B [.fn f caps] H fun r' H' => r' = .tup [.int .i64 0, .int .i64 0] ∧ R H' := by
  refine ⟨⟨_, Tryd.func17, by decide +kernel, by kernel_rfl⟩, fun φ w vs hok hl hrep => ?_⟩
  match vs, hl with
  | [v], _ =>
    have hv := hrep 0 v _ rfl rfl
    cases hv with
    | dead v a id hr hd h1 => simp [AV.ref] at hr
    | fn _ vs _ hlen hcap =>
      obtain ⟨φ1, k1, x1, p1⟩ := a8x hok 3
      obtain ⟨φ2, k2, x2, p2⟩ := a8x k1 23
      have hH2 : H ++ [row0] ++ [row0] = hap H [row0, row0] := by simp [hap]
      have hl1 : (H ++ [row0]).length = H.length + 1 := by simp
      have hl2 : (H ++ [row0] ++ [row0]).length = H.length + 2 := by simp
      have hs1 : (w.alloc (.cells #[Value.int IntKind.i64 0] 3)).heap.size = w.heap.size + 1 := by simp
      have x12 : Ext (· < H.length) ⟨φ, H, w⟩ ⟨φ2, H ++ [row0] ++ [row0], (w.alloc (.cells #[Value.int IntKind.i64 0] 3)).alloc (.cells #[Value.int IntKind.i64 0] 23)⟩ := x1.trans (x2.sub fun i hi => by rw [hl1]; have : i < H.length := hi; show i < _; omega)
      have q1 : φ2 H.length = some w.heap.size := by
        have := x2.phi H.length (by rw [hl1]; show _ < _; omega) (by rw [hl1]; show _ < _; omega)
        exact this.trans p1
      have q2 : φ2 (H.length + 1) = some (w.heap.size + 1) := by rw [hl1, hs1] at p2; exact p2
      rw [hH2] at k2 x12 hl2
      have hcall := hdo.2 φ2 _ vs k2 hlen fun k v a hk ha => (hcap k v a hk ha).mono' x12
      refine (b5D f vs.toArray w he (fun w2 => ∃ φ3 G M, HOk ⟨φ3, hap G ([row0, row0] ++ M), w2⟩ ∧ G.length = H.length ∧ R (hap G ([row0, row0] ++ M)) ∧ Ext (· < (hap H [row0, row0]).length) ⟨φ2, hap H [row0, row0], (w.alloc (.cells #[Value.int IntKind.i64 0] 3)).alloc (.cells #[Value.int IntKind.i64 0] 23)⟩ ⟨φ3, hap G ([row0, row0] ++ M), w2⟩) (hcall.mono ?_) ?_).mono ?_
      · rintro e w2 ⟨v, r, φ3, H3, rfl, ⟨rfl, G, M, rfl, g1, g3⟩, g4, g5, g6, g7⟩
        refine ⟨?_, φ3, G, M, g4, g1, g3, g7⟩
        have := a7E g5
        rw [this]; rfl
      · rintro w2 ⟨φ3, G, M, g4, g1, g3, g7⟩
        have e1 : φ3 H.length = some w.heap.size := (g7.phi H.length (by rw [hl2]; show _ < _; omega) (by rw [hl2]; show _ < _; omega)).trans q1
        have e2 : φ3 (H.length + 1) = some (w.heap.size + 1) := (g7.phi (H.length + 1) (by rw [hl2]; show _ < _; omega) (by rw [hl2]; show _ < _; omega)).trans q2
        obtain ⟨c1, t1, a1, b1⟩ := a7D (E := ⟨φ3, hap G ([row0, row0] ++ M), w2⟩) g4 (id := H.length) (by simp [hap, ← g1]) e1
        obtain ⟨c2, t2, a2, b2⟩ := a7D (E := ⟨φ3, hap G ([row0, row0] ++ M), w2⟩) g4 (id := H.length + 1) (by simp [hap, ← g1]) e2
        exact ⟨c1, t1, c2, t2, a1, b1, a2, b2⟩
      · rintro e w2 ⟨rfl, φ3, G, M, g4, g1, g3, g7⟩
        refine ⟨_, .tup [.int .i64 0, .int .i64 0], φ3, hap G ([row0, row0] ++ M), rfl, ⟨rfl, g3⟩, g4, ?_, by simp [hap, ← g1], ?_⟩
        · exact .tup [.int .i64 0, .int .i64 0] _ rfl fun k v a hk ha => by
            match k with
            | 0 => cases hk; cases ha; exact .int _ _
            | 1 => cases hk; cases ha; exact .int _ _
            | k + 2 => simp at hk
        · exact x12.trans (g7.sub fun i hi => by rw [hl2]; have : i < H.length := hi; show i < _; omega)
theorem b8j : a0o Pr a1R [strU [], strU [32]] (strU []) := by
  have e1 : binV .eql (strU []) (strU []) = some (.bool true) := by rw [a2R]; rfl
  refine a0o.intro a7z a7y (Nat.le_of_ble_eq_true rfl) (a1n _) fun H hH => ?_
  refine Safe.rg rfl ?_
  simp only [a4u, E3, seval]
  refine Safe.rg rfl ?_
  simp only [a4t, strE, e1, E3, seval]
  refine Safe.cd rfl ?_
  simp only [E3, seval]
  refine Safe.rg rfl ?_
  simp only [a7x, E3, seval]
  refine Safe.rt rfl ?_
  simp only [E3, seval]
  exact ⟨_, rfl⟩
theorem b9Q {l : List UInt8} (h : a4Q l = true) : b3s 32 (b3r 32 l) = [] := by
  have e : b3r 32 l = [] := by
    unfold b3r
    have hd : ∀ m : List UInt8, (∀ x ∈ m, x = 32) → m.dropWhile (· == 32) = [] := fun m hm => by
      induction m with
      | nil => rfl
      | cons a m ih =>
        rw [List.dropWhile_cons_of_pos (by simpa using hm a (by simp))]
        exact ih fun x hx => hm x (by simp [hx])
    rw [hd _ fun x hx => by simpa using List.all_eq_true.1 h x (List.mem_reverse.1 hx)]; rfl
  rw [e]; rfl
theorem b8k (l : List UInt8) (hl : l.length ≤ 65536) : ∃ t, a0o Pr a1R [strU l, strU [32]] (strU t) ∧ binV .eql (strU t) (strU []) = some (.bool (a4Q l)) := by
  by_cases h0 : l = []
  · subst h0
    exact ⟨[], b8j, by rw [a2R]; rfl⟩
  · refine ⟨_, b6O l (by omega) h0, ?_⟩
    rw [a2R]
    cases hb : a4Q l with
    | true => rw [b9Q hb]; rfl
    | false =>
      have : ∃ c ∈ l, c ≠ 32 := by
        unfold a4Q at hb
        rw [List.all_eq_false] at hb
        obtain ⟨x, hx, h⟩ := hb
        exact ⟨x, hx, by simpa using h⟩
      have hn := c5d this
      simp [hn]
theorem c1x {n0 : Nat} {L : Heap} (h : RC L) : Own n0 L := fun b hb a ha => (h b hb a ha).ref
theorem b7h (s : List UInt8) : GrC Pr a4k [strU s] fun n A r => ∃ a, r = .tup [a, .int .i64 (rdO s).2.1, .int .i64 (rdO s).2.2] ∧ MatF n A a (rdO s).1 := by
  have hent : ∀ args w, (callFunc a0Q args).run Pr w = .ok (.enter a0Q args) w := enters_of Tryd.func18 (by kernel_rfl) rfl
  intro H hH
  refine ACalls.open b8B b8A (Nat.le_of_ble_eq_true rfl) fun hH => ?_
  refine Safe.rg rfl ?_
  simp only [b4e, E3, seval]
  by_cases hl : 65536 < s.length
  · have hbig : ((s.length : Int) > 65536) = True := eq_true (by omega)
    have ho : rdO s = ([], 0, 2) := by rw [rdO, if_pos hl]
    rw [ho]
    refine Safe.rg rfl ?_
    simp only [a9u, ES, a0e, hbig, E3, seval]
    refine Safe.cd rfl ?_
    simp only [E3, seval]
    refine Safe.rg rfl ?_
    simp only [b4d, E3, seval]
    refine Safe.rt rfl ?_
    simp only [one3, E3, seval]
    exact ⟨_, rfl, ⟨_, rfl, .inl ⟨rfl, rfl⟩⟩, c1x (RC.one (a1n _) RC.nil)⟩
  obtain ⟨tr, htr, he1⟩ := b8k s (by omega)
  have hbig : ((s.length : Int) > 65536) = False := eq_false (by omega)
  refine Safe.rg rfl ?_
  simp only [a9u, ES, a0e, hbig, E3, seval]
  refine Safe.cd rfl ?_
  simp only [E3, seval]
  refine Safe.rg rfl ?_
  simp only [b4c, ES, b5O, strE, E3, seval]
  first | refine (htr).acall ?_ | refine (htr).dcall ?_ | refine (htr).dgcall ?_
  try simp only [E3, seval]
  simp only [he1, E3, seval]
  refine Safe.cd rfl ?_
  simp only [E3, seval]
  cases hb : a4Q s with
  | true =>
    have ho : rdO s = ([], 0, 0) := by rw [rdO, if_neg hl, if_pos hb]
    rw [ho]
    simp only [E3, seval]
    refine Safe.rg rfl ?_
    simp only [b4b, E3, seval]
    refine Safe.rt rfl ?_
    simp only [one3, E3, seval]
    exact ⟨_, rfl, ⟨_, rfl, .inl ⟨rfl, rfl⟩⟩, c1x (RC.one (a1n _) RC.nil)⟩
  | false =>
    simp only [E3, seval]
    refine Safe.rg rfl ?_
    simp only [b4a, E3, seval]
    cases hX : rd 0 (a0s 59 s) with
    | inl e =>
      have ho : rdO s = ([], e, 4) := by rw [rdO, if_neg hl, if_neg (by rw [hb]; simp), hX]
      rw [ho]
      have hca := b5E a0Q [.loc (lid H 0) 0 0, .loc (lid H 1) 0 0] (rdB H s .nil) e (fun G => G = hap H [some ⟨1, [strU s]⟩, none]) hent (Pan.read1_pan H hH s (by omega) hX)
      unfold rdB at hca
      refine Safe.rg rfl ?_
      simp only [a9t, E3, seval]
      refine hca.mono ?_
      rintro r' H' ⟨rfl, _, rfl⟩
      simp only [E3, seval]
      refine Safe.rg rfl ?_
      simp only [a9s, E3, seval]
      refine Safe.cd rfl ?_
      simp only [E3, seval]
      refine Safe.rg rfl ?_
      simp only [b3Z, E3, seval]
      refine Safe.rt rfl ?_
      simp only [one3, E3, seval]
      exact ⟨_, rfl, ⟨_, rfl, .inl ⟨rfl, rfl⟩⟩, c1x (RC.one (a1n _) (RC.none RC.nil))⟩
    | inr X =>
      have ho : rdO s = (a4P X, 0, 0) := by rw [rdO, if_neg hl, if_neg (by rw [hb]; simp), hX]
      rw [ho]
      have hca := b8Y a0Q [.loc (lid H 0) 0 0, .loc (lid H 1) 0 0] (rdB H s .nil) (fun G => ∃ a M, G = rZ H s a M ∧ MatF (H.length + 4) G a (a4P X) ∧ Own (H.length + 4) M ∧ Ref (fun j => H.length + 4 ≤ j ∧ j < H.length + 4 + M.length) a) hent (by
        have := c0i H hH s (by omega) X hX
        have e0 : rZ H s .nil [] = hap (rdB H s .nil) [row0, row0] := by simp [rZ, rdB, hap]
        rw [e0] at this
        refine this.mono ?_
        rintro r' H' ⟨rfl, a, M, rfl, h1, h2, h3⟩
        exact ⟨rfl, rdB H s a, M, by simp [rZ, rdB, hap], by simp [rdB, hap], a, M, rfl, h1, h2, h3⟩)
      unfold rdB at hca
      refine Safe.rg rfl ?_
      simp only [a9t, E3, seval]
      refine hca.mono ?_
      rintro r' H' ⟨rfl, a, M, rfl, h1, h2, h3⟩
      simp only [E3, seval]
      refine Safe.rg rfl ?_
      simp only [a9s, E3, seval]
      refine Safe.cd rfl ?_
      simp only [E3, seval]
      have hac : a.cells = [a] := by
        rcases h1 with ⟨rfl, _⟩ | ⟨id, oc, xs, rfl, _⟩ <;> rfl
      refine Safe.rg rfl ?_
      simp only [b3Y, b9p, hac, List.length_cons, List.length_nil, Nat.zero_add, a7r, List.getD_cons_zero, List.getElem?_cons_zero, E3, seval]
      refine Safe.rt rfl ?_
      simp only [one3, E3, seval]
      refine ⟨some ⟨1, [strU s]⟩ :: some ⟨1, [a]⟩ :: row0 :: row0 :: M, rfl, ⟨a, rfl, RowF.low (fun h => RowF.low (fun h => h.low (Nat.le_add_right _ 4)) (Nat.le_add_right _ 4) h) (Nat.le_add_right _ 4) h1⟩, fun b hb c hc => ?_⟩
      have hlen : (some ⟨1, [strU s]⟩ :: some ⟨1, [a]⟩ :: row0 :: row0 :: M : Heap).length = 4 + M.length := by simp; omega
      rw [hlen]
      simp only [List.mem_cons] at hb
      rcases hb with hb | hb | hb | hb | hb
      · cases hb
        simp only [Blk.flat, List.flatMap_cons, List.flatMap_nil, List.append_nil] at hc
        exact (a8o (a1n s) c hc).ref
      · cases hb
        simp only [Blk.flat, List.flatMap_cons, List.flatMap_nil, List.append_nil, hac, List.mem_singleton] at hc
        subst hc
        exact h3.mono fun j hj => by omega
      · cases hb
        simp [Blk.flat, AV.cells] at hc
        subst hc; exact .int _ _
      · cases hb
        simp [Blk.flat, AV.cells] at hc
        subst hc; exact .int _ _
      · exact (h2 b hb c hc).mono fun j hj => by omega
end Go.Abs
namespace Go.Abs
open Go.Proofs Go.RowKit Go.Shelf
theorem c2n {D : List UInt8} (h : ∀ c ∈ D, isDg c) {n : Nat} (hn : D.length ≤ n) : decV D < LB ^ n :=
  Nat.lt_of_lt_of_le (a5D h) (Nat.le_trans (Nat.pow_le_pow_left (show 10 ≤ LB by decide) _) (Nat.pow_le_pow_right (by decide) hn))
theorem c5f {t : List UInt8} {z : Int} (h : tokV t = some z) {n : Nat} (hn : t.length ≤ n) : z.natAbs < LB ^ n := by
  unfold tokV at h
  split at h
  · split at h
    · rename_i hb
      cases h
      rw [c1n]
      exact c2n (a1G.1 hb).2.1 (by simp at hn; omega)
    · cases h
  · split at h
    · rename_i hb
      cases h
      rw [c1n]
      exact c2n (a1G.1 hb).2.1 hn
    · cases h
theorem c0U (s : List UInt8) : (a3S s).length ≤ s.length := by
  have := congrArg List.length (c0T s)
  rw [List.length_append] at this; omega
theorem c4W (m : Nat) : ∀ (n : Nat) (s : List UInt8) (k : Nat) (zs : List Int), s.length ≤ n → s.length ≤ m → wd k s = .inr zs → ∀ z ∈ zs, z.natAbs < LB ^ m
  | n, [], k, zs, _, _, h, z, hz => by rw [b1H] at h; cases h; cases hz
  | 0, c :: s, k, zs, hn, _, h, z, hz => by simp at hn
  | n + 1, c :: s, k, zs, hn, hm, h, z, hz => by
    by_cases hc : c = 32
    · subst hc
      rw [b9N] at h
      exact c4W m n s (k + 1) zs (by simpa using hn) (by simp at hm; omega) h z hz
    · rw [b4Y k hc] at h
      cases ht : tokV (a3S (c :: s)) with
      | none => rw [ht] at h; cases h
      | some y =>
        rw [ht] at h
        simp only at h
        have hd := a2P (s := s) hc
        cases hw : wd (k + (a3S (c :: s)).length) (a7t (c :: s)) with
        | inl e => rw [hw] at h; cases h
        | inr ys =>
          rw [hw] at h
          cases h
          rcases List.mem_cons.1 hz with rfl | hz
          · exact c5f ht (Nat.le_trans (c0U _) hm)
          · exact c4W m n _ _ ys (by omega) (by omega) hw z hz
theorem c4B {s : List UInt8} {k : Nat} {zs : List Int} (hl : s.length ≤ 65536) (h : wd k s = .inr zs) : Vok 65536 (zs.map canZ) :=
  ⟨by have := c4C _ s k zs (Nat.le_refl _) h; simp; omega, fun x hx => by
    obtain ⟨z, hz, rfl⟩ := List.mem_map.1 hx
    exact c4V (c4W 65536 _ s k zs (Nat.le_refl _) hl h z hz)⟩
theorem c5l (s : List UInt8) : Vok 65536 (rvO s).1 := by
  unfold rvO
  split
  · exact ⟨by simp, fun x hx => by cases hx⟩
  · split
    · exact ⟨by simp, fun x hx => by cases hx⟩
    · rename_i h; exact c4B (by omega) h
theorem c4J : ∀ (ps : List (List UInt8)) (f : Nat) (X : List (List Int)), (∀ p ∈ ps, p.length ≤ 65536) → rd f ps = .inr X → X.length = ps.length ∧ ∀ v ∈ X, Vok 65536 (v.map canZ)
  | [], f, X, _, h => by rw [rd] at h; cases h; exact ⟨rfl, fun v hv => by cases hv⟩
  | p :: ps, f, X, hp, h => by
    rw [rd] at h
    cases hw : wd f p with
    | inl e => rw [hw] at h; cases h
    | inr v =>
      rw [hw] at h
      simp only at h
      cases hr : rd (f + p.length + 1) ps with
      | inl e => rw [hr] at h; cases h
      | inr Y =>
        rw [hr] at h
        cases h
        obtain ⟨h1, h2⟩ := c4J ps _ Y (fun q hq => hp q (by simp [hq])) hr
        refine ⟨by simp [h1], fun u hu => ?_⟩
        rcases List.mem_cons.1 hu with rfl | hu
        · exact c4B (hp p (by simp)) hw
        · exact h2 u hu
theorem c4N : ∀ (l : List Nat) (x : Nat), x ∈ l → x ≤ l.sum
  | y :: l, x, h => by
    rw [List.sum_cons]
    rcases List.mem_cons.1 h with rfl | h
    · omega
    · have := c4N l x h; omega
theorem c5w (s : List UInt8) : ∀ p ∈ a0s 59 s, p.length ≤ s.length := fun p hp => by
  have hs := b2W s
  have := c4N ((a0s 59 s).map fun p => p.length + 1) (p.length + 1) (List.mem_map.2 ⟨p, hp, rfl⟩)
  omega
theorem c5m (s : List UInt8) : Mok 65536 (rdO s).1 := by
  unfold rdO
  split
  · exact b8y _
  · split
    · exact b8y _
    · split
      · exact b8y _
      · rename_i hl _ X h
        obtain ⟨h1, h2⟩ := c4J _ _ _ (fun p hp => by have := c5w s p hp; omega) h
        have hpl : (a0s 59 s).length ≤ 65537 := by rw [a2f]; have := List.count_le_length (a := (59 : UInt8)) (l := s); omega
        refine ⟨by simp [a4P]; omega, fun v hv => ?_⟩
        obtain ⟨u, hu, rfl⟩ := List.mem_map.1 hv
        exact h2 u hu
end Go.Abs
namespace Go.Abs
open Go.Proofs Go.RowKit Go.Shelf
/-- Two matrices compared, of which the first is the call's own. -/
theorem c3W {H A : Heap} {a : AV} {X : List (List ZI)} (h : MatF H.length A a X) (hX : Mok 17592186044416 X) : ACalls Pr a4T [a, matV X] A fun r' H' => r' = .bool true ∧ H' = A :=
  a0o.peek (b3e X hX) rfl fun φ w hok k c d v hc hd hr => by
    have hK : Shut H.length A (A.map fun _ => none) := fun id b hb => by
      rw [List.getElem?_map, Option.map_eq_some_iff] at hb
      obtain ⟨_, _, hb⟩ := hb
      cases hb
    match k with
    | 0 =>
      cases hc; cases hd
      exact h.shutM hok hK hr
    | 1 =>
      cases hc; cases hd
      refine Rep.mono (E := ⟨φ, A, w⟩) (E' := ⟨φ, A.map fun _ => none, w⟩) (S := fun _ => False) ⟨rfl, rfl, rfl, Nat.le_refl _, fun _ h => h.elim, fun _ h => h.elim, fun _ _ h => h.elim, fun _ _ _ h => h.elim, fun b _ hm => ?_, fun _ _ _ => rfl⟩ hr (b4f X).ref
      obtain ⟨id, b', hb, _⟩ := hm
      rw [List.getElem?_map, Option.map_eq_some_iff] at hb
      obtain ⟨_, _, hb⟩ := hb
      cases hb
    | k + 2 => simp at hc
theorem GrC.pureM {P : Program} {f : FuncId} {args : List AV} {X : List (List ZI)} {i e : Int} (h : GrC P f args fun n A r => ∃ a, r = .tup [a, .int .i64 i, .int .i64 e] ∧ MatF n A a X) : ∀ H, a0r H → ACalls P f args H fun r' H' => r' = .tup [matV X, .int .i64 i, .int .i64 e] ∧ H' = H := by
  intro H hR
  have h1 := h H hR
  refine ⟨h1.1, fun φ w vs hok hl hrep => (h1.2 φ w vs hok hl hrep).mono ?_⟩
  rintro e' w' ⟨v, r', φ', H', rfl, ⟨L, rfl, ⟨a, rfl, hT⟩, hO⟩, q1, q2, q3, q4⟩
  have hfree : ∀ (j : Nat) bj, j < H.length → (hap H L)[j]? = some (some bj) → ∀ a ∈ bj.flat, Ref (· < H.length) a := by
    intro j bj hj hb
    simp only [hap] at hb
    rw [List.getElem?_append_left hj] at hb
    exact hok.refs hb
  have hcut := HOk.cut q1 H.length hfree
  have ht : (hap H L).take H.length = H := by simp [hap]
  simp only [ht] at hcut
  have hK : Shut H.length (hap H L) H := fun id b hb => ⟨a0f hb, b, a3C hb⟩
  refine ⟨v, .tup [matV X, .int .i64 i, .int .i64 e], φ', H, rfl, ⟨rfl, rfl⟩, hcut.1, ?_, Nat.le_refl _, q4.trans hcut.2⟩
  cases q2 with
  | dead _ _ id hr hd h1 => simp [AV.ref] at hr
  | tup vs cs hlen hrp =>
    refine .tup vs _ hlen fun k v c hv hc => ?_
    match k with
    | 0 =>
      cases hc
      exact hT.shutM q1 hK (hrp 0 v a hv rfl)
    | 1 =>
      cases hc
      have := hrp 1 v _ hv rfl
      rw [a0n this]; exact .int _ _
    | 2 =>
      cases hc
      have := hrp 2 v _ hv rfl
      rw [a0n this]; exact .int _ _
    | k + 3 => simp at hc
theorem b6k : a8F Pr a4k := ⟨_, Tryd.func5, by decide +kernel, by kernel_rfl⟩
theorem c3z {H G : Heap} (hl : H.length ≤ G.length) (h : ∀ id, id < H.length → G[id]? = H[id]?) : ∃ L, G = hap H L := by
  refine ⟨G.drop H.length, ?_⟩
  apply List.ext_getElem?
  intro j
  unfold hap
  rcases Nat.lt_or_ge j H.length with hj | hj
  · rw [List.getElem?_append_left hj, h j hj]
  · rw [List.getElem?_append_right hj, List.getElem?_drop]; congr 1; omega
theorem b6n (s : List UInt8) : a0o Pr a7g [strU s] (.bool true) := by
  have hm := (c5m s).mono (show 65536 ≤ 17592186044416 by omega)
  have hv := (c5l s).mono (show 65536 ≤ 17592186044416 by omega)
  have hr4 := c0h s
  have hrv := b3K s
  have hrw := b2N s
  have hop := b7h s
  have hrd : a0o Pr a4k [strU s] (rdA (rdO s)) := a0o.of_refs b6k (GrC.pureM (b7h s))
  unfold rdA at hr4 hrd
  unfold rvA at hrv hrw
  generalize rdO s = o at *
  generalize rvO s = q at *
  obtain ⟨X, i, f⟩ := o
  obtain ⟨u, j, g⟩ := q
  simp only at hm hv hr4 hrd hrv hrw hop
  refine a0o.intro b1q b1p (Nat.le_of_ble_eq_true rfl) (.bool _) fun H hH => ?_
  refine Safe.rg rfl ?_
  simp only [a6g, E3, a0c, a0b, a0a, a0d, seval]
  refine Safe.rg rfl ?_
  simp only [a6f, E3, a0c, a0b, a0a, a0d, seval]
  rw [a4L]
  refine hop.acall hH fun r L1 hT ho => ?_
  obtain ⟨a, rfl, hf⟩ := hT
  have hG1 := (Gw.refl H).own_app ho
  clear ho
  generalize hap H L1 = G1 at *
  simp only [E3, a0c, a0b, a0a, a0d, seval]
  refine Safe.rg rfl ?_
  simp only [a6e, E3, a0c, a0b, a0a, a0d, seval]
  first | refine (hr4).acall ?_ | refine (hr4).dcall ?_ | refine (hr4).dgcall ?_
  try simp only [E3, a0c, a0b, a0a, a0d, seval]
  refine Safe.rg rfl ?_
  simp only [a6d, E3, a0c, a0b, a0a, a0d, seval]
  refine (c3W hf hm).mono ?_
  rintro _ G1 ⟨rfl, rfl⟩
  simp only [E3, a0c, a0b, a0a, a0d, seval]
  refine Safe.cd rfl ?_
  simp only [E3, a0c, a0b, a0a, a0d, seval]
  refine Safe.rg rfl ?_
  simp only [a6c, E3, a0c, a0b, a0a, a0d, seval]
  refine (b9X H.length G1 hf.matT).mono ?_
  rintro _ G2 ⟨rfl, s2⟩
  simp only [E3, a0c, a0b, a0a, a0d, seval]
  refine Safe.rg rfl ?_
  simp only [a6b, E3, a0c, a0b, a0a, a0d, seval]
  first | refine (hrd).acall ?_ | refine (hrd).dcall ?_ | refine (hrd).dgcall ?_
  try simp only [E3, a0c, a0b, a0a, a0d, seval]
  refine Safe.rg rfl ?_
  simp only [a6a, E3, a0c, a0b, a0a, a0d, seval]
  first | refine (b3e X hm).acall ?_ | refine (b3e X hm).dcall ?_ | refine (b3e X hm).dgcall ?_
  try simp only [E3, a0c, a0b, a0a, a0d, seval]
  refine Safe.cd rfl ?_
  simp only [E3, a0c, a0b, a0a, a0d, seval]
  refine Safe.rg rfl ?_
  simp only [a5Z, E3, a0c, a0b, a0a, a0d, seval]
  first | refine (hrv).acall ?_ | refine (hrv).dcall ?_ | refine (hrv).dgcall ?_
  try simp only [E3, a0c, a0b, a0a, a0d, seval]
  refine Safe.rg rfl ?_
  simp only [a5f, E3, a0c, a0b, a0a, a0d, seval]
  first | refine (hrw).acall ?_ | refine (hrw).dcall ?_ | refine (hrw).dgcall ?_
  try simp only [E3, a0c, a0b, a0a, a0d, seval]
  refine Safe.rg rfl ?_
  simp only [a5e, E3, a0c, a0b, a0a, a0d, seval]
  first | refine (a8C u hv).acall ?_ | refine (a8C u hv).dcall ?_ | refine (a8C u hv).dgcall ?_
  try simp only [E3, a0c, a0b, a0a, a0d, seval]
  refine Safe.rt rfl ?_
  simp only [E3, a0c, a0b, a0a, a0d, seval]
  exact c3z (by rw [s2.len]; exact hG1.len) fun id hi => by rw [s2.low id hi, hG1.low id hi]
end Go.Abs

/- Part 6 of the proof of ElimRounds: W20, W21, W22, W23, W24, W26, W28, W30, W31, W35, W36, W37, W38, W40, W42, W43, W45, O1, O2, O3. -/
import Derived.Test.YtkljokmnimblnaaElimRoundsK5
import Derived.Test.YtkljokmnimblnaaRows
import Derived.OpenShut
import Derived.ChangeArms
import Derived.Carry
import Derived.WalkKit
import Derived.ProofKit
import Derived.JoinedCond
set_option linter.unusedVariables false
set_option linter.unusedSimpArgs false
namespace Go.Abs
/-- A matrix's logical entries: whole numbers. -/
structure Lz (n c K : Nat) (π : Nat → Nat) (S : Nat → Nat → AV) (f : Nat → Nat → Int) : Prop where
  lt : ∀ a, a < n → π a < n
  inj : ∀ a b, a < n → b < n → π a = π b → a = b
  at_ : ∀ a b, a < n → b < c → ∃ x : ZI, S (π a) b = x.av ∧ x.z = f a b ∧ Zok K x
  cl : ∀ a b, Cl (S a b)
theorem Lz.swap {n c K : Nat} {π : Nat → Nat} {S : Nat → Nat → AV} {f : Nat → Nat → Int} (h : Lz n c K π S f) {p r : Nat} (hp : p < n) (hr : r < n) : Lz n c K (swp π p r) S fun a b => if a = p then f r b else if a = r then f p b else f a b := by
  have h0 : Lk n c π S fun a b => S (π a) b := ⟨h.lt, h.inj, fun _ _ _ _ => rfl, h.cl⟩
  have hs := Lk.swap (f := fun x : AV => x) h0 hp hr
  refine ⟨hs.lt, hs.inj, fun a b ha hb => ?_, h.cl⟩
  unfold swp
  split
  · exact h.at_ r b hr hb
  · split
    · exact h.at_ p b hp hb
    · exact h.at_ a b ha hb
/-- Row j from a place on told anew. -/
def a5C (S : Nat → Nat → AV) (j : Nat) (f : Nat → AV) (t : Nat) : Nat → Nat → AV := fun a b => if a = j ∧ t ≤ b then f b else S a b
theorem b9C {S : Nat → Nat → AV} {j : Nat} {f : Nat → AV} {t b : Nat} (h : b < t) : a5C S j f t j b = S j b := by simp [a5C]; omega
theorem b9B {S : Nat → Nat → AV} {j a : Nat} {f : Nat → AV} {t b : Nat} (h : a ≠ j) : a5C S j f t a b = S a b := by simp [a5C, h]
theorem c5b (S : Nat → Nat → AV) (j : Nat) (f : Nat → AV) (t : Nat) : upd2 (a5C S j f (t + 1)) j t (f t) = a5C S j f t := by
  funext a b
  unfold upd2 a5C
  by_cases h1 : a = j
  · subst h1
    by_cases h2 : b = t
    · subst h2; simp
    · by_cases h3 : t + 1 ≤ b
      · rw [if_pos rfl, if_neg h2, if_pos ⟨rfl, h3⟩, if_pos ⟨rfl, by omega⟩]
      · rw [if_pos rfl, if_neg h2, if_neg (by omega), if_neg (by omega)]
  · rw [if_neg h1, if_neg (by omega), if_neg (by omega)]
theorem c3O {S : Nat → Nat → AV} {j : Nat} {f : Nat → AV} {t : Nat} (hS : ∀ a b, Cl (S a b)) (hf : ∀ b, Cl (f b)) : ∀ a b, Cl (a5C S j f t a b) := by
  intro a b; unfold a5C; split
  · exact hf b
  · exact hS a b
theorem a5G {q : Rat} {z : Int} (h : q = z) : q.num = z ∧ (q.num : Rat) = q := by subst h; exact ⟨rfl, rfl⟩
section
variable {n c e K : Nat} (b : List (List ZI)) (B : Nat → Nat → Rat)
/-- The last head as a whole number. -/
def a8H (n : Nat) (B : Nat → Nat → Rat) (t : Nat) : Int := (gproc n B t).last.num
def ZgI (n : Nat) (B : Nat → Nat → Rat) (t a k : Nat) : Int := (Zg (gproc n B t) a k).num
section
variable (hB : Bd e B) (hn : n ≤ 64)
include hB hn
theorem b9Y (t : Nat) : (a8H n B t : Rat) = (gproc n B t).last ∧ (a8H n B t).natAbs ≤ LB ^ KB e := by
  obtain ⟨z, hz, hz1⟩ := a9f hB t (.inl hn)
  obtain ⟨h1, h2⟩ := a5G hz
  exact ⟨h2, by unfold a8H; rw [h1]; exact hz1⟩
theorem d2h (t : Nat) {a : Nat} (k : Nat) (ha : a < n) : (ZgI n B t a k : Rat) = Zg (gproc n B t) a k ∧ (ZgI n B t a k).natAbs ≤ LB ^ KB e := by
  obtain ⟨z, hz, hz1⟩ := d1G hB hn t k ha
  obtain ⟨h1, h2⟩ := a5G hz
  exact ⟨h2, by unfold ZgI; rw [h1]; exact hz1⟩
omit hB hn in
theorem a8B (t : Nat) {a : Nat} (k : Nat) {z : Int} (h : (z : Rat) = Zg (gproc n B t) a k) : z = ZgI n B t a k := by
  unfold ZgI; rw [← h]; rfl
end
def bScp : ACode := .seq (.region a4g false) (.seq (.region a4f false) (.seq (.region a4e false) (.seq (.label 0) (.seq (.seq (.region a4d false) (.block 0 (.loop a4h))) (.seq (.region a1Y true) (.ret))))))
theorem c8k {H X : Heap} (hH : a0U H) (hX : ∀ b, some b ∈ X → ∀ a ∈ b.flat, Cl a) : a0U (hap H X) := by
  intro id b hb a ha
  have hlen : (hap H X).length = H.length + X.length := by simp [hap]
  simp only [hap] at hb
  rcases Nat.lt_or_ge id H.length with h1 | h1
  · rw [List.getElem?_append_left h1] at hb
    exact (hH id b hb a ha).mono fun i hi => by have : i < H.length := hi; show i < _; omega
  · rw [List.getElem?_append_right h1] at hb
    exact (hX b (List.mem_of_getElem? hb) a ha).ref
/-- What bareiss hands out. -/
def c4F (H : Heap) (n c e : Nat) (B : Nat → Nat → Rat) (r' : AV) (H' : Heap) : Prop := ∃ β π S L lx, Lz n c (KB e + 1) π S (ZgI n B c) ∧ H.length ≤ β ∧ β + n < (hap H L).length ∧ H' = hM (hap H L) β n 2 c (some c) π S ∧ a0U H' ∧
      ZI.z lx = a8H n B c ∧ Zok (KB e + 1) lx ∧ r' = .tup [.mu β 0 n (some n), hsV (gproc n B c).cs, lx.av, .bool (gproc n B c).odd]
theorem b1l (hb : ∀ i, (h : i < b.length) → b[i].length = c) (hBb : ∀ a k, B a k = (zg (mg b a) k : Int)) (hm : Mok e b) (hB : Bd e B) (hn : b.length = n) (hn64 : n ≤ 64) (hc : c ≤ 2097152) (hK : KB e + 1 < 1099511627776) (H : Heap) :
    a0n Pr a1V [matV b, .int .i64 c] H (c4F H n c e B) := by
  refine a0n.introH b6O b6L (Nat.le_of_ble_eq_true rfl) fun hH => ?_
  have hBi : ∀ i k, ∃ z : Int, B i k = z := fun i k => by obtain ⟨z, h, _⟩ := hB i k; exact ⟨z, h⟩
  refine Safe.rg rfl ?_
  simp only [a7Y, E3, seval]
  refine Safe.rg rfl ?_
  simp only [a4g, E3, seval]
  refine (c1N b hb (by omega) hc (hap H [some ⟨2, [.agg [.bool false, .nil]]⟩])).mono ?_
  rintro r' H' ⟨rfl, rfl⟩
  simp only [E3, seval]
  have e0 : lid (hap H [some ⟨2, [.agg [.bool false, .nil]]⟩]) 0 = lid H 1 := by simp [hap, lid]
  rw [e0, a8v, hn]
  have hX : ∀ x, some x ∈ [some (Blk.mk 2 [.agg [.bool false, .nil]])] → ∀ a ∈ x.flat, Cl a := RC.zero RC.nil
  have hS0 : ∀ j k, Cl (zav b j k) := fun _ _ => ZI.cl _
  have hGr : a0U (hap H ([some ⟨2, [.agg [.bool false, .nil]]⟩] ++ a4Q (lid H 1) n 2 c (some c) (zav b))) := c5W hH hX fun j k _ _ => hS0 j k
  have hGm : hM (hap H ([some ⟨2, [.agg [.bool false, .nil]]⟩] ++ a4Q (lid H 1) n 2 c (some c) (zav b))) (lid H 1) n 2 c (some c) (fun i => i) (zav b) = hap H ([some ⟨2, [.agg [.bool false, .nil]]⟩] ++ a4Q (lid H 1) n 2 c (some c) (zav b)) := d3j H [some ⟨2, [.agg [.bool false, .nil]]⟩] n 2 c (some c) (zav b)
  have hG : lid H 1 + n < (hap H ([some ⟨2, [.agg [.bool false, .nil]]⟩] ++ a4Q (lid H 1) n 2 c (some c) (zav b))).length := d0p H [some ⟨2, [.agg [.bool false, .nil]]⟩] n 2 c (some c) (zav b)
  have hbox : (hap H ([some ⟨2, [.agg [.bool false, .nil]]⟩] ++ a4Q (lid H 1) n 2 c (some c) (zav b)))[lid H 0]? = some (some ⟨2, [.agg [.bool false, .nil]]⟩) := by
    simp only [hap, lid, Nat.add_zero]
    rw [List.getElem?_append_right (Nat.le_refl _)]; simp
  have hGH : ∃ L0, hap H ([some ⟨2, [.agg [.bool false, .nil]]⟩] ++ a4Q (lid H 1) n 2 c (some c) (zav b)) = hap H L0 := ⟨_, rfl⟩
  rw [← hGm] at hGr
  rw [← hGm, ← a2V (hM _ _ _ _ _ _ _ _)]
  clear hGm
  generalize hap H ([some ⟨2, [.agg [.bool false, .nil]]⟩] ++ a4Q (lid H 1) n 2 c (some c) (zav b)) = G at *
  have hb01 : lid H 0 < lid H 1 := by simp [lid]
  have hb0 : H.length ≤ lid H 1 := a3n H 1
  have hb00 : H.length ≤ lid H 0 := a3n H 0
  have hbl : lid H 0 = H.length := by simp [lid]
  generalize lid H 1 = β at *
  generalize lid H 0 = b0 at *
  have hHn : H.length ≤ G.length := by omega
  refine Safe.rg rfl ?_
  simp only [a4f, E3, seval]
  refine Safe.nilrow 9 1 (by decide) (by simp only [E3, seval]) ?_
  refine Safe.rg rfl ?_
  simp only [a4e, a3m, a1f, a1L, a1X, E3, seval]
  first | refine (b0i 1 (by decide) (by decide)).acall ?_ | refine (b0i 1 (by decide) (by decide)).dcall ?_
  try simp only [E3, seval]
  simp only [a3m, a1f, a1L, a1X, E3, seval]
  refine Safe.rg rfl ?_
  simp only [a4d, a3m, a1f, a1L, a1X, E3, seval]
  refine Safe.lp rfl ?_
  refine Safe.keep [6, 8, 9, 10, 11, 21, 22] ?_
  simp only [a3m, a1f, a1L, a1X, E3, seval]
  have hlast0 : a8H n B 0 = 1 := by unfold a8H; rfl
  refine Safe.loopW (α := Nat × (Nat → Nat) × (Nat → Nat → AV) × ZI) (fun s => c - s.1)
    (fun s => [(6, .loc b0 0 0), (8, .mu β 0 n (some n)), (9, .mu (lid G 0) 0 (gproc n B s.1).cs.length none), (10, .loc (lid G 1) 0 0), (11, .bool (gproc n B s.1).odd), (21, .int .i64 c), (22, .int .i64 s.1)])
    (fun s => hap (hM G β n 2 c (some c) s.2.1 s.2.2.1) [some ⟨1, (gproc n B s.1).cs.map intV⟩, some ⟨2, [s.2.2.2.av]⟩])
    (fun s => s.1 ≤ c ∧ Lz n c (KB e + 1) s.2.1 s.2.2.1 (ZgI n B s.1) ∧ s.2.2.2.z = a8H n B s.1 ∧ Zok (KB e + 1) s.2.2.2) (0, fun i => i, zav b, canZ 1) rfl rfl
    ⟨Nat.zero_le _, ⟨fun a h => h, fun _ _ _ _ h => h, fun a k ha hk => ?_, hS0⟩, by rw [hlast0]; exact a1l 1, a0N (d5c _)⟩ ?_
  · refine ⟨(mg b a).getD k ⟨false, []⟩, rfl, ?_, ?_⟩
    · refine a8B B 0 k (a := a) ?_
      show ((zg (mg b a) k : Int) : Rat) = Zg (gproc n B 0) a k
      rw [c9m k (Nat.zero_le _)]
      show ((zg (mg b a) k : Int) : Rat) = a4a B [] * a1U B [] a k
      rw [c8a, c1A, hBb]; grind
    · have hr := hm.row a
      have hl : (mg b a).length = c := by rw [a2M (by omega)]; exact hb a (by omega)
      rw [List.getD_eq_getElem?_getD, List.getElem?_eq_getElem (by omega)]
      exact (hr.get (by omega)).mono (by unfold KB; omega)
  rintro ⟨t, π, S1, lx⟩ ⟨ht, hL, hlz, hlk⟩ ih
  simp only at ht hL hlz hlk ih ⊢
  have hok := a3v (n := n) hBi t
  have hrn := hok.len
  have hHr : ∀ {K : Nat} {π' : Nat → Nat} {S' : Nat → Nat → AV} {F : Nat → Nat → Int}, Lz n c K π' S' F → a0U (hM G β n 2 c (some c) π' S') := fun h => c8n hG hGr h.lt fun a b _ _ => h.cl a b
  have htlt : t < 9223372036854775807 := by omega
  have htw : IntKind.wrap .i64 ((t : Int) + 1) = ((t + 1 : Nat) : Int) := by rw [a0a] <;> omega
  refine Safe.inLoop ?_
  by_cases htc : t < c
  · have hlt : ((t : Int) < (c : Int)) = True := eq_true (by omega)
    refine Safe.rg rfl ?_
    simp only [a4c, hlt, E3, seval]
    refine Safe.cd rfl ?_
    simp only [E3, seval]
    refine Safe.rg rfl ?_
    simp only [a7X, E3, seval]
    refine Safe.rg rfl ?_
    simp only [a7W, a3m, a1f, a1L, a1X, E3, seval]
    refine Safe.rg rfl ?_
    simp only [a7V, E3, seval]
    have entry : ∀ q, q < n → ∃ x : ZI, S1 (π q) t = x.av ∧ x.z = ZgI n B t q t ∧ Zok (KB e + 1) x := fun q hq => hL.at_ q t hq htc
    have hzg : ∀ q k, (gproc n B t).cs.length ≤ q → q < n → (ZgI n B t q k : Rat) = (gproc n B t).last * (gproc n B t).g q k := fun q k h1 h2 => by
      rw [(d2h B hB hn64 t k h2).1, c9m k h1]
    have hlne : (gproc n B t).last ≠ 0 := b0P hok.piv
    have hz0 : ∀ q, (gproc n B t).cs.length ≤ q → q < n → (ZgI n B t q t = 0 ↔ (gproc n B t).g q t = 0) := fun q h1 h2 => by
      have h := hzg q t h1 h2
      constructor
      · intro h0; rw [h0] at h
        have : (gproc n B t).last * (gproc n B t).g q t = 0 := by rw [← h]; rfl
        rcases Rat.mul_eq_zero.1 this with h | h
        · exact absurd h hlne
        · exact h
      · intro h0; rw [h0, Rat.mul_zero] at h
        exact Rat.intCast_inj.1 (by rw [h]; rfl)
    rcases a0P (fun p => (gproc n B t).g p t) (gproc n B t).cs.length n with ⟨p, hf, h1, h2, h3, h4⟩ | ⟨hf, h4⟩
    · have hcs : (gproc n B (t + 1)).cs = (gproc n B t).cs ++ [t] := by
        show (a7R n (gproc n B t) t).cs = _
        rw [a0H hf]
      have hodd : (gproc n B (t + 1)).odd = if p = (gproc n B t).cs.length then (gproc n B t).odd else !(gproc n B t).odd := by
        show (a7R n (gproc n B t) t).odd = _
        rw [a0H hf]
      have hr : (gproc n B t).cs.length < n := by omega
      obtain ⟨hlq, hlb⟩ := b9Y B hB hn64 t
      obtain ⟨hlq1, hlb1⟩ := b9Y B hB hn64 (t + 1)
      have hls := c7Z hf h1 hok
      have hgz := c1B (n := n) hBi t
      have hgz1 := c1B (n := n) hBi (t + 1)
      have hZab : ∀ a k, a < (gproc n B t).cs.length → ZgI n B (t + 1) a k = ZgI n B t a k := fun a k ha => by unfold ZgI; rw [d1H hf h1 k ha]
      have hZhd : ∀ k, ZgI n B (t + 1) (gproc n B t).cs.length k = ZgI n B t p k := fun k => by
        refine (a8B B (t + 1) k ?_).symm
        rw [hzg p k h1 h2, d4k hf h1 k]
      have hZpt : (ZgI n B t p t : Rat) = (gproc n B t).last * (gproc n B t).g p t := hzg p t h1 h2
      have hlast1 : ZgI n B t p t = a8H n B (t + 1) := Rat.intCast_inj.1 (by rw [hZpt, hlq1, hls])
      have hl0 : a8H n B t ≠ 0 := fun h => hlne (by rw [← hlq, h]; rfl)
      -- the new rows below
      have hrows : ∀ i k, (gproc n B t).cs.length < i → i < n → ZgI n B t p t * ZgI n B t (if i = p then (gproc n B t).cs.length else i) k - ZgI n B t (if i = p then (gproc n B t).cs.length else i) t * ZgI n B t p k = a8H n B t * ZgI n B (t + 1) i k := by
        intro i k hi hin
        have hσ1 : (gproc n B t).cs.length ≤ (if i = p then (gproc n B t).cs.length else i) := by split <;> omega
        have hσ2 : (if i = p then (gproc n B t).cs.length else i) < n := by split <;> omega
        obtain ⟨z, hz1, hz2⟩ := c0r hok (p := p) (c := t) (i := i) (k := k) h1 h3 hi hlq (hzg p t h1 h2) (hzg _ k hσ1 hσ2) (hzg _ t hσ1 hσ2) (hzg p k h1 h2)
        have : z = ZgI n B (t + 1) i k := by
          refine a8B B (t + 1) k ?_
          rw [hz2, c4I hf k hi, hls]
          have e : gproc n B (t + 1) = _ := a0H hf
          rw [e]; rfl
        rw [← this]; exact hz1
      have hzero : ∀ i k, (gproc n B t).cs.length < i → i < n → k < t → ZgI n B t (if i = p then (gproc n B t).cs.length else i) k = ZgI n B (t + 1) i k := by
        intro i k hi hin hk
        have hσ1 : (gproc n B t).cs.length ≤ (if i = p then (gproc n B t).cs.length else i) := by split <;> omega
        have hσ2 : (if i = p then (gproc n B t).cs.length else i) < n := by split <;> omega
        refine a8B B (t + 1) k ?_
        rw [hzg _ k hσ1 hσ2, hgz _ k hσ1 hσ2 hk, c4I hf k hi, hgz1 i k (by rw [hcs, a1N]; omega) hin (by omega)]
        grind
      have hZb : ∀ a k, a < n → (ZgI n B (t + 1) a k).natAbs < LB ^ (KB e + 1) := fun a k ha => by
        have h1 := (d2h B hB hn64 (t + 1) k ha).2
        have : LB ^ KB e < LB ^ (KB e + 1) := Nat.pow_lt_pow_right (by decide) (by omega)
        omega
      clear hlq hlq1 hls hgz hgz1 hzg
      generalize hcsl : (gproc n B t).cs.length = r at *
      let f0 : Nat → Nat → Int := fun a k => if a = p then ZgI n B t r k else if a = r then ZgI n B t p k else ZgI n B t a k
      have hf0r : ∀ k, f0 r k = ZgI n B t p k := fun k => by
        show (if r = p then ZgI n B t r k else if r = r then ZgI n B t p k else ZgI n B t r k) = _
        split
        · rename_i h; rw [h]
        · rw [if_pos rfl]
      have hf0i : ∀ i k, r < i → f0 i k = ZgI n B t (if i = p then r else i) k := fun i k hi => by
        show (if i = p then ZgI n B t r k else if i = r then ZgI n B t p k else ZgI n B t i k) = _
        split
        · rfl
        · rw [if_neg (by omega)]
      have hf0a : ∀ a k, a < r → f0 a k = ZgI n B t a k := fun a k ha => by
        show (if a = p then ZgI n B t r k else if a = r then ZgI n B t p k else ZgI n B t a k) = _
        rw [if_neg (by omega), if_neg (by omega)]
      have main : ∀ π', Lz n c (KB e + 1) π' S1 f0 → Safe ⟨Pr, fun _ _ => false, a1V, 147, [.tmp 4, .tmp 5, .cell 6 (some 2), .tmp 7], H.length⟩
          [.code (((ACode.region a3e false).seq (.block 4 (.loop a7Z))).seq ((ACode.region a3b false).seq (.region a3a false))),
            .inBlock 1, .code (.region a1Z false), .inLoop a4h, .inBlock 0, .code ((ACode.region a1Y true).seq .ret), .inScope bScp]
          [(6, .loc b0 0 0), (8, .mu β 0 n (some n)), (9, .mu (lid G 0) 0 r none), (10, .loc (lid G 1) 0 0), (11, .bool (gproc n B (t + 1)).odd), (12, .int .i64 t), (13, .int .i64 r), (21, .int .i64 c), (22, .int .i64 t)]
          (hap (hM G β n 2 c (some c) π' S1) [some ⟨1, (gproc n B t).cs.map intV⟩, some ⟨2, [lx.av]⟩]) (c4F H n c e B) := by
        intro π' hL'
        have hpr := hL'.lt r hr
        have hrw2 : IntKind.wrap .i64 ((r : Int) + 1) = ((r + 1 : Nat) : Int) := by rw [a0a] <;> omega
        refine Safe.rg rfl ?_
        simp only [a3e, hrw2, E3, seval]
        refine Safe.lp rfl ?_
        refine Safe.keep [6, 8, 9, 10, 11, 12, 13, 15, 21, 22] ?_
        try simp only [E3, seval]
        refine Safe.loopW (α := Nat × (Nat → Nat → AV)) (fun s => n - s.1)
          (fun s => [(6, .loc b0 0 0), (8, .mu β 0 n (some n)), (9, .mu (lid G 0) 0 r none), (10, .loc (lid G 1) 0 0), (11, .bool (gproc n B (t + 1)).odd), (12, .int .i64 t), (13, .int .i64 r), (15, .int .i64 s.1), (21, .int .i64 c), (22, .int .i64 t)])
          (fun s => hap (hM G β n 2 c (some c) π' s.2) [some ⟨1, (gproc n B t).cs.map intV⟩, some ⟨2, [lx.av]⟩])
          (fun s => r < s.1 ∧ s.1 ≤ n ∧ Lz n c (KB e + 1) π' s.2 (fun a k => if r < a ∧ a < s.1 then ZgI n B (t + 1) a k else f0 a k)) (r + 1, S1) rfl rfl
          ⟨Nat.lt_succ_self r, hr, hL'.lt, hL'.inj, fun a k ha hk => ?_, hL'.cl⟩ ?_
        · have := hL'.at_ a k ha hk
          show ∃ x : ZI, S1 (π' a) k = x.av ∧ x.z = (if r < a ∧ a < r + 1 then ZgI n B (t + 1) a k else f0 a k) ∧ Zok (KB e + 1) x
          rw [if_neg (by omega)]; exact this
        rintro ⟨i, S2⟩ ⟨hri, hin, hL2⟩ ih2
        simp only at hri hin hL2 ih2 ⊢
        refine Safe.inLoop ?_
        by_cases hi : i < n
        · have hlt2 : ((i : Int) < (n : Int)) = True := eq_true (by omega)
          have hiw : IntKind.wrap .i64 ((i : Int) + 1) = ((i + 1 : Nat) : Int) := by rw [a0a] <;> omega
          have hcw : IntKind.wrap .i64 ((c : Int) - 1) = (c : Int) - 1 := a0a (by omega) (by omega)
          have hpi := hL2.lt i hi
          have hne : π' r ≠ π' i := fun h => by have := hL2.inj _ _ hr hi h; omega
          refine Safe.rg rfl ?_
          simp only [a3d, c1X hG, hlt2, E3, seval]
          refine Safe.cd rfl ?_
          simp only [E3, seval]
          refine Safe.rg rfl ?_
          simp only [a6y, b2f hG hi, M_at hG hi, d5F hG hpi, hcw, E3, seval]
          refine Safe.lp rfl ?_
          refine Safe.keep [6, 8, 9, 10, 11, 12, 13, 15, 16, 21, 22] ?_
          try simp only [E3, seval]
          refine Safe.loopD (c - t) (fun m => [(6, .loc b0 0 0), (8, .mu β 0 n (some n)), (9, .mu (lid G 0) 0 r none), (10, .loc (lid G 1) 0 0), (11, .bool (gproc n B (t + 1)).odd), (12, .int .i64 t), (13, .int .i64 r), (15, .int .i64 i), (16, .int .i64 (((t + m : Nat) : Int) - 1)), (21, .int .i64 c), (22, .int .i64 t)])
            (fun m => hap (hM G β n 2 c (some c) π' (a5C S2 (π' i) (fun k => Z (ZgI n B (t + 1) i k)) (t + m))) [some ⟨1, (gproc n B t).cs.map intV⟩, some ⟨2, [lx.av]⟩]) ?_ ?_ (fun m hm ihm => ?_) ?_
          · rw [show t + (c - t) = c by omega]
          · rw [show t + (c - t) = c by omega]
            refine congrArg (fun x => hap x _) (d0I fun j k hj hk => ?_)
            unfold a5C; rw [if_neg (by omega)]
          · have hkc : t + m < c := by omega
            have e1 : (((t + (m + 1) : Nat) : Int) - 1) = ((t + m : Nat) : Int) := by omega
            rw [e1]
            have hge : (((t + m : Nat) : Int) ≥ (t : Int)) = True := eq_true (by omega)
            have hkw : IntKind.wrap .i64 (((t + m : Nat) : Int) - 1) = ((t + m : Nat) : Int) - 1 := a0a (by omega) (by omega)
            obtain ⟨x1, hx1, hz1, hk1⟩ := hL2.at_ r t hr htc
            obtain ⟨x2, hx2, hz2, hk2⟩ := hL2.at_ i (t + m) hi hkc
            obtain ⟨x3, hx3, hz3, hk3⟩ := hL2.at_ i t hi htc
            obtain ⟨x4, hx4, hz4, hk4⟩ := hL2.at_ r (t + m) hr hkc
            rw [if_neg (by omega), hf0r] at hz1 hz4
            rw [if_neg (by omega), hf0i i _ hri] at hz2 hz3
            have hex := hrows i (t + m) hri hi
            rw [← hz1, ← hz2, ← hz3, ← hz4, ← hlz] at hex
            have v1 : a5C S2 (π' i) (fun k => Z (ZgI n B (t + 1) i k)) (t + (m + 1)) (π' r) t = x1.av := by rw [b9B hne]; exact hx1
            have v2 : a5C S2 (π' i) (fun k => Z (ZgI n B (t + 1) i k)) (t + (m + 1)) (π' i) (t + m) = x2.av := by rw [b9C (by omega)]; exact hx2
            have v3 : a5C S2 (π' i) (fun k => Z (ZgI n B (t + 1) i k)) (t + (m + 1)) (π' i) t = x3.av := by rw [b9C (by omega)]; exact hx3
            have v4 : a5C S2 (π' i) (fun k => Z (ZgI n B (t + 1) i k)) (t + (m + 1)) (π' r) (t + m) = x4.av := by rw [b9B hne]; exact hx4
            have hstep := c5b S2 (π' i) (fun k => Z (ZgI n B (t + 1) i k)) (t + m)
            have hclS : ∀ a b, Cl (a5C S2 (π' i) (fun k => Z (ZgI n B (t + 1) i k)) (t + m) a b) := c3O hL2.cl fun _ => Z_cl _
            have hm1 := b9L hk1.abs hk2.abs
            have hm2 := b9L hk3.abs hk4.abs
            have hs1 := d2s hm1 hm2
            rw [show t + (m + 1) = t + m + 1 by omega] at v1 v2 v3 v4 ⊢
            generalize a5C S2 (π' i) (fun k => Z (ZgI n B (t + 1) i k)) (t + m + 1) = St at *
            refine Safe.inLoop ?_
            refine Safe.rg rfl ?_
            simp only [a3c, hge, E3, seval]
            refine Safe.cd rfl ?_
            simp only [E3, seval]
            refine Safe.rg rfl ?_
            simp only [a6x, a3m, a1f, a1L, a1X, b2f hG hr, M_at hG hr, b2f hG hi, M_at hG hi, b3M hG hpr htc, E_at hG hpr htc, b3M hG hpi hkc, E_at hG hpi hkc, b3M hG hpi htc, E_at hG hpi htc, b3M hG hpr hkc, E_at hG hpr hkc, v1, v2, v3, v4, E3, seval]
            refine (b0k x1 x2 _ _ hk1 hk2 (by omega)).dcall ?_
            simp only [a3m, a1f, a1L, a1X, b2f hG hr, M_at hG hr, b2f hG hi, M_at hG hi, b3M hG hpi htc, E_at hG hpi htc, b3M hG hpr hkc, E_at hG hpr hkc, v3, v4, E3, seval]
            refine (b0k x3 x4 _ _ hk3 hk4 (by omega)).dcall ?_
            simp only [E3, seval]
            refine (c9o hm1 hm2 (by omega)).dcall ?_
            simp only [a3m, a1f, a1L, a1X, E3, seval]
            have hfl := a6Z (canZ (x1.z * x2.z - x3.z * x4.z)) lx (KB e + 1 + (KB e + 1) + 1) (a0N hs1) (hlk.mono (by omega)) (by omega) (ZgI n B (t + 1) i (t + m)) (by rw [hlz]; exact hl0) (by rw [a1l]; exact hex)
            rw [b2b] at hfl
            refine Safe.rg rfl ?_
            simp only [a6w, a3m, a1f, a1L, a1X, b2f hG hi, M_at hG hi, b3M hG hpi hkc, E3, seval]
            refine hfl.dcall ?_
            simp only [a3m, a1f, a1L, a1X, b3M hG hpi hkc, E3, seval]
            simp only [E_st hG hpi hkc (d5E _) (show (Z _).cells.length = 2 from rfl), hstep, E3, seval]
            refine Safe.rg rfl ?_
            simp only [a6v, hkw, E3, seval]
            refine Safe.keep [6, 8, 9, 10, 11, 12, 13, 15, 16, 21, 22] ?_
            simp only [E3, seval]
            have hnb2 : nref (lid G 2) (.mu β 0 n (some n)) = true := c7x (by unfold lid; omega)
            have hnb3 : nref (lid G 2) (.loc b0 0 0) = true := a0q.2 (.loc _ _ _ (by show b0 ≠ _; unfold lid; omega))
            refine Safe.dropM [some ⟨1, (gproc n B t).cs.map intV⟩, some ⟨2, [lx.av]⟩] (c8n hG hGr hL'.lt fun a b _ _ => hclS a b) (by show H.length ≤ _; exact hHn) (by simp only [List.all_cons, List.all_nil, hnb2, hnb3, E3, seval]) (RC.row c0b (RC.one (ZI.cl _) RC.nil)) ?_
            exact ihm
          · have hge : ((t : Int) - 1 ≥ (t : Int)) = False := eq_false (by omega)
            refine Safe.inLoop ?_
            refine Safe.rg rfl ?_
            simp only [a3c, hge, E3, seval]
            refine Safe.cd rfl ?_
            simp only [E3, seval]
            refine Safe.rg rfl ?_
            simp only [a6u, hiw, E3, seval]
            refine Safe.keep [6, 8, 9, 10, 11, 12, 13, 15, 21, 22] ?_
            simp only [E3, seval]
            refine ih2 (i + 1, _) ⟨Nat.lt_succ_of_lt hri, hi, hL2.lt, hL2.inj, fun a k ha hk => ?_, c3O hL2.cl fun _ => Z_cl _⟩ (by show n - (i + 1) < n - i; omega)
            show ∃ x : ZI, a5C S2 (π' i) (fun k => Z (ZgI n B (t + 1) i k)) t (π' a) k = x.av ∧ x.z = (if r < a ∧ a < i + 1 then ZgI n B (t + 1) a k else f0 a k) ∧ Zok (KB e + 1) x
            by_cases hai : a = i
            · subst hai
              rw [if_pos ⟨hri, Nat.lt_succ_self a⟩]
              by_cases hkt : t ≤ k
              · refine ⟨canZ (ZgI n B (t + 1) a k), ?_, a1l _, a0N (hZb a k ha)⟩
                unfold a5C; rw [if_pos ⟨rfl, hkt⟩, b2b]
              · obtain ⟨x, hx, hz, hk'⟩ := hL2.at_ a k ha hk
                rw [if_neg (by omega), hf0i a k hri, hzero a k hri ha (by omega)] at hz
                exact ⟨x, by rw [b9C (by omega)]; exact hx, hz, hk'⟩
            · obtain ⟨x, hx, hz, hk'⟩ := hL2.at_ a k ha hk
              refine ⟨x, by rw [b9B (fun h => hai (hL2.inj _ _ ha hi h))]; exact hx, ?_, hk'⟩
              rw [hz]
              by_cases h5 : r < a ∧ a < i
              · rw [if_pos h5, if_pos ⟨h5.1, by omega⟩]
              · rw [if_neg h5, if_neg (by omega)]
        · have hin' : i = n := by omega
          subst hin'
          refine Safe.rg rfl ?_
          simp only [a3d, c1X hG, Int.lt_irrefl, E3, seval]
          refine Safe.cd rfl ?_
          simp only [E3, seval]
          have hL3 : Lz i c (KB e + 1) π' S2 (ZgI i B (t + 1)) := by
            refine ⟨hL2.lt, hL2.inj, fun a k ha hk => ?_, hL2.cl⟩
            obtain ⟨x, hx, hz, hk'⟩ := hL2.at_ a k ha hk
            refine ⟨x, hx, ?_, hk'⟩
            rw [hz]
            rcases Nat.lt_trichotomy a r with h | h | h
            · rw [if_neg (by omega), hf0a a k h, hZab a k h]
            · subst h; rw [if_neg (by omega), hf0r, hZhd]
            · rw [if_pos ⟨h, ha⟩]
          obtain ⟨x1, hx1, hz1, hk1⟩ := hL3.at_ r t hr htc
          rw [hZhd, hlast1] at hz1
          have hnb2 : nref (lid G 0) (.mu β 0 i (some i)) = true := c7x (by unfold lid; omega)
          have hnb3 : nref (lid G 0) (.loc b0 0 0) = true := a0q.2 (.loc _ _ _ (by show b0 ≠ _; unfold lid; omega))
          refine Safe.rg rfl ?_
          simp only [a3b, a3m, a1f, a1L, a1X, b2f hG hr, M_at hG hr, b3M hG hpr htc, E_at hG hpr htc, hx1, E3, seval]
          have hRC : RC [some ⟨1, (gproc i B t).cs.map intV⟩, some ⟨2, [x1.av]⟩] := RC.row c0b (RC.one (ZI.cl _) RC.nil)
          refine Safe.rg rfl ?_
          simp only [a3a, E3, seval]
          have happ := fun env : Env => d1D (hHr hL3) (L := [some ⟨1, (gproc i B t).cs.map intV⟩, some ⟨2, [x1.av]⟩]) 0 (n0 := H.length) (Nat.le_trans hHn (a3n G 0)) (env := env) (wd := 1) (bytes := 8) (f := intV) (y := .int .i64 (t : Int)) c0b (gproc i B t).cs t hcsl.symm rfl hRC rfl (by omega) (by omega)
          simp only [ZI.av] at happ
          rw [happ]
          simp only [hnb2, hnb3, List.set_cons_succ, List.set_cons_zero, E3, seval]
          refine Safe.rg rfl ?_
          simp only [a1Z, htw, E3, seval]
          refine Safe.keep [6, 8, 9, 10, 11, 21, 22] ?_
          simp only [E3, seval]
          have hfin := ih (t + 1, π', S2, x1) ⟨htc, hL3, hz1, hk1⟩ (by show c - (t + 1) < c - t; omega)
          simp only [hcs, a1N, hcsl] at hfin
          exact hfin
      -- the head's row
      refine Safe.lp rfl ?_
      refine Safe.keep [6, 8, 9, 10, 11, 12, 13, 14, 21, 22] ?_
      try simp only [E3, seval]
      refine Safe.loopN (p - r) (fun j => [(6, .loc b0 0 0), (8, .mu β 0 n (some n)), (9, .mu (lid G 0) 0 r none), (10, .loc (lid G 1) 0 0), (11, .bool (gproc n B t).odd), (12, .int .i64 t), (13, .int .i64 r), (14, .int .i64 ((r + j : Nat) : Int)), (21, .int .i64 c), (22, .int .i64 t)])
        (fun _ => hap (hM G β n 2 c (some c) π S1) [some ⟨1, (gproc n B t).cs.map intV⟩, some ⟨2, [lx.av]⟩]) rfl rfl (fun j hj2 ihj => ?_) ?_
      · have hq : r + j < n := by omega
        have hlt2 : (((r + j : Nat) : Int) < (n : Int)) = True := eq_true (by omega)
        have hpq := hL.lt (r + j) hq
        have hqw : IntKind.wrap .i64 (((r + j : Nat) : Int) + 1) = ((r + (j + 1) : Nat) : Int) := by rw [a0a] <;> omega
        obtain ⟨x, v4, hxz, hxk⟩ := entry (r + j) hq
        have hz : ZgI n B t (r + j) t = 0 := (hz0 _ (by omega) hq).2 (h4 _ (by omega) (by omega))
        rw [hz] at hxz
        refine Safe.inLoop ?_
        refine Safe.rg rfl ?_
        simp only [a1H, c1X hG, hlt2, b2f hG hq, M_at hG hq, b3M hG hpq htc, E_at hG hpq htc, v4, E3, seval]
        refine (a1v x (hxk.mono (by omega))).acall ?_
        simp only [hxz, Int.sign_zero, E3, seval]
        refine Safe.cd rfl ?_
        simp only [E3, seval]
        refine Safe.rg rfl ?_
        simp only [a3h, hqw, E3, seval]
        refine Safe.keep [6, 8, 9, 10, 11, 12, 13, 14, 21, 22] ?_
        simp only [E3, seval]
        refine Safe.inBlock ?_
        exact ihj
      · have hrp : r + (p - r) = p := by omega
        rw [hrp]
        have hlt2 : ((p : Int) < (n : Int)) = True := eq_true (by omega)
        have hpq := hL.lt p h2
        obtain ⟨x, v4, hxz, hxk⟩ := entry p h2
        have hz : (x.z.sign = 0) = False := eq_false (by rw [hxz, Int.sign_eq_zero_iff_zero, hz0 p h1 h2]; exact h3)
        have hpn : ((p : Int) = (n : Int)) = False := eq_false (by omega)
        refine Safe.inLoop ?_
        refine Safe.rg rfl ?_
        simp only [a1H, c1X hG, hlt2, b2f hG h2, M_at hG h2, b3M hG hpq htc, E_at hG hpq htc, v4, E3, seval]
        refine (a1v x (hxk.mono (by omega))).acall ?_
        simp only [hz, E3, seval]
        refine Safe.cd rfl ?_
        simp only [E3, seval]
        refine Safe.rg rfl ?_
        simp only [a3g, c1X hG, hpn, E3, seval]
        refine Safe.cd rfl ?_
        simp only [E3, seval]
        by_cases hpr : p = r
        · have hpr1 : ((p : Int) = (r : Int)) = True := eq_true (by omega)
          refine Safe.rg rfl ?_
          simp only [a3f, hpr1, E3, seval]
          refine Safe.cd rfl ?_
          simp only [E3, seval]
          refine Safe.keep [6, 8, 9, 10, 11, 12, 13, 21, 22] ?_
          simp only [E3, seval]
          have hm := main π (by
            refine ⟨hL.lt, hL.inj, fun a k ha hk => ?_, hL.cl⟩
            obtain ⟨x, hx, hz, hk'⟩ := hL.at_ a k ha hk
            refine ⟨x, hx, ?_, hk'⟩
            rw [hz]
            show _ = if a = p then ZgI n B t r k else if a = r then ZgI n B t p k else ZgI n B t a k
            split
            · rename_i h; rw [h, hpr]
            · split
              · rename_i h; omega
              · rfl)
          rw [hodd, if_pos hpr] at hm
          refine Safe.skip ?_
          exact hm
        · have hpr1 : ((p : Int) = (r : Int)) = False := eq_false (by omega)
          refine Safe.rg rfl ?_
          simp only [a3f, hpr1, E3, seval]
          refine Safe.cd rfl ?_
          simp only [E3, seval]
          refine Safe.rg rfl ?_
          simp only [a6A, b2f hG h2, M_at hG h2, b2f hG hr, M_at hG hr, E3, seval]
          simp only [M_st hG h2, b2f hG hr, M_st hG hr, d4y, E3, seval]
          refine Safe.rg rfl ?_
          simp only [a6z, E3, seval]
          refine Safe.keep [6, 8, 9, 10, 11, 12, 13, 21, 22] ?_
          simp only [E3, seval]
          have hm := main (swp π p r) (Lz.swap hL h2 hr)
          rw [hodd, if_neg hpr] at hm
          exact hm
    · -- no head in this column
      have hcs : gproc n B (t + 1) = gproc n B t := a1O hf
      generalize hcsl : (gproc n B t).cs.length = r at *
      refine Safe.lp rfl ?_
      refine Safe.keep [6, 8, 9, 10, 11, 12, 13, 14, 21, 22] ?_
      try simp only [E3, seval]
      refine Safe.loopN (n - r) (fun j => [(6, .loc b0 0 0), (8, .mu β 0 n (some n)), (9, .mu (lid G 0) 0 r none), (10, .loc (lid G 1) 0 0), (11, .bool (gproc n B t).odd), (12, .int .i64 t), (13, .int .i64 r), (14, .int .i64 ((r + j : Nat) : Int)), (21, .int .i64 c), (22, .int .i64 t)])
        (fun _ => hap (hM G β n 2 c (some c) π S1) [some ⟨1, (gproc n B t).cs.map intV⟩, some ⟨2, [lx.av]⟩]) rfl rfl (fun j hj2 ihj => ?_) ?_
      · have hq : r + j < n := by omega
        have hlt2 : (((r + j : Nat) : Int) < (n : Int)) = True := eq_true (by omega)
        have hpq := hL.lt (r + j) hq
        have hqw : IntKind.wrap .i64 (((r + j : Nat) : Int) + 1) = ((r + (j + 1) : Nat) : Int) := by rw [a0a] <;> omega
        obtain ⟨x, v4, hxz, hxk⟩ := entry (r + j) hq
        have hz : ZgI n B t (r + j) t = 0 := (hz0 _ (by omega) hq).2 (h4 _ (by omega) (by omega))
        rw [hz] at hxz
        refine Safe.inLoop ?_
        refine Safe.rg rfl ?_
        simp only [a1H, c1X hG, hlt2, b2f hG hq, M_at hG hq, b3M hG hpq htc, E_at hG hpq htc, v4, E3, seval]
        refine (a1v x (hxk.mono (by omega))).acall ?_
        simp only [hxz, Int.sign_zero, E3, seval]
        refine Safe.cd rfl ?_
        simp only [E3, seval]
        refine Safe.rg rfl ?_
        simp only [a3h, hqw, E3, seval]
        refine Safe.keep [6, 8, 9, 10, 11, 12, 13, 14, 21, 22] ?_
        simp only [E3, seval]
        refine Safe.inBlock ?_
        exact ihj
      · have hrp : r + (n - r) = n := by omega
        rw [hrp]
        refine Safe.inLoop ?_
        refine Safe.rg rfl ?_
        simp only [a1H, c1X hG, Int.lt_irrefl, E3, seval]
        refine Safe.cd rfl ?_
        simp only [E3, seval]
        refine Safe.rg rfl ?_
        simp only [a3g, c1X hG, E3, seval]
        refine Safe.cd rfl ?_
        simp only [E3, seval]
        refine Safe.rg rfl ?_
        simp only [a1Z, htw, E3, seval]
        refine Safe.keep [6, 8, 9, 10, 11, 21, 22] ?_
        simp only [E3, seval]
        have hz1 : ZgI n B (t + 1) = ZgI n B t := by funext a k; unfold ZgI; rw [hcs]
        have hl1 : a8H n B (t + 1) = a8H n B t := by unfold a8H; rw [hcs]
        have hfin := ih (t + 1, π, S1, lx) ⟨htc, by rw [hz1]; exact hL, by rw [hl1]; exact hlz, hlk⟩ (by show c - (t + 1) < c - t; omega)
        simp only [hcs, hcsl] at hfin
        exact hfin
  · have htc' : t = c := by omega
    subst htc'
    refine Safe.rg rfl ?_
    simp only [a4c, Int.lt_irrefl, E3, seval]
    refine Safe.cd rfl ?_
    simp only [E3, seval]
    have hnb2 : frz (lid G 0) ⟨1, (gproc n B t).cs.map intV⟩ (.mu β 0 n (some n)) = .mu β 0 n (some n) := b1X (.mu _ _ _ _ (by show β ≠ _; unfold lid; omega))
    have hnb3 : frz (lid G 0) ⟨1, (gproc n B t).cs.map intV⟩ (.loc b0 0 0) = .loc b0 0 0 := b1X (.loc _ _ _ (by show b0 ≠ _; unfold lid; omega))
    have hcl : frz (lid G 0) ⟨1, (gproc n B t).cs.map intV⟩ (.mu (lid G 0) 0 (gproc n B t).cs.length none) = hsV (gproc n B t).cs := b9l (H := G) 0 1 intV _ none
    refine Safe.freezeM 0 (hHr hL) (by show H.length ≤ _; exact hHn) rfl (a1K 1 intV _ c0b) ?_
    refine Safe.keep [6, 8, 9, 10, 11] ?_
    simp only [hnb2, hnb3, hcl, a0O, ZI.av_frz, E3, seval]
    refine Safe.rg rfl ?_
    simp only [a1Y, a3m, a1f, a1L, a1X, E3, seval]
    have hbox' : (G.set b0 (some ⟨2, [.agg [.bool lx.neg, natV lx.mag]]⟩))[b0]? = some (some ⟨2, [.agg [.bool lx.neg, natV lx.mag]]⟩) := by
      rw [List.getElem?_set]; simp; omega
    have hG' : β + n < (G.set b0 (some ⟨2, [.agg [.bool lx.neg, natV lx.mag]]⟩)).length := by rw [List.length_set]; exact hG
    simp only [d4z hG hb01 hbox (show (AV.agg [.bool lx.neg, natV lx.mag]).fit = true from rfl) (show (AV.agg [.bool lx.neg, natV lx.mag]).cells.length = 2 from rfl), E3, seval]
    refine Safe.rt rfl ?_
    simp only [d5A hG' hb01 hbox', E3, seval]
    obtain ⟨L0, hL0⟩ := hGH
    have hH1 : a0U (hM (G.set b0 (some ⟨2, [.agg [.bool lx.neg, natV lx.mag]]⟩)) β n 2 t (some t) π S1) := by
      have e := c7h (L := []) (O := orow β n t (some t) π) (R := fun j => some ⟨2, fr t (S1 j)⟩) hG hb01 (some ⟨2, [.agg [.bool lx.neg, natV lx.mag]]⟩)
      rw [a2V, a2V] at e
      unfold hM
      rw [← e]
      refine a0U.set (hHr hL) b0 fun a ha => ?_
      have := RC.one (wd := 2) (ZI.cl lx) RC.nil ⟨2, [lx.av]⟩ (by simp) a ha
      exact this.ref
    have hGs : G.set b0 (some ⟨2, [.agg [.bool lx.neg, natV lx.mag]]⟩) = hap H (L0.set 0 (some ⟨2, [.agg [.bool lx.neg, natV lx.mag]]⟩)) := by
      rw [hL0, hbl]
      simp only [hap]
      rw [List.set_append_right _ _ (Nat.le_refl _), Nat.sub_self]
    refine ⟨β, π, S1, L0.set 0 (some ⟨2, [.agg [.bool lx.neg, natV lx.mag]]⟩) ++ [none, some ⟨2, [lx.av]⟩], lx, hL, hb0, ?_, ?_, ?_, hlz, hlk, rfl⟩
    · have : G.length = H.length + L0.length := by rw [hL0]; simp [hap]
      simp [hap]; omega
    · rw [d5e _ _ _ _ _ _ _ _ _ hG', hGs, a8v]
    · exact c8k hH1 (RC.none (RC.one (ZI.cl _) RC.nil))
end
end Go.Abs
set_option linter.unusedVariables false
set_option linter.unusedSimpArgs false
namespace Go.Abs
/-- A matrix's entries as fractions. -/
def Bm (b : List (List ZI)) : Nat → Nat → Rat := fun a k => (zg (mg b a) k : Int)
theorem c9n {b : List (List ZI)} {e : Nat} (h : Mok e b) : Bd e (Bm b) := fun a k => ⟨zg (mg b a) k, rfl, Nat.le_of_lt ((h.row a).abs k)⟩
/-- The determinant. -/
def detI (n : Nat) (B : Nat → Nat → Rat) : Int := (dv n B n).num
def c0W (n c : Nat) (B : Nat → Nat → Rat) : Nat := (gproc n B c).cs.length
theorem d1Q (H : Heap) (cs : List Nat) : lenV H (hsV cs) = some (.int .i64 cs.length) := c6X H 1 intV cs
theorem c9N (n c : Nat) (B : Nat → Nat → Rat) : c0W n c B ≤ c := a5o n B c
section
variable (b : List (List ZI)) {e n c : Nat} (hm : Mok e b) (hn : b.length = n) (hn64 : n ≤ 64) (hK : KB e + 1 < 1099511627776)
include hm hn hn64 hK
theorem b1g (hb : ∀ i, (h : i < b.length) → b[i].length = n) : a0e Pr a5z [matV b] (Z (detI n (Bm b))) := by
  have hB := c9n hm
  obtain ⟨hlq, hlb⟩ := b9Y (Bm b) hB hn64 n
  have hrl := c9N n n (Bm b)
  unfold c0W at hrl
  refine a0e.introL c3q c3p (Nat.le_of_ble_eq_true rfl) (Z_cl _) fun H hH => ?_
  refine Safe.rg rfl ?_
  simp only [b6J, E3, seval]
  refine Safe.rg rfl ?_
  simp only [b6I, hn, E3, seval]
  refine Safe.rg rfl ?_
  simp only [b6H, E3, seval]
  refine (b1l b (Bm b) hb (fun _ _ => rfl) hm hB hn hn64 (by omega) hK (hap H [some ⟨2, [.agg [.bool false, .nil]]⟩])).mono ?_
  rintro r' H' ⟨β, π, S, L, lx, hLz, hβ, hβn, rfl, hHr, hlz, hlk, rfl⟩
  obtain ⟨L', hL'⟩ := d1S (w := 2) (c := n) (oc := some n) (π := π) (S := S) hβ hβn
  rw [hL']
  have hA0 : (hap (hap H [some ⟨2, [.agg [.bool false, .nil]]⟩]) L')[lid H 0]? = some (some ⟨2, [.agg [.bool false, .nil]]⟩) := by
    simp [hap, lid]
  have hAH : ∃ L, hap (hap H [some ⟨2, [.agg [.bool false, .nil]]⟩]) L' = hap H L := ⟨_, a8v _ _ _⟩
  clear hL' hHr hβn hβ
  rw [← a2V (hap (hap H _) L')]
  generalize hap (hap H [some ⟨2, [.agg [.bool false, .nil]]⟩]) L' = A at *
  simp only [E3, seval]
  refine Safe.rg rfl ?_
  simp only [b6G, d1Q, E3, seval]
  have hfinal : ∀ v : AV, v.fit = true → v.cells.length = 2 → ∀ L : Heap, ∃ L2, hap (A.set (lid H 0) (some ⟨2, [v]⟩)) L = hap H L2 := by
    intro v _ _ L
    obtain ⟨L0, hL0⟩ := hAH
    rw [hL0, a3J]; exact ⟨_, a8v _ _ _⟩
  have hld : ∀ v : AV, ∀ L : Heap, atV (hap (A.set (lid H 0) (some ⟨2, [v]⟩)) L) (.loc (lid H 0) 0 0) = some v.cells := by
    intro v L
    have hlt := a0k hA0
    exact lat (b := ⟨2, [v]⟩) (by rw [List.getElem?_set]; simp [hlt]) (by simp)
  by_cases hlt : (gproc n (Bm b) n).cs.length < n
  · have hc : (((gproc n (Bm b) n).cs.length : Int) < (n : Int)) = True := eq_true (by omega)
    simp only [hc, E3, seval]
    refine Safe.cd rfl ?_
    simp only [E3, seval]
    refine Safe.rg rfl ?_
    simp only [b6F, E3, seval]
    rw [lst hA0 (by simp) rfl rfl]
    simp only [E3, seval]
    refine Safe.rt rfl ?_
    simp only [hld, E3, seval]
    refine ⟨?_, hfinal (.agg [.bool false, .nil]) rfl rfl _⟩
    have : detI n (Bm b) = 0 := by unfold detI dv; rw [if_neg (by omega)]; rfl
    rw [this]; exact le_zero
  · have hc : (((gproc n (Bm b) n).cs.length : Int) < (n : Int)) = False := eq_false (by omega)
    simp only [hc, E3, seval]
    refine Safe.cd rfl ?_
    simp only [E3, seval]
    refine Safe.rg rfl ?_
    simp only [b6E, E3, seval]
    have hdet : detI n (Bm b) = if (gproc n (Bm b) n).odd then -a8H n (Bm b) n else a8H n (Bm b) n := by
      unfold detI dv a8H
      rw [if_pos (by omega)]
      split
      · exact Rat.neg_num _
      · rfl
    cases ho : (gproc n (Bm b) n).odd
    · rw [ho] at hdet
      refine Safe.cd rfl ?_
      simp only [E3, seval]
      refine Safe.rg rfl ?_
      simp only [b6C, E3, seval]
      refine (b7P lx (hlk.mono (by omega))).acall ?_
      simp only [Z, E3, seval]
      rw [lst hA0 (by simp) rfl rfl]
      simp only [E3, seval]
      refine Safe.rt rfl ?_
      simp only [hld, E3, seval]
      refine ⟨?_, hfinal (Z lx.z) rfl rfl _⟩
      rw [hdet, hlz]
      exact Le.refl _
    · rw [ho] at hdet
      refine Safe.cd rfl ?_
      simp only [E3, seval]
      refine Safe.rg rfl ?_
      simp only [b6D, E3, seval]
      refine (b0j lx (hlk.mono (by omega))).acall ?_
      simp only [Z, E3, seval]
      rw [lst hA0 (by simp) rfl rfl]
      simp only [E3, seval]
      refine Safe.rt rfl ?_
      simp only [hld, E3, seval]
      refine ⟨?_, hfinal (Z (-lx.z)) rfl rfl _⟩
      rw [hdet, hlz]
      exact Le.refl _
end
/-- The error of a matrix. -/
noncomputable def elE (b : List (List ZI)) : Int := @ite _ (Rect b) (Classical.propDecidable _) (if b.length > 64 ∨ wid b > 64 then 60 else 0) 8
theorem a8h (b : List (List ZI)) : (¬ Rect b ∧ elE b = 8) ∨ (Rect b ∧ (b.length > 64 ∨ wid b > 64) ∧ elE b = 60) ∨ (Rect b ∧ b.length ≤ 64 ∧ wid b ≤ 64 ∧ elE b = 0) := by
  unfold elE
  by_cases h : Rect b
  · by_cases h2 : b.length > 64 ∨ wid b > 64
    · exact .inr (.inl ⟨h, h2, by rw [if_pos h, if_pos h2]⟩)
    · exact .inr (.inr ⟨h, by omega, by omega, by rw [if_pos h, if_neg h2]⟩)
  · exact .inl ⟨h, by rw [if_neg h]⟩
noncomputable def askT (b : List (List ZI)) : AV := if elE b = 0 then .tup [.int .i64 b.length, .int .i64 (wid b), .int .i64 0] else .tup [.int .i64 0, .int .i64 0, .int .i64 (elE b)]
section
variable (b : List (List ZI)) {e : Nat} (hm : Mok e b)
include hm
theorem b2e : a0e Pr a4P [matV b] (askT b) := by
  have hw : wid b ≤ 2097152 := (hm.row 0).len
  rcases a8h b with ⟨hr, he⟩ | ⟨hr, h2, he⟩ | ⟨hr, h2, h3, he⟩
  · unfold askT
    rw [he, if_neg (by decide)]
    refine a0e.intro a6c a6b (Nat.le_of_ble_eq_true rfl) (cl3i _ _ _) fun H hH => ?_
    refine Safe.rg rfl ?_
    simp only [a3z, E3, seval]
    refine Safe.rg rfl ?_
    simp only [a3y, E3, seval]
    first | refine (a8s b e hm hr).acall ?_ | refine (a8s b e hm hr).dcall ?_
    try simp only [E3, seval]
    refine Safe.rg rfl ?_
    simp only [a3x, E3, seval]
    refine Safe.cd rfl ?_
    simp only [E3, seval]
    refine Safe.rg rfl ?_
    simp only [b1e, E3, seval]
    refine Safe.rt rfl ?_
    simp only [one3, E3, seval]
    first | exact ⟨rfl, _, rfl⟩ | exact ⟨_, rfl⟩ | exact ⟨trivial, _, rfl⟩
  · unfold askT
    rw [he, if_neg (by decide)]
    refine a0e.intro a6c a6b (Nat.le_of_ble_eq_true rfl) (cl3i _ _ _) fun H hH => ?_
    refine Safe.rg rfl ?_
    simp only [a3z, E3, seval]
    refine Safe.rg rfl ?_
    simp only [a3y, E3, seval]
    first | refine (a1T b e hm hr).acall ?_ | refine (a1T b e hm hr).dcall ?_
    try simp only [E3, seval]
    refine Safe.rg rfl ?_
    simp only [a3x, E3, seval]
    refine Safe.cd rfl ?_
    simp only [E3, seval]
    by_cases h : b.length > 64
    · have hc : ((b.length : Int) > 64) = True := eq_true (by omega)
      refine Safe.rg rfl ?_
      simp only [a3w, hc, E3, seval]
      refine Safe.cd rfl ?_
      simp only [E3, seval]
      refine Safe.rg rfl ?_
      simp only [a6a, E3, seval]
      refine Safe.rt rfl ?_
      simp only [one3, E3, seval]
      first | exact ⟨rfl, _, rfl⟩ | exact ⟨_, rfl⟩ | exact ⟨trivial, _, rfl⟩
    · have hc : ((b.length : Int) > 64) = False := eq_false (by omega)
      have hc2 : ((wid b : Int) > 64) = True := eq_true (by omega)
      refine Safe.rg rfl ?_
      simp only [a3w, hc, hc2, E3, seval]
      refine Safe.cd rfl ?_
      simp only [E3, seval]
      refine Safe.rg rfl ?_
      simp only [a6a, E3, seval]
      refine Safe.rt rfl ?_
      simp only [one3, E3, seval]
      first | exact ⟨rfl, _, rfl⟩ | exact ⟨_, rfl⟩ | exact ⟨trivial, _, rfl⟩
  · unfold askT
    rw [he, if_pos rfl]
    have hc : ((b.length : Int) > 64) = False := eq_false (by omega)
    have hc2 : ((wid b : Int) > 64) = False := eq_false (by omega)
    refine a0e.intro a6c a6b (Nat.le_of_ble_eq_true rfl) (cl3i _ _ _) fun H hH => ?_
    refine Safe.rg rfl ?_
    simp only [a3z, E3, seval]
    refine Safe.rg rfl ?_
    simp only [a3y, E3, seval]
    first | refine (a1T b e hm hr).acall ?_ | refine (a1T b e hm hr).dcall ?_
    try simp only [E3, seval]
    refine Safe.rg rfl ?_
    simp only [a3x, E3, seval]
    refine Safe.cd rfl ?_
    simp only [E3, seval]
    refine Safe.rg rfl ?_
    simp only [a3w, hc, hc2, E3, seval]
    refine Safe.cd rfl ?_
    simp only [E3, seval]
    refine Safe.rg rfl ?_
    simp only [b1d, E3, seval]
    refine Safe.rt rfl ?_
    simp only [one3, E3, seval]
    first | exact ⟨rfl, _, rfl⟩ | exact ⟨_, rfl⟩ | exact ⟨trivial, _, rfl⟩
end
/-- Square matrices only. -/
noncomputable def sqE (b : List (List ZI)) : Int := if elE b = 0 then (if b.length = wid b then 0 else 8) else elE b
noncomputable def sqT (b : List (List ZI)) : AV := .tup [.int .i64 (if elE b = 0 then (b.length : Int) else 0), .int .i64 (sqE b)]
theorem b0w {b : List (List ZI)} (h : sqE b = 0) : elE b = 0 ∧ b.length = wid b := by
  unfold sqE at h
  split at h
  · rename_i h0
    split at h
    · exact ⟨h0, by assumption⟩
    · exact absurd h (by decide)
  · exact absurd h (by assumption)
theorem a3I {b : List (List ZI)} (h : sqE b = 0) : b.length ≤ 64 ∧ ∀ i, (h : i < b.length) → b[i].length = b.length := by
  obtain ⟨h0, hw⟩ := b0w h
  rcases a8h b with ⟨_, h⟩ | ⟨_, _, h⟩ | ⟨hr, h2, h3, _⟩
  · omega
  · omega
  · refine ⟨h2, fun i hi => ?_⟩
    have := hr i hi
    rw [a2M hi] at this
    rw [this, hw]; rfl
theorem b0y {b : List (List ZI)} (h : elE b = 0) : b.length ≤ 64 ∧ wid b ≤ 64 ∧ Rect b ∧ ∀ i, (h : i < b.length) → b[i].length = wid b := by
  rcases a8h b with ⟨_, h⟩ | ⟨_, _, h⟩ | ⟨hr, h2, h3, _⟩
  · omega
  · omega
  · refine ⟨h2, h3, hr, fun i hi => ?_⟩
    have := hr i hi
    rw [a2M hi] at this
    exact this
theorem cl2i (a b : Int) : Cl (.tup [.int .i64 a, .int .i64 b]) := a8l (.int _ _) (.int _ _)
section
variable (b : List (List ZI)) {e : Nat} (hm : Mok e b)
include hm
theorem a5D : a0e Pr a3B [matV b] (sqT b) := by
  have hask := b2e b hm
  unfold sqT askT at *
  by_cases h0 : elE b = 0
  · rw [if_pos h0] at hask ⊢
    by_cases hw : b.length = wid b
    · have hs : sqE b = 0 := by unfold sqE; rw [if_pos h0, if_pos hw]
      have hwi : (b.length : Int) = (wid b : Int) := by omega
      rw [hs]
      rw [← hwi] at hask
      refine a0e.intro a5b a5a (Nat.le_of_ble_eq_true rfl) (cl2i _ _) fun H hH => ?_
      refine Safe.rg rfl ?_
      simp only [a2K, E3, seval]
      refine Safe.rg rfl ?_
      simp only [a2J, E3, seval]
      first | refine (hask).acall ?_ | refine (hask).dcall ?_
      try simp only [E3, seval]
      refine Safe.rg rfl ?_
      simp only [a2I, E3, seval]
      refine Safe.cd rfl ?_
      simp only [E3, seval]
      refine Safe.rg rfl ?_
      simp only [a2H, E3, seval]
      refine Safe.rt rfl ?_
      simp only [E3, seval]
      first | exact ⟨rfl, _, rfl⟩ | exact ⟨_, rfl⟩ | exact ⟨trivial, _, rfl⟩
    · have hs : sqE b = 8 := by unfold sqE; rw [if_pos h0, if_neg hw]
      have hwi : ((b.length : Int) = (wid b : Int)) = False := eq_false (by omega)
      rw [hs]
      refine a0e.intro a5b a5a (Nat.le_of_ble_eq_true rfl) (cl2i _ _) fun H hH => ?_
      refine Safe.rg rfl ?_
      simp only [a2K, E3, seval]
      refine Safe.rg rfl ?_
      simp only [a2J, E3, seval]
      first | refine (hask).acall ?_ | refine (hask).dcall ?_
      try simp only [E3, seval]
      refine Safe.rg rfl ?_
      simp only [a2I, hwi, E3, seval]
      refine Safe.cd rfl ?_
      simp only [E3, seval]
      refine Safe.rg rfl ?_
      simp only [a9n, E3, seval]
      refine Safe.rg rfl ?_
      simp only [a2H, E3, seval]
      refine Safe.rt rfl ?_
      simp only [E3, seval]
      first | exact ⟨rfl, _, rfl⟩ | exact ⟨_, rfl⟩ | exact ⟨trivial, _, rfl⟩
  · rw [if_neg h0] at hask ⊢
    have hs : sqE b = elE b := by unfold sqE; rw [if_neg h0]
    have h0' : (elE b = 0) = False := eq_false h0
    rw [hs]
    refine a0e.intro a5b a5a (Nat.le_of_ble_eq_true rfl) (cl2i _ _) fun H hH => ?_
    refine Safe.rg rfl ?_
    simp only [a2K, E3, seval]
    refine Safe.rg rfl ?_
    simp only [a2J, E3, seval]
    first | refine (hask).acall ?_ | refine (hask).dcall ?_
    try simp only [E3, seval]
    refine Safe.rg rfl ?_
    simp only [a2I, h0', E3, seval]
    refine Safe.cd rfl ?_
    simp only [E3, seval]
    refine Safe.rg rfl ?_
    simp only [a2H, E3, seval]
    refine Safe.rt rfl ?_
    simp only [E3, seval]
    first | exact ⟨rfl, _, rfl⟩ | exact ⟨_, rfl⟩ | exact ⟨trivial, _, rfl⟩
end
end Go.Abs
set_option linter.unusedVariables false
set_option linter.unusedSimpArgs false
namespace Go.Abs
section
variable (b : List (List ZI)) {e : Nat} (hm : Mok e b) (hK : KB e + 1 < 1099511627776)
include hm hK
theorem c2y (h0 : elE b = 0) : a0e Pr a4t [matV b] (.tup [.int .i64 (c0W b.length (wid b) (Bm b)), .int .i64 0]) := by
  obtain ⟨hn, hw, hr, hrows⟩ := b0y h0
  have hask := b2e b hm
  unfold askT at hask
  rw [if_pos h0] at hask
  refine a0e.intro b3y b3x (Nat.le_of_ble_eq_true rfl) (cl2i _ _) fun H hH => ?_
  refine Safe.rg rfl ?_
  simp only [a8c, E3, seval]
  refine Safe.rg rfl ?_
  simp only [a8b, E3, seval]
  first | refine (hask).acall ?_ | refine (hask).dcall ?_
  try simp only [E3, seval]
  refine Safe.rg rfl ?_
  simp only [a8a, E3, seval]
  refine Safe.cd rfl ?_
  simp only [E3, seval]
  refine Safe.rg rfl ?_
  simp only [b3v, E3, seval]
  refine (b1l b (Bm b) hrows (fun _ _ => rfl) hm (c9n hm) rfl hn (by omega) hK (hap H [])).mono ?_
  rintro r' H' ⟨β, π, S, L, lx, hLz, hβ, hβn, rfl, hHr, hlz, hlk, rfl⟩
  obtain ⟨L', hL'⟩ := d1S (w := 2) (c := wid b) (oc := some (wid b)) (π := π) (S := S) hβ hβn
  rw [hL']
  have hAH : ∃ L, hap (hap H []) L' = hap H L := ⟨_, a8v _ _ _⟩
  rw [← a2V (hap (hap H []) L')]
  generalize hap (hap H []) L' = A at *
  simp only [E3, seval]
  refine Safe.rg rfl ?_
  simp only [b3u, d1Q, E3, seval]
  refine Safe.rt rfl ?_
  simp only [E3, seval]
  obtain ⟨L0, rfl⟩ := hAH
  exact ⟨rfl, _, a8v _ _ _⟩
omit hK in
theorem b3S (h0 : elE b ≠ 0) : a0e Pr a4t [matV b] (.tup [.int .i64 0, .int .i64 (elE b)]) := by
  have hask := b2e b hm
  unfold askT at hask
  rw [if_neg h0] at hask
  have h0' : (elE b = 0) = False := eq_false h0
  refine a0e.intro b3y b3x (Nat.le_of_ble_eq_true rfl) (cl2i _ _) fun H hH => ?_
  refine Safe.rg rfl ?_
  simp only [a8c, E3, seval]
  refine Safe.rg rfl ?_
  simp only [a8b, E3, seval]
  first | refine (hask).acall ?_ | refine (hask).dcall ?_
  try simp only [E3, seval]
  refine Safe.rg rfl ?_
  simp only [a8a, h0', E3, seval]
  refine Safe.cd rfl ?_
  simp only [E3, seval]
  refine Safe.rg rfl ?_
  simp only [b3w, E3, seval]
  refine Safe.rt rfl ?_
  simp only [E3, seval]
  first | exact ⟨rfl, _, rfl⟩ | exact ⟨_, rfl⟩ | exact ⟨trivial, _, rfl⟩
omit hK in
theorem d5t (n : Nat) (hn : n ≤ 64) : (dv n (Bm b) n).num = detI n (Bm b) ∧ (detI n (Bm b)).natAbs ≤ LB ^ KB e := by
  obtain ⟨z, hz, hz1⟩ := d5s (c9n hm) n (.inl hn)
  refine ⟨rfl, ?_⟩
  unfold detI
  rw [(a5G hz).1]; exact hz1
theorem d2R (h0 : sqE b = 0) : a0e Pr b2j [matV b] (.tup [Z (detI b.length (Bm b)), .int .i64 0]) := by
  obtain ⟨hn, hrows⟩ := a3I h0
  have hsq := a5D b hm
  unfold sqT at hsq
  rw [if_pos (b0w h0).1, h0] at hsq
  refine a0e.intro c3u c3t (Nat.le_of_ble_eq_true rfl) (a8l (Z_cl _) (.int _ _)) fun H hH => ?_
  refine Safe.rg rfl ?_
  simp only [b6V, E3, seval]
  refine Safe.rg rfl ?_
  simp only [b6U, E3, seval]
  first | refine (hsq).acall ?_ | refine (hsq).dcall ?_
  try simp only [E3, seval]
  refine Safe.rg rfl ?_
  simp only [b6T, E3, seval]
  refine Safe.cd rfl ?_
  simp only [E3, seval]
  refine Safe.rg rfl ?_
  simp only [b6S, E3, seval]
  first | refine (b1g b hm rfl hn hK hrows).acall ?_ | refine (b1g b hm rfl hn hK hrows).dcall ?_
  try simp only [E3, seval]
  simp only [Z, E3, seval]
  refine Safe.rt rfl ?_
  simp only [E3, seval]
  first | exact ⟨rfl, _, rfl⟩ | exact ⟨_, rfl⟩ | exact ⟨trivial, _, rfl⟩
end
end Go.Abs
set_option linter.unusedVariables false
set_option linter.unusedSimpArgs false
namespace Go.Abs
theorem c8c : KB 1048576 + 1 < 1099511627776 := by decide
theorem c3x {b : List (List ZI)} {e n : Nat} (hb : Mok e b) (hn : n ≤ 64) (hK : KB e + 1 < 1099511627776) : (detI n (Bm b)).natAbs < LB ^ (KB e + 1) := by
  have h := (d5t b hb n hn).2
  have : LB ^ KB e < LB ^ (KB e + 1) := Nat.pow_lt_pow_right (by decide) (by omega)
  omega
theorem d0Z {z : Int} {k : Nat} (h : z.natAbs < LB ^ k) (hk : k ≤ 17592186044416) : a0e Pr a8E [Z z, Z z] (.bool true) := by
  have := d3E (canZ z) ((a0N h).mono hk)
  rwa [b2b] at this
end Go.Abs
set_option linter.unusedVariables false
set_option linter.unusedSimpArgs false
namespace Go.Abs
theorem d2l (H : Heap) (v : List ZI) (k : IntKind) {n : Nat} (h : n ≤ v.length) : slcV H 2 (vecV v) none (some (.int k n)) none = some (vecV (v.take n)) := by
  simp only [slcV, vecV, a2v, Option.bind_some, List.length_map]
  rw [if_pos ⟨trivial, by omega, by omega, by omega⟩]
  simp [List.map_take]
theorem Vok.take {k : Nat} {v : List ZI} (h : Vok k v) (n : Nat) : Vok k (v.take n) := ⟨by rw [List.length_take]; have := h.len; omega, fun x hx => h.el x (List.mem_of_mem_take hx)⟩
/-- The first square of a size. -/
def sub (b : List (List ZI)) (k : Nat) : List (List ZI) := mat k fun i => (mg b i).take k
theorem d2v {w : List (List ZI)} {k : Nat} (hl : w.length = k) (hrow : ∀ i, (h : i < w.length) → w[i].length = k) (hk : k ≤ 64) : sqE w = 0 := by
  have hr : Rect w := fun i hi => by rw [a2M hi, a2M (by omega), hrow i hi, hrow 0 (by omega)]
  have hw : wid w = k := by
    rcases Nat.eq_zero_or_pos k with h | h
    · subst h
      have : w = [] := List.length_eq_zero_iff.1 hl
      subst this; rfl
    · unfold wid; rw [a2M (by omega), hrow 0 (by omega)]
  rcases a8h w with ⟨h, _⟩ | ⟨_, h, _⟩ | ⟨_, _, _, h⟩
  · exact absurd hr h
  · omega
  · unfold sqE; rw [if_pos h, if_pos (by omega)]
end Go.Abs
set_option linter.unusedVariables false
set_option linter.unusedSimpArgs false
namespace Go.Abs
/-- Rows of whole numbers with such values. -/
structure Rz (n c K : Nat) (rows : List (List ZI)) (f : Nat → Nat → Int) : Prop where
  len : rows.length = n
  wid : ∀ i, i < n → (mg rows i).length = c
  at_ : ∀ i k, i < n → k < c → zg (mg rows i) k = f i k
  ok : ∀ i, i < n → Vok K (mg rows i)
end Go.Abs
set_option linter.unusedVariables false
set_option linter.unusedSimpArgs false
namespace Go.Abs
def a0Q (x : Nat → Rat) : Nat → Nat
  | 0 => 1
  | n + 1 => a0Q x n * ((x n).den / Nat.gcd (a0Q x n) (x n).den)
def outI (x : Nat → Rat) (c i : Nat) : Int := (x i).num * ((a0Q x c / (x i).den : Nat) : Int)
theorem b1R (x : Nat → Rat) (n : Nat) : a0Q x (n + 1) = Nat.lcm (a0Q x n) (x n).den := by
  rw [a0Q, Nat.lcm, Nat.mul_div_assoc _ (Nat.gcd_dvd_right _ _)]
theorem a7P (x : Nat → Rat) : ∀ n, 0 < a0Q x n
  | 0 => Nat.one_pos
  | n + 1 => by rw [b1R]; exact Nat.lcm_pos (a7P x n) (x n).den_pos
theorem a7Q {x : Nat → Rat} {M : Nat} : ∀ {n : Nat}, (∀ i, i < n → (x i).den ∣ M) → a0Q x n ∣ M
  | 0, _ => Nat.one_dvd _
  | n + 1, h => by rw [b1R]; exact Nat.lcm_dvd (a7Q fun i hi => h i (by omega)) (h n (by omega))
theorem b7a (x : Nat → Rat) : ∀ {n i : Nat}, i < n → (x i).den ∣ a0Q x n
  | 0, _, h => absurd h (by omega)
  | n + 1, i, h => by
    rw [b1R]
    by_cases e : i = n
    · subst e; exact Nat.dvd_lcm_right _ _
    · exact Nat.dvd_trans (b7a x (by omega)) (Nat.dvd_lcm_left _ _)
/-- All of them times one number are whole, of such a size. -/
structure Sz (x : Nat → Rat) (c K : Nat) : Prop where
  ex : ∃ D : Int, D ≠ 0 ∧ D.natAbs < LB ^ K ∧ ∀ i, i < c → ∃ z : Int, (D : Rat) * x i = z ∧ z.natAbs < LB ^ K
theorem c4s {D z : Int} {q : Rat} (hD : D ≠ 0) (h : (D : Rat) * q = z) : q.den ∣ D.natAbs := by
  have hl : (D : Rat) ≠ 0 := fun e => hD (Rat.intCast_inj.1 (by rw [e]; rfl))
  have e : q = Rat.divInt z D := by
    rw [Rat.divInt_eq_div, ← h]
    generalize (D : Rat) = x at *
    grind
  rw [e, Rat.den_divInt, if_neg hD]
  exact Nat.div_dvd_of_dvd (by rw [Int.gcd]; exact Nat.gcd_dvd_left _ _)
theorem b4P (x : Nat → Rat) {c i : Nat} (hi : i < c) : ((a0Q x c : Nat) : Rat) * x i = ((outI x c i : Int) : Rat) := by
  obtain ⟨m, hm⟩ := b7a x hi
  unfold outI
  have hd := (x i).den_pos
  rw [hm, Nat.mul_div_cancel_left _ hd]
  have h1 : x i = ((x i).num : Rat) / ((x i).den : Rat) := by rw [← Rat.mkRat_eq_div, Rat.mkRat_self]
  have h2 : ((x i).den : Rat) ≠ 0 := by
    intro h
    have : ((x i).den : Nat) = 0 := by exact_mod_cast h
    omega
  rw [Rat.intCast_mul, Rat.natCast_mul]
  have h3 : (((m : Nat) : Int) : Rat) = ((m : Nat) : Rat) := rfl
  rw [h3]
  have h4 := Rat.div_mul_cancel (a := ((x i).num : Rat)) h2
  rw [← h1] at h4
  clear h1 hm
  generalize ((x i).den : Rat) = d at *
  generalize ((x i).num : Rat) = a at *
  generalize ((m : Nat) : Rat) = k
  generalize x i = y at *
  grind
section
variable {x : Nat → Rat} {c K : Nat} (h : Sz x c K)
include h
theorem d5b {n : Nat} (hn : n ≤ c) : a0Q x n < LB ^ K := by
  obtain ⟨D, hD, hD1, hz⟩ := h.ex
  have hd : a0Q x n ∣ D.natAbs := a7Q fun i hi => by obtain ⟨z, hz, _⟩ := hz i (by omega); exact c4s hD hz
  exact Nat.lt_of_le_of_lt (Nat.le_of_dvd (by omega) hd) hD1
theorem d4S {i : Nat} (hi : i < c) : (outI x c i).natAbs < LB ^ K := by
  obtain ⟨D, hD, hD1, hz⟩ := h.ex
  have hd : a0Q x c ∣ D.natAbs := a7Q fun i hi => by obtain ⟨z, hz, _⟩ := hz i hi; exact c4s hD hz
  obtain ⟨z, hz, hz1⟩ := hz i hi
  obtain ⟨m, hm⟩ := Int.ofNat_dvd_left.2 hd
  have hm0 : m ≠ 0 := fun e => hD (by rw [hm, e, Int.mul_zero])
  have ho := b4P x hi
  have : z = m * outI x c i := by
    refine Rat.intCast_inj.1 ?_
    rw [← hz, Rat.intCast_mul, ← ho, hm, Rat.intCast_mul]
    have h3 : (((a0Q x c : Nat) : Int) : Rat) = ((a0Q x c : Nat) : Rat) := rfl
    rw [h3]
    generalize ((a0Q x c : Nat) : Rat) = l
    generalize (m : Rat) = k
    generalize x i = y
    grind
  rw [this, Int.natAbs_mul] at hz1
  exact Nat.lt_of_le_of_lt (Nat.le_mul_of_pos_left _ (by omega)) hz1
end
end Go.Abs
set_option linter.unusedVariables false
set_option linter.unusedSimpArgs false
namespace Go.Abs
def InC (j : JS) (c : Nat) (v : Nat → Rat) : Prop := ∀ k, k < c → v k = sumR (fun i => v (j.s.cs.getD i 0) * j.M i k) j.s.cs.length
/-- Row i with the a0v from m on cleared. -/
structure RowP (j : JS) (c m i : Nat) (f : Nat → Int) : Prop where
  inn : InC j c fun k => (f k : Rat)
  lo : ∀ t, t < i → f (j.s.cs.getD t 0) = 0
  hi : ∀ t, m ≤ t → t < j.s.cs.length → t ≠ i → f (j.s.cs.getD t 0) = 0
  piv : f (j.s.cs.getD i 0) ≠ 0
section
variable {j : JS} {c : Nat} (hcs : ∀ t, t < j.s.cs.length → j.s.cs.getD t 0 < c)
include hcs
theorem d2E {m i : Nat} {f : Nat → Int} (hi : i < j.s.cs.length) (h : RowP j c m i f) : Nz f c := ⟨_, hcs i hi, h.piv⟩
omit hcs in
theorem c7k {m : Nat} {f : Nat → Int} (hf : RowP j c (m + 1) m f) : RowP j c m m f :=
  ⟨hf.inn, hf.lo, fun t h1 h2 h3 => hf.hi t (by omega) h2 h3, hf.piv⟩
/-- Cleared everywhere it is the row of the fractions. -/
theorem c0T {m i : Nat} {f : Nat → Int} (hmi : m ≤ i) (hi : i < j.s.cs.length) (hf : RowP j c m i f) (hpr : ∀ k, k < c → a7h f c k = f k) : ∀ k, k < c → f k = a7h (outI (j.M i) c) c k := by
  intro k hk
  have hall : ∀ t, t < j.s.cs.length → t ≠ i → ((f (j.s.cs.getD t 0) : Int) : Rat) = 0 := fun t ht hne => by
    have : f (j.s.cs.getD t 0) = 0 := by
      rcases Nat.lt_or_ge t i with h | h
      · exact hf.lo t h
      · exact hf.hi t (by omega) ht hne
    rw [this]; rfl
  have hM : ∀ k, k < c → ((f k : Int) : Rat) = (f (j.s.cs.getD i 0) : Rat) * j.M i k := fun k hk => by
    have h1 := hf.inn k hk
    rw [a8q hi fun t ht hne => by show ((f (j.s.cs.getD t 0) : Int) : Rat) * j.M t k = 0; rw [hall t ht hne]; grind] at h1
    exact h1
  rw [← hpr k hk]
  have hl := a7P (j.M i) c
  refine c9S (a := (a0Q (j.M i) c : Int)) (b := f (j.s.cs.getD i 0)) (by omega) hf.piv (d2E hcs hi hf) (fun t ht => ?_) hk
  refine Rat.intCast_inj.1 ?_
  rw [Rat.intCast_mul, Rat.intCast_mul, hM t ht, ← b4P (j.M i) ht]
  have h3 : (((a0Q (j.M i) c : Nat) : Int) : Rat) = ((a0Q (j.M i) c : Nat) : Rat) := rfl
  rw [h3]
  generalize ((a0Q (j.M i) c : Nat) : Rat) = l
  generalize (f (j.s.cs.getD i 0) : Rat) = p
  generalize j.M i t = y
  grind
end
end Go.Abs
set_option linter.unusedVariables false
set_option linter.unusedSimpArgs false
namespace Go.Abs
def d5J (h c : Nat) (f g : Nat → Int) : Nat → Int := if f h = 0 then f else a7h (fun k => g h * f k - f h * g k) c
/-- The rows after k a0v have been cleared. -/
def Fs (cs : List Nat) (c : Nat) (F0 : Nat → Nat → Int) : Nat → Nat → Nat → Int
  | 0 => F0
  | k + 1 => fun i => if i < cs.length - (k + 1) then d5J (cs.getD (cs.length - (k + 1)) 0) c (Fs cs c F0 k i) (Fs cs c F0 k (cs.length - (k + 1))) else Fs cs c F0 k i
section
variable {n c e : Nat} {B : Nat → Nat → Rat} (hB : Bd e B) (hn : n ≤ 64)
include hB hn
def F0s (n : Nat) (B : Nat → Nat → Rat) (c : Nat) : Nat → Nat → Int := fun i => a7h (ZgI n B c i) c
def Fk (n : Nat) (B : Nat → Nat → Rat) (c k : Nat) : Nat → Nat → Int := Fs (gproc n B c).cs c (F0s n B c) k
omit hB hn in
theorem d1R : ∀ t, t < (a4b n B c).s.cs.length → (a4b n B c).s.cs.getD t 0 < c := by
  intro t ht
  rw [a4V] at ht ⊢
  exact b9q ht
structure Fok (n c e : Nat) (B : Nat → Nat → Rat) (k : Nat) : Prop where
  row : ∀ i, i < (gproc n B c).cs.length → RowP (a4b n B c) c ((gproc n B c).cs.length - k) i (Fk n B c k i)
  idem : ∀ i, i < (gproc n B c).cs.length → ∀ t, t < c → a7h (Fk n B c k i) c t = Fk n B c k i t
  sz : ∀ i, i < (gproc n B c).cs.length → ∀ t, t < c → (Fk n B c k i t).natAbs < LB ^ ((KB e + 1) + k * (KB e + 2))
omit hB hn in
theorem Fok.top {k i : Nat} (h : Fok n c e B k) (hi : i < (gproc n B c).cs.length) (hk : (gproc n B c).cs.length - k ≤ i + 1) : ∀ t, t < c → Fk n B c k i t = a7h (outI ((a4b n B c).M i) c) c t := by
  have hrow : RowP (a4b n B c) c ((gproc n B c).cs.length - k) i (Fk n B c k i) := h.row i hi
  have hlen : (a4b n B c).s.cs.length = (gproc n B c).cs.length := by rw [a4V]
  by_cases e : (gproc n B c).cs.length - k ≤ i
  · exact c0T (d1R) e (by rw [hlen]; exact hi) hrow (h.idem i hi)
  · have e2 : (gproc n B c).cs.length - k = i + 1 := by omega
    rw [e2] at hrow
    exact c0T (d1R) (Nat.le_refl i) (by rw [hlen]; exact hi) (c7k hrow) (h.idem i hi)
end
end Go.Abs
set_option linter.unusedVariables false
set_option linter.unusedSimpArgs false
namespace Go.Abs
theorem b4b {b : List (List ZI)} {e n : Nat} (hm : Mok e b) (hn : n ≤ 64) : ((detI n (Bm b) : Int) : Rat) = det n (Bm b) := by
  obtain ⟨z, hz, _⟩ := d5s (c9n hm) n (.inl hn)
  have h := d1Y (n := n) (B := Bm b) fun i k => ⟨_, rfl⟩
  rw [← h]
  unfold detI
  rw [(a5G hz).1, hz]
theorem d3O {b c : List (List ZI)} {e f n : Nat} (hb : Mok e b) (hc : Mok f c) (hn : n ≤ 64) {z : Int} (h : det n (Bm c) = (z : Rat)) : detI n (Bm c) = z := Rat.intCast_inj.1 (by rw [b4b hc hn, h])
theorem c0L (f : Nat → Int) : ∀ m, ((b9D f m : Int) : Rat) = sumR (fun j => (f j : Rat)) m
  | 0 => rfl
  | m + 1 => by rw [b9D, sumR, ← c0L f m, Rat.intCast_add]
theorem c9w : detI 3 (Bm (a5i 3)) = 1 := by
  refine d3O (b3W 3 (by decide)) (b3W 3 (by decide)) (by decide) ?_
  rw [show ((1 : Int) : Rat) = 1 from rfl, ← c0m 3]
  refine a0r fun r c hr hc => ?_
  unfold Bm a5i oneR
  rw [a8N hr, c3L hc]
  unfold updF
  by_cases e : r = c
  · rw [if_pos e, if_pos e.symm]; rfl
  · rw [if_neg e, if_neg (Ne.symm e)]; rfl
theorem a3D : a0e Pr a6k [] (.bool true) := by
  have hu := b3W 3 (by decide)
  have h0 : sqE (a5i 3) = 0 := d2v (k := 3) (a0d _ _) (fun i hi => by
    have : (a5i 3)[i] = vec 3 (updF (fun _ => 0) i 1) := b9P hi
    rw [this, a0b]) (by decide)
  have hd := d2R (a5i 3) (hu.mono (show 1 ≤ 1048576 by decide)) c8c h0
  rw [show (a5i 3).length = 3 from a0d _ _, c9w] at hd
  refine a0e.intro b7C b7B (Nat.le_of_ble_eq_true rfl) (.bool _) fun H hH => ?_
  refine Safe.rg rfl ?_
  simp only [a9e, E3, Nat.reduceLeDiff, Nat.reduceSub, Nat.reduceAdd, Nat.reduceEqDiff, reduceCtorEq, ↓reduceIte]
  refine Safe.rg rfl ?_
  simp only [a9d, E3, Nat.reduceLeDiff, Nat.reduceSub, Nat.reduceAdd, Nat.reduceEqDiff, reduceCtorEq, ↓reduceIte]
  first | refine (b3V 3 (by decide)).acall ?_ | refine (b3V 3 (by decide)).dcall ?_
  try simp only [E3, Nat.reduceLeDiff, Nat.reduceSub, Nat.reduceAdd, Nat.reduceEqDiff, reduceCtorEq, ↓reduceIte]
  refine Safe.rg rfl ?_
  simp only [a9c, E3, Nat.reduceLeDiff, Nat.reduceSub, Nat.reduceAdd, Nat.reduceEqDiff, reduceCtorEq, ↓reduceIte]
  first | refine (hd).acall ?_ | refine (hd).dcall ?_
  try simp only [E3, Nat.reduceLeDiff, Nat.reduceSub, Nat.reduceAdd, Nat.reduceEqDiff, reduceCtorEq, ↓reduceIte]
  refine Safe.rg rfl ?_
  simp only [a9b, E3, Nat.reduceLeDiff, Nat.reduceSub, Nat.reduceAdd, Nat.reduceEqDiff, reduceCtorEq, ↓reduceIte]
  refine (b0i 1 (by decide) (by decide)).dcall ?_
  simp only [E3, Nat.reduceLeDiff, Nat.reduceSub, Nat.reduceAdd, Nat.reduceEqDiff, reduceCtorEq, ↓reduceIte]
  refine (d0Z (z := 1) (k := 1) (by decide) (by decide)).dcall ?_
  simp only [E3, Nat.reduceLeDiff, Nat.reduceSub, Nat.reduceAdd, Nat.reduceEqDiff, reduceCtorEq, ↓reduceIte]
  have hl : (((limbs (Int.natAbs 1)).length : Nat) : Int) = 1 := by rw [a3V (by decide), List.length_cons, show Int.natAbs 1 / LB = 0 by decide, a0D]; rfl
  refine Safe.rt rfl ?_
  simp only [hl, E3, Nat.reduceLeDiff, Nat.reduceSub, Nat.reduceAdd, Nat.reduceEqDiff, reduceCtorEq, ↓reduceIte]
  first | exact ⟨rfl, _, rfl⟩ | exact ⟨_, rfl⟩ | exact ⟨trivial, _, rfl⟩
end Go.Abs
set_option linter.unusedVariables false
set_option linter.unusedSimpArgs false
namespace Go.Abs
def gcdF (d : Int) (q : Nat → Int) : Nat → Nat
  | 0 => d.natAbs
  | n + 1 => Int.gcd (gcdF d q n) (q n)
def sgD (d : Int) : Int := if d < 0 then -1 else 1
theorem b0S (d : Int) (q : Nat → Int) : ∀ n, (gcdF d q n : Int) ∣ d
  | 0 => by rw [gcdF]; exact Int.natAbs_dvd.2 (Int.dvd_refl d)
  | n + 1 => Int.dvd_trans (Int.gcd_dvd_left ..) (b0S d q n)
theorem c4h (d : Int) (q : Nat → Int) : ∀ {n i : Nat}, i < n → (gcdF d q n : Int) ∣ q i
  | 0, _, h => absurd h (by omega)
  | n + 1, i, h => by
    rw [gcdF]
    by_cases e : i = n
    · subst e; exact Int.gcd_dvd_right ..
    · exact Int.dvd_trans (Int.gcd_dvd_left ..) (c4h d q (by omega))
theorem c8r {d : Int} (hd : d ≠ 0) (q : Nat → Int) (n : Nat) : gcdF d q n ≠ 0 := fun h => by
  have := b0S d q n
  rw [h] at this
  exact hd (Int.zero_dvd.1 this)
theorem d3l {d : Int} (hd : d ≠ 0) (q : Nat → Int) (n : Nat) : gcdF d q n ≤ d.natAbs := Nat.le_of_dvd (by omega) (Int.ofNat_dvd_left.1 (b0S d q n))
theorem c1z (c d : Int) (q p : Nat → Int) : ∀ n, (∀ i, i < n → p i = c * q i) → gcdF (c * d) p n = c.natAbs * gcdF d q n
  | 0, _ => by rw [gcdF, gcdF, Int.natAbs_mul]
  | n + 1, h => by
    rw [gcdF, gcdF, c1z c d q p n fun i hi => h i (by omega), h n (by omega)]
    rw [Int.gcd, Int.gcd, Int.natAbs_mul, Int.natAbs_natCast, Int.natAbs_natCast, Nat.gcd_mul_left]
/-- Over the least denominator nothing more can be taken out. -/
theorem d0L (x : Nat → Rat) (n : Nat) : gcdF (a0Q x n) (outI x n) n = 1 := by
  have hL := a7P x n
  have hL0 : (a0Q x n : Int) ≠ 0 := by omega
  have hg := c8r hL0 (outI x n) n
  obtain ⟨l, hl⟩ := b0S (a0Q x n) (outI x n) n
  have hd := fun i (hi : i < n) => c4h (a0Q x n) (outI x n) hi
  generalize gcdF (a0Q x n) (outI x n) n = g at *
  have hl0 : l ≠ 0 := fun e => hL0 (by rw [hl, e, Int.mul_zero])
  have hdv : a0Q x n ∣ l.natAbs := a7Q fun i hi => by
    obtain ⟨o, ho⟩ := hd i hi
    refine c4s (z := o) hl0 ?_
    have h1 := b4P x hi
    have h2 : ((a0Q x n : Nat) : Rat) = (((a0Q x n : Nat) : Int) : Rat) := rfl
    rw [ho, h2, hl, Rat.intCast_mul, Rat.intCast_mul] at h1
    have hgr : (((g : Nat) : Int) : Rat) ≠ 0 := fun e => hg (by have := Rat.intCast_inj.1 (show (((g : Nat) : Int) : Rat) = ((0 : Int) : Rat) from e); omega)
    have h3 : (((g : Nat) : Int) : Rat) * ((l : Rat) * x i - (o : Rat)) = 0 := by grind
    rcases Rat.mul_eq_zero.1 h3 with h | h
    · exact absurd h hgr
    · grind
  obtain ⟨k, hk⟩ := hdv
  have h1 : a0Q x n = g * l.natAbs := by
    have := congrArg Int.natAbs hl
    rwa [Int.natAbs_natCast, Int.natAbs_mul, Int.natAbs_natCast] at this
  rw [hk] at h1
  have h2 : a0Q x n * 1 = a0Q x n * (g * k) := by rw [Nat.mul_one, Nat.mul_left_comm]; exact h1
  exact Nat.eq_one_of_mul_eq_one_right (Nat.eq_of_mul_eq_mul_left hL h2).symm
/-- Numbers over one denominator, brought into lowest terms. -/
theorem c6P {d : Int} (hd : d ≠ 0) {q : Nat → Int} {x : Nat → Rat} {n : Nat} (h : ∀ i, i < n → ((q i : Int) : Rat) = (d : Rat) * x i) :
    d = sgD d * (gcdF d q n : Int) * (a0Q x n : Int) ∧ ∀ i, i < n → q i = sgD d * (gcdF d q n : Int) * outI x n i := by
  have hL := a7P x n
  have hdv : (a0Q x n : Int) ∣ d := Int.ofNat_dvd_left.2 (a7Q fun i hi => c4s hd (h i hi).symm)
  obtain ⟨c, hc⟩ := hdv
  have hq : ∀ i, i < n → q i = c * outI x n i := fun i hi => by
    refine Rat.intCast_inj.1 ?_
    rw [h i hi, hc, Rat.intCast_mul, Rat.intCast_mul, ← b4P x hi]
    have h3 : (((a0Q x n : Nat) : Int) : Rat) = ((a0Q x n : Nat) : Rat) := rfl
    rw [h3]
    grind
  have hg : gcdF d q n = c.natAbs := by
    rw [hc, Int.mul_comm, c1z c (a0Q x n) (outI x n) q n hq, d0L, Nat.mul_one]
  have hs : sgD d * (c.natAbs : Int) = c := by
    unfold sgD
    by_cases hn : d < 0
    · rw [if_pos hn]
      have : c < 0 := Classical.byContradiction fun hge => by
        have := Int.mul_nonneg (show (0 : Int) ≤ (a0Q x n : Int) by omega) (show 0 ≤ c by omega)
        omega
      omega
    · rw [if_neg hn]
      have : 0 ≤ c := Classical.byContradiction fun hlt => by
        have := Int.mul_neg_of_pos_of_neg (show (0 : Int) < (a0Q x n : Int) by omega) (show c < 0 by omega)
        omega
      omega
  rw [hg, hs]
  exact ⟨by rw [Int.mul_comm]; exact hc, hq⟩
theorem c4Z (q P : Nat → Int) (d D : Int) {n K : Nat} (hq : ∀ i, i < n → (q i).natAbs < LB ^ K) (hd : d.natAbs < LB ^ K) (hK : K < 17592186043000) (hn : n ≤ 2097152) (hd0 : d ≠ 0)
    (hD : d = sgD d * (gcdF d q n : Int) * D) (hP : ∀ i, i < n → q i = sgD d * (gcdF d q n : Int) * P i) : a0e Pr a4O [vecV (vec n q), Z d] (.tup [vecV (vec n P), Z D]) := by
  have hgl : ∀ i, gcdF d q i < LB ^ K := fun i => Nat.lt_of_le_of_lt (d3l hd0 q i) hd
  have hg0 := c8r hd0 q n
  have hvq : Vok K (vec n q) := b4g hn hq
  have hzq : ∀ i, (h : i < n) → Zok K (canZ (q i)) := fun i hi => a0N (hq i hi)
  refine a0e.intro c0h c0f (Nat.le_of_ble_eq_true rfl) (a8l (a0h _) (Z_cl _)) fun H hH => ?_
  refine Safe.rg rfl ?_
  simp only [b1b, E3, seval]
  refine Safe.rg rfl ?_
  simp only [b1a, E3, seval]
  refine (c6E (canZ d) ((a0N hd).mono (by omega))).acall ?_
  simp only [a1l, E3, seval]
  refine Safe.rg rfl ?_
  simp only [b0Z, c2p, a0b, E3, seval]
  refine Safe.lp rfl ?_
  refine Safe.keep [0, 3, 4, 5, 6, 20, 21, 22] ?_
  try simp only [E3, seval]
  refine Safe.loopN (n) (fun i => [(0, vecV (vec n q)), (3, .loc (lid H 0) 0 0), (4, .nil), (5, .loc (lid H 1) 0 0), (6, .loc (lid H 2) 0 0), (20, vecV (vec n q)), (21, .int .i64 n), (22, .int .i64 i)]) (fun i => hap H [some ⟨2, [Z d]⟩, some ⟨2, [.agg [.bool false, .nil]]⟩, some ⟨2, [Z (gcdF d q i : Nat)]⟩]) rfl rfl (fun i hi ih => ?_) ?_
  · have hlt : ((i : Int) < (n : Int)) = True := eq_true (by omega)
    have hiw : IntKind.wrap .i64 ((i : Int) + 1) = ((i + 1 : Nat) : Int) := by rw [a0a] <;> omega
    refine Safe.inLoop ?_
    refine Safe.rg rfl ?_
    simp only [a5Z, hlt, E3, seval]
    refine Safe.cd rfl ?_
    simp only [E3, seval]
    refine Safe.rg rfl ?_
    simp only [b0Y, a7a _ (vec n q) _ i (by rw [a0b]; exact hi), a9y, E3, seval]
    refine Safe.rg rfl ?_
    simp only [b0X, E3, seval]
    have hg := c6B (canZ (gcdF d q i : Nat)) (canZ (q i)) K (a0N (by exact hgl i)) (hzq i hi) (by omega)
    rw [a1l, a1l] at hg
    refine hg.acall ?_
    simp only [E3, seval]
    refine Safe.rg rfl ?_
    simp only [b0W, hiw, E3, seval]
    refine Safe.keep [0, 3, 4, 5, 6, 20, 21, 22] ?_
    simp only [E3, seval]
    refine Safe.drop3 hH rfl (by simp only [List.all_cons, List.all_nil, E3, seval]) (by repeat (first | exact RC.nil | refine RC.none ?_ | refine RC.row ZI.cl ?_ | refine RC.cons (a0y _) ?_ | refine RC.row a0h ?_ | refine RC.emp ?_ | refine RC.zero ?_ | refine RC.one (Z_cl _) ?_ | refine RC.one (ZI.cl _) ?_ | refine RC.one (a0h _) ?_)) ?_
    exact ih
  · refine Safe.inLoop ?_
    refine Safe.rg rfl ?_
    simp only [a5Z, Int.lt_irrefl, E3, seval]
    refine Safe.cd rfl ?_
    simp only [E3, seval]
    refine Safe.rg rfl ?_
    simp only [b0V, E3, seval]
    refine (a1v (canZ d) ((a0N hd).mono (by omega))).acall ?_
    simp only [a1l, E3, seval]
    have main : ∀ Q : Int, Q = sgD d * (gcdF d q n : Int) → Safe ⟨Pr, fun _ _ => false, a4O, 62, [.tmp 4, .cell 5 (some 2)], H.length⟩
        [.code ((ACode.region a5Y false).seq (((ACode.region a4Z false).seq (.block 2 (.loop b1c))).seq ((ACode.region a4X false).seq ((ACode.region a4W true).seq .ret))))]
        [(0, vecV (vec n q)), (3, .loc (lid H 0) 0 0), (4, .nil), (5, .loc (lid H 1) 0 0), (6, .loc (lid H 2) 0 0)] (hap H [some ⟨2, [Z d]⟩, some ⟨2, [.agg [.bool false, .nil]]⟩, some ⟨2, [Z Q]⟩]) fun r' H' => r' = .tup [vecV (vec n P), Z D] ∧ ∃ L, H' = hap H L := by
      intro Q hQ
      have hs1 : sgD d = 1 ∨ sgD d = -1 := by unfold sgD; split <;> simp
      have hQ0 : Q ≠ 0 := by rw [hQ]; exact Int.mul_ne_zero (by rcases hs1 with h | h <;> omega) (by omega)
      have hQk : Q.natAbs < LB ^ K := by
        have : Q.natAbs = gcdF d q n := by
          rw [hQ, Int.natAbs_mul]
          rcases hs1 with h | h <;> rw [h] <;> simp
        rw [this]; exact hgl _
      refine Safe.rg rfl ?_
      simp only [a5Y, E3, seval]
      refine Safe.nilrow 9 2 (by decide) (by simp only [E3, seval]) ?_
      refine Safe.rg rfl ?_
      simp only [a4Z, c2p, a0b, E3, seval]
      refine Safe.lp rfl ?_
      refine Safe.keep [3, 4, 5, 6, 9, 35, 36, 37] ?_
      try simp only [E3, seval]
      refine Safe.loopN (n) (fun i => [(3, .loc (lid H 0) 0 0), (4, .nil), (5, .loc (lid H 1) 0 0), (6, .loc (lid H 2) 0 0), (9, .mu (lid H 3) 0 i none), (35, vecV (vec n q)), (36, .int .i64 n), (37, .int .i64 i)]) (fun i => hap H [some ⟨2, [Z d]⟩, some ⟨2, [.agg [.bool false, .nil]]⟩, some ⟨2, [Z Q]⟩, some ⟨2, (vec i P).map ZI.av⟩]) rfl rfl (fun i hi ih => ?_) ?_
      · have hlt : ((i : Int) < (n : Int)) = True := eq_true (by omega)
        have hiw : IntKind.wrap .i64 ((i : Int) + 1) = ((i + 1 : Nat) : Int) := by rw [a0a] <;> omega
        refine Safe.inLoop ?_
        refine Safe.rg rfl ?_
        simp only [a4Y, hlt, E3, seval]
        refine Safe.cd rfl ?_
        simp only [E3, seval]
        refine Safe.rg rfl ?_
        simp only [a9m, a7a _ (vec n q) _ i (by rw [a0b]; exact hi), a9y, E3, seval]
        refine Safe.rg rfl ?_
        simp only [a9l, E3, seval]
        have hfl := a6Z (canZ (q i)) (canZ Q) K (hzq i hi) (a0N hQk) (by omega) (P i) (by rw [a1l]; exact hQ0) (by rw [a1l, a1l, hQ]; exact hP i hi)
        refine hfl.acall ?_
        simp only [E3, seval]
        refine Safe.rg rfl ?_
        simp only [a9k, E3, seval]
        rw [b7h hH 3 (a3n H 3) ZI.cl (vec i P) (canZ (P i)) (vec (i + 1) P) ?hlen ?hl ?hL ?hy ?hl2 ?hb ?hbb]
        case hlen => first | rfl | (simp only [a0b, a0d, List.length_map, List.length_take]; done) | (simp only [a0b, a0d, List.length_map, List.length_take]; omega)
        case hl => rfl
        case hL => repeat (first | exact RC.nil | refine RC.none ?_ | refine RC.row ZI.cl ?_ | refine RC.cons (a0y _) ?_ | refine RC.row a0h ?_ | refine RC.emp ?_ | refine RC.zero ?_ | refine RC.one (Z_cl _) ?_ | refine RC.one (ZI.cl _) ?_ | refine RC.one (a0h _) ?_)
        case hy => rfl
        case hl2 => first | exact a5A _ _ | exact a4K _ _ | exact a3H _ (by omega) | exact a1m _ _ (by omega)
        case hb => omega
        case hbb => omega
        simp only [E3, seval]
        refine Safe.rg rfl ?_
        simp only [a9j, hiw, E3, seval]
        refine Safe.keep [3, 4, 5, 6, 9, 35, 36, 37] ?_
        simp only [E3, seval]
        refine Safe.dropC (L := [_, _, _, _, _, _]) hH rfl (by simp only [List.all_cons, List.all_nil, E3, seval]) (by repeat (first | exact RC.nil | refine RC.none ?_ | refine RC.row ZI.cl ?_ | refine RC.cons (a0y _) ?_ | refine RC.row a0h ?_ | refine RC.emp ?_ | refine RC.zero ?_ | refine RC.one (Z_cl _) ?_ | refine RC.one (ZI.cl _) ?_ | refine RC.one (a0h _) ?_)) ?_
        refine Safe.dropC (L := [_, _, _, _, _]) hH rfl (by simp only [List.all_cons, List.all_nil, E3, seval]) (by repeat (first | exact RC.nil | refine RC.none ?_ | refine RC.row ZI.cl ?_ | refine RC.cons (a0y _) ?_ | refine RC.row a0h ?_ | refine RC.emp ?_ | refine RC.zero ?_ | refine RC.one (Z_cl _) ?_ | refine RC.one (ZI.cl _) ?_ | refine RC.one (a0h _) ?_)) ?_
        refine Safe.drop4 hH rfl (by simp only [List.all_cons, List.all_nil, E3, seval]) (by repeat (first | exact RC.nil | refine RC.none ?_ | refine RC.row ZI.cl ?_ | refine RC.cons (a0y _) ?_ | refine RC.row a0h ?_ | refine RC.emp ?_ | refine RC.zero ?_ | refine RC.one (Z_cl _) ?_ | refine RC.one (ZI.cl _) ?_ | refine RC.one (a0h _) ?_)) ?_
        exact ih
      · refine Safe.inLoop ?_
        refine Safe.rg rfl ?_
        simp only [a4Y, Int.lt_irrefl, E3, seval]
        refine Safe.cd rfl ?_
        simp only [E3, seval]
        refine Safe.freeze 3 hH rfl rfl (a1K 2 ZI.av _ ZI.cl) ?_
        refine Safe.keep [3, 4, 5, 6, 9] ?_
        simp only [b1W H 3 (vec n P) (n) (none) (by simp only [a0b, a0d]), a1k, a0O, a3U, a2E, E3, seval]
        refine Safe.rg rfl ?_
        simp only [a4X, E3, seval]
        have hfl := a6Z (canZ d) (canZ Q) K (a0N hd) (a0N hQk) (by omega) D (by rw [a1l]; exact hQ0) (by rw [a1l, a1l, hQ]; exact hD)
        refine hfl.acall ?_
        simp only [E3, seval]
        refine Safe.rg rfl ?_
        simp only [a4W, E3, seval]
        refine Safe.rt rfl ?_
        simp only [E3, seval]
        first | exact ⟨rfl, _, rfl⟩ | exact ⟨_, rfl⟩ | exact ⟨trivial, _, rfl⟩
    by_cases hng : d < 0
    · have hc : (d.sign < 0) = True := eq_true (Int.sign_neg_iff.2 hng)
      simp only [hc, E3, seval]
      refine Safe.cd rfl ?_
      simp only [E3, seval]
      refine Safe.rg rfl ?_
      simp only [b0U, E3, seval]
      have hn2 := b0j (canZ (gcdF d q n : Nat)) ((a0N (by exact hgl _)).mono (by omega))
      rw [a1l] at hn2
      refine hn2.acall ?_
      simp only [E3, seval]
      refine Safe.keep [0, 3, 4, 5, 6] ?_
      simp only [E3, seval]
      exact main _ (by rw [sgD, if_pos hng, Int.neg_mul, Int.one_mul])
    · have hc : (d.sign < 0) = False := eq_false fun h => hng (Int.sign_neg_iff.1 h)
      simp only [hc, E3, seval]
      refine Safe.cd rfl ?_
      simp only [E3, seval]
      refine Safe.keep [0, 3, 4, 5, 6] ?_
      simp only [E3, seval]
      refine Safe.skip ?_
      exact main _ (by rw [sgD, if_neg hng, Int.one_mul])
end Go.Abs
set_option linter.unusedVariables false
set_option linter.unusedSimpArgs false
namespace Go.Abs
theorem c3B (l : List ZI) : ∀ a ∈ (Blk.mk 2 (l.map ZI.av)).flat, Cl a := a1K 2 ZI.av _ ZI.cl
end Go.Abs
set_option linter.unusedVariables false
set_option linter.unusedSimpArgs false
namespace Go.Abs
section
variable (b : List (List ZI)) (v : List ZI)
theorem d4s (l r : List ZI) (k : Nat) : zg (l ++ r) k = if k < l.length then zg l k else zg r (k - l.length) := by
  unfold zg
  rw [List.getD_eq_getElem?_getD, List.getD_eq_getElem?_getD, List.getD_eq_getElem?_getD, List.getElem?_append]
  split <;> rfl
variable {e : Nat} (hm : Mok e b) (hv : Vok e v)
include hm hv
end
end Go.Abs
set_option linter.unusedVariables false
set_option linter.unusedSimpArgs false
namespace Go.Abs
theorem c2n : ∀ a ∈ (Blk.mk 2 [AV.agg [.bool false, .nil]]).flat, Cl a := fun a ha => by
  simp [Blk.flat, AV.cells] at ha
  rcases ha with rfl | rfl
  · exact .bool _
  · exact .nil
end Go.Abs
set_option linter.unusedVariables false
set_option linter.unusedSimpArgs false
namespace Go.Abs
theorem c4W (H : Heap) (v : List ZI) (k : IntKind) {n : Nat} (h : n ≤ v.length) : slcV H 2 (vecV v) (some (.int k n)) none none = some (vecV (v.drop n)) := by
  simp only [vecV, slcV, a2v, Option.bind_some]
  rw [if_pos ⟨trivial, by omega, by rw [List.length_map]; omega, Int.le_refl _⟩]
  rw [Int.toNat_natCast, Int.toNat_natCast, ← List.map_drop, List.take_of_length_le (by rw [List.length_map, List.length_map, List.length_drop]; exact Nat.le_refl _)]
theorem c1T (x : Int) : binV .rem (.int .i64 x) (.int .i64 2) = some (.int .i64 (x.tmod 2)) := rfl
/-- A row without its k-th entry. -/
def cutR (v : List ZI) (k : Nat) : List ZI := v.take k ++ v.drop (k + 1)
theorem c4t {v : List ZI} {k : Nat} (h : k < v.length) : (cutR v k).length = v.length - 1 := by
  unfold cutR; rw [List.length_append, List.length_take, List.length_drop]; omega
theorem d4r (v : List ZI) (k j : Nat) (h : k < v.length) : zg (cutR v k) j = zg v (skip k j) := by
  unfold cutR
  rw [d4s, List.length_take]
  have hm : min k v.length = k := by omega
  rw [hm]
  unfold zg skip
  by_cases e : j < k
  · rw [if_pos e, if_pos e, List.getD_eq_getElem?_getD, List.getElem?_take, if_pos e, ← List.getD_eq_getElem?_getD]
  · rw [if_neg e, if_neg e, List.getD_eq_getElem?_getD, List.getElem?_drop, ← List.getD_eq_getElem?_getD, show k + 1 + (j - k) = j + 1 by omega]
/-- The rows but the i-th that stand ahead of row r, each without its k-th entry. -/
def cutM (b : List (List ZI)) (i k m : Nat) : List (List ZI) := mat m fun r => cutR (mg b (skip i r)) k
def cnt (i r : Nat) : Nat := if r ≤ i then r else r - 1
/-- The determinant without a row and a column, with its sign. -/
def cofI (b : List (List ZI)) (i k : Nat) : Int := if (i + k) % 2 = 1 then -detI (b.length - 1) (Bm (cutM b i k (b.length - 1))) else detI (b.length - 1) (Bm (cutM b i k (b.length - 1)))
theorem c7L {b : List (List ZI)} {e m i k : Nat} (h : Mok e b) (hm : m ≤ 2097152) (hk : ∀ r, k < (mg b r).length ∨ b.length ≤ r) (hl : ∀ r, r < m → skip i r < b.length) : Mok e (cutM b i k m) := b9M hm fun r hr => by
  have hv := h.row (skip i r)
  refine ⟨?_, fun x hx => ?_⟩
  · rcases hk (skip i r) with h1 | h1
    · rw [c4t h1]; have := hv.len; omega
    · have := hl r hr; omega
  · rcases List.mem_append.1 hx with h | h
    · exact hv.el x (List.mem_of_mem_take h)
    · exact hv.el x (List.mem_of_mem_drop h)
section
variable (b : List (List ZI)) {e : Nat} (hm : Mok e b) (hn : b.length ≤ 64) (hb : ∀ i, (h : i < b.length) → b[i].length = b.length) (hK : KB e + 1 < 1099511627776)
include hm hn hb hK
theorem c0o {p q : Nat} (hp : p < b.length) (hq : q < b.length) : a0e Pr a4s [matV b, .int .i64 p, .int .i64 q] (Z (cofI b p q)) := by
  have hrow : ∀ r, r < b.length → (mg b r).length = b.length := fun r hr => by rw [a2M hr]; exact hb r hr
  have hcut : ∀ r, r < b.length → (cutR (mg b r) q).length = b.length - 1 := fun r hr => by rw [c4t (by rw [hrow r hr]; exact hq), hrow r hr]
  have hc0 : cnt p 0 = 0 := by unfold cnt; rw [if_pos (Nat.zero_le _)]
  refine a0e.intro b3K b3I (Nat.le_of_ble_eq_true rfl) (Z_cl _) fun H hH => ?_
  refine Safe.rg rfl ?_
  simp only [a6t, E3, seval]
  refine Safe.rg rfl ?_
  simp only [a6s, E3, seval]
  refine Safe.nilrow 7 1 (by decide) (by simp only [E3, seval]) ?_
  refine Safe.rg rfl ?_
  simp only [a6r, E3, seval]
  refine Safe.lp rfl ?_
  refine Safe.keep [0, 1, 2, 6, 7, 11, 12] ?_
  simp only [E3, seval]
  refine Safe.loopN b.length (fun i => [(0, matV b), (1, .int .i64 p), (2, .int .i64 q), (6, .loc (lid H 0) 0 0), (7, .mu (lid H 1) 0 (cnt p i) none), (11, .int .i64 b.length), (12, .int .i64 i)]) (fun i => hap H [some ⟨2, [.agg [.bool false, .nil]]⟩, some ⟨1, (cutM b p q (cnt p i)).map vecV⟩]) (by rw [hc0]; rfl) (by rw [hc0]; rfl) (fun i hi ih => ?_) ?_
  · have hlt : ((i : Int) < (b.length : Int)) = True := eq_true (by omega)
    have hiw : IntKind.wrap .i64 ((i : Int) + 1) = ((i + 1 : Nat) : Int) := by rw [a0a] <;> omega
    refine Safe.inLoop ?_
    refine Safe.rg rfl ?_
    simp only [a2Z, hlt, E3, seval]
    refine Safe.cd rfl ?_
    simp only [E3, seval]
    refine Safe.rg rfl ?_
    simp only [a6q, E3, seval]
    by_cases hip : i = p
    · have he : ((i : Int) = (p : Int)) = True := eq_true (by omega)
      have hcp : cnt p (i + 1) = cnt p i := by unfold cnt; rw [if_neg (by omega), if_pos (by omega)]; omega
      rw [hcp] at ih
      refine Safe.rg rfl ?_
      simp only [a2Y, he, E3, seval]
      refine Safe.cd rfl ?_
      simp only [E3, seval]
      refine Safe.rg rfl ?_
      simp only [a2X, hiw, E3, seval]
      refine Safe.keep [0, 1, 2, 6, 7, 11, 12] ?_
      simp only [E3, seval]
      exact ih
    · have he : ((i : Int) = (p : Int)) = False := eq_false (by omega)
      have hcp : cnt p (i + 1) = cnt p i + 1 := by
        unfold cnt
        by_cases h : i ≤ p
        · rw [if_pos h, if_pos (by omega)]
        · rw [if_neg h, if_neg (by omega)]; omega
      have hsk : skip p (cnt p i) = i := by
        unfold cnt skip
        by_cases h : i ≤ p
        · rw [if_pos h, if_pos (by omega)]
        · rw [if_neg h, if_neg (by omega)]; omega
      have hcl : cnt p i ≤ i := by unfold cnt; split <;> omega
      rw [hcp] at ih
      have hq1 : IntKind.wrap .i64 ((q : Int) + 1) = ((q + 1 : Nat) : Int) := by rw [a0a] <;> omega
      have hbi : b[i].length = b.length := hb i hi
      have hmg : mg b i = b[i] := a2M hi
      have s1 : ∀ H', slcV H' 2 (vecV b[i]) none (some (.int .i64 q)) none = some (vecV (b[i].take q)) := fun H' => d2l H' b[i] .i64 (by omega)
      have s2 : ∀ H', slcV H' 2 (vecV b[i]) (some (.int .i64 ((q + 1 : Nat) : Int))) none none = some (vecV (b[i].drop (q + 1))) := fun H' => c4W H' b[i] .i64 (by omega)
      have a1 : ∀ env, appV H.length 2 32 false .nil (vecV (b[i].take q)) env (hap H [some ⟨2, [.agg [.bool false, .nil]]⟩, some ⟨1, (cutM b p q (cnt p i)).map vecV⟩]) =
          some (.mu (lid H 2) 0 q none, env, hap H [some ⟨2, [.agg [.bool false, .nil]]⟩, some ⟨1, (cutM b p q (cnt p i)).map vecV⟩, some ⟨2, (b[i].take q).map ZI.av⟩]) := by
        intro env
        have hl : ((b[i].take q).map ZI.av).length = q := by rw [List.length_map, List.length_take]; omega
        have := c4H H.length env H [some ⟨2, [.agg [.bool false, .nil]]⟩, some ⟨1, (cutM b p q (cnt p i)).map vecV⟩] 2 32 false (vecV (b[i].take q)) ((b[i].take q).map ZI.av) (a5k _ 2 _) (by decide) (by rw [hl]; omega) (by rw [hl]; omega)
        rw [hl] at this
        exact this
      have a2 : ∀ env, appV H.length 2 32 false (.mu (lid H 2) 0 q none) (vecV (b[i].drop (q + 1))) env (hap H [some ⟨2, [.agg [.bool false, .nil]]⟩, some ⟨1, (cutM b p q (cnt p i)).map vecV⟩, some ⟨2, (b[i].take q).map ZI.av⟩]) =
          some (.mu (lid H 2) 0 (b.length - 1) none, scrub (lid H 2) env, hap H [some ⟨2, [.agg [.bool false, .nil]]⟩, some ⟨1, (cutM b p q (cnt p i)).map vecV⟩, some ⟨2, (cutR b[i] q).map ZI.av⟩]) := by
        intro env
        have hl : ((b[i].drop (q + 1)).map ZI.av).length = b.length - (q + 1) := by rw [List.length_map, List.length_drop]; omega
        have := b4f H.length env H [some ⟨2, [.agg [.bool false, .nil]]⟩, some ⟨1, (cutM b p q (cnt p i)).map vecV⟩, some ⟨2, (b[i].take q).map ZI.av⟩] 2 32 false 2 q none (vecV (b[i].drop (q + 1))) ((b[i].take q).map ZI.av) ((b[i].drop (q + 1)).map ZI.av) hH rfl (by rw [List.length_map, List.length_take]; omega) (a3n H 2)
          (a5k _ 2 _) (c0s (by repeat (first | exact RC.nil | refine RC.none ?_ | refine RC.row ZI.cl ?_ | refine RC.cons (a0y _) ?_ | refine RC.row a0h ?_ | refine RC.emp ?_ | refine RC.zero ?_ | refine RC.one (Z_cl _) ?_ | refine RC.one (ZI.cl _) ?_ | refine RC.one (a0h _) ?_))) (fun a ha => (c3B (b[i].drop (q + 1)) a ha).ref) (by rw [hl]; omega) (by rw [hl]; omega) rfl
        rw [hl] at this
        simp only [a1d, Option.bind_none, List.set_cons_succ, List.set_cons_zero, ← List.map_append] at this
        rw [show q + (b.length - (q + 1)) = b.length - 1 by omega] at this
        exact this
      have a3 : ∀ env, appV H.length 1 24 false (.mu (lid H 1) 0 (cnt p i) none) (.mu (lid H 3) 0 1 (some 1)) env (hap H [some ⟨2, [.agg [.bool false, .nil]]⟩, some ⟨1, (cutM b p q (cnt p i)).map vecV⟩, some ⟨2, (cutR b[i] q).map ZI.av⟩, some ⟨1, [.mu (lid H 2) 0 (b.length - 1) none]⟩]) =
          some (.mu (lid H 1) 0 (cnt p i + 1) none, scrub (lid H 1) env, hap H [some ⟨2, [.agg [.bool false, .nil]]⟩, some ⟨1, (cutM b p q (cnt p i)).map vecV ++ [.mu (lid H 2) 0 (b.length - 1) none]⟩, some ⟨2, (cutR b[i] q).map ZI.av⟩, some ⟨1, [.mu (lid H 2) 0 (b.length - 1) none]⟩]) := by
        intro env
        have h01 : lid H 2 ≠ lid H 1 := by simp [lid]
        have := b4f H.length env H [some ⟨2, [.agg [.bool false, .nil]]⟩, some ⟨1, (cutM b p q (cnt p i)).map vecV⟩, some ⟨2, (cutR b[i] q).map ZI.av⟩, some ⟨1, [.mu (lid H 2) 0 (b.length - 1) none]⟩] 1 24 false 1 (cnt p i) none (.mu (lid H 3) 0 1 (some 1)) ((cutM b p q (cnt p i)).map vecV) [.mu (lid H 2) 0 (b.length - 1) none] hH rfl (by rw [List.length_map, cutM, a0d]) (a3n H 1)
          (c0P H _ 1 3 0 1 (some 1) [.mu (lid H 2) 0 (b.length - 1) none] rfl (Nat.le_refl _)) (by
            intro j r hj a ha
            match j with
            | 0 => cases hj; exact (c2n a ha).ref
            | 1 => cases hj; exact (a1K 1 vecV _ a0h a ha).ref
            | 2 => cases hj; exact (c3B _ a ha).ref
            | 3 =>
              cases hj
              simp [Blk.flat, AV.cells] at ha
              subst ha
              exact .mu _ _ _ _ h01
            | j + 4 => simp at hj) (by
            intro a ha
            simp [AV.cells] at ha
            subst ha
            exact .mu _ _ _ _ h01) (by simp; omega) (by simp; omega) rfl
        simp only [a1d, Option.bind_none, List.length_cons, List.length_nil, Nat.zero_add, List.set_cons_succ, List.set_cons_zero] at this
        exact this
      refine Safe.rg rfl ?_
      simp only [a2Y, he, E3, seval]
      refine Safe.cd rfl ?_
      simp only [E3, seval]
      refine Safe.rx rfl ?_ ?_
      · simp only [b4I, b9H, E3, seval]
        exact ⟨a2U _, .int _ _, .top, .top, .top, .int _ _, .top⟩
      simp only [a6p, a5q, a5p, a3R _ b _ i hi, s1, s2, hq1, a1, a2, a3, and_self, E3, seval]
      refine Safe.freeze 2 hH rfl rfl (c3B _) ?_
      have hfz : ((cutM b p q (cnt p i)).map vecV ++ [AV.mu (lid H 2) 0 (b.length - 1) none]).map (frz (lid H 2) ⟨2, (cutR b[i] q).map ZI.av⟩) = (cutM b p q (cnt p i + 1)).map vecV := by
        rw [List.map_append, a2E, List.map_cons, List.map_nil, b1W H 2 (cutR b[i] q) _ none (by rw [← hmg]; exact (hcut i hi).symm)]
        unfold cutM
        rw [a4K, List.map_append, hsk, hmg]; rfl
      have hfy : [AV.mu (lid H 2) 0 (b.length - 1) none].map (frz (lid H 2) ⟨2, (cutR b[i] q).map ZI.av⟩) = [vecV (cutR b[i] q)] := by
        rw [List.map_cons, List.map_nil, b1W H 2 (cutR b[i] q) _ none (by rw [← hmg]; exact (hcut i hi).symm)]
      simp only [hfz, hfy, a1k, a0O, E3, seval]
      refine Safe.rg rfl ?_
      simp only [a2X, hiw, E3, seval]
      refine Safe.keep [0, 1, 2, 6, 7, 11, 12] ?_
      simp only [E3, seval]
      refine Safe.drop3 hH rfl (by simp only [List.all_cons, List.all_nil, E3, seval]) (by repeat (first | exact RC.nil | refine RC.none ?_ | refine RC.row ZI.cl ?_ | refine RC.cons (a0y _) ?_ | refine RC.row a0h ?_ | refine RC.emp ?_ | refine RC.zero ?_ | refine RC.one (Z_cl _) ?_ | refine RC.one (ZI.cl _) ?_ | refine RC.one (a0h _) ?_)) ?_
      refine Safe.drop2 hH rfl (by simp only [List.all_cons, List.all_nil, E3, seval]) (by repeat (first | exact RC.nil | refine RC.none ?_ | refine RC.row ZI.cl ?_ | refine RC.cons (a0y _) ?_ | refine RC.row a0h ?_ | refine RC.emp ?_ | refine RC.zero ?_ | refine RC.one (Z_cl _) ?_ | refine RC.one (ZI.cl _) ?_ | refine RC.one (a0h _) ?_)) ?_
      exact ih
  · refine Safe.inLoop ?_
    refine Safe.rg rfl ?_
    simp only [a2Z, Int.lt_irrefl, E3, seval]
    refine Safe.cd rfl ?_
    simp only [E3, seval]
    have hcn : cnt p b.length = b.length - 1 := by unfold cnt; rw [if_neg (by omega)]
    rw [hcn]
    refine Safe.freeze 1 hH rfl rfl (a1K 1 vecV _ a0h) ?_
    refine Safe.keep [1, 2, 6, 7] ?_
    simp only [c3k H 1 (cutM b p q (b.length - 1)) (b.length - 1) none (by rw [cutM, a0d]), a0O, E3, seval]
    refine Safe.drop1 hH rfl (by simp only [List.all_cons, List.all_nil, E3, seval]) (by repeat (first | exact RC.nil | refine RC.none ?_ | refine RC.row ZI.cl ?_ | refine RC.cons (a0y _) ?_ | refine RC.row a0h ?_ | refine RC.emp ?_ | refine RC.zero ?_ | refine RC.one (Z_cl _) ?_ | refine RC.one (ZI.cl _) ?_ | refine RC.one (a0h _) ?_)) ?_
    have hw : Mok e (cutM b p q (b.length - 1)) := c7L hm (by omega) (fun r => by
      rcases Nat.lt_or_ge r b.length with h | h
      · exact .inl (by rw [hrow r h]; exact hq)
      · exact .inr h) (fun r hr => by unfold skip; split <;> omega)
    have hd := b1g (cutM b p q (b.length - 1)) hw (n := b.length - 1) (by rw [cutM, a0d]) (by omega) hK (fun r hr => by
      have hr' : r < b.length - 1 := by rw [cutM, a0d] at hr; exact hr
      have : (cutM b p q (b.length - 1))[r] = cutR (mg b (skip p r)) q := b9P hr
      rw [this]
      exact hcut _ (by unfold skip; split <;> omega))
    refine Safe.rg rfl ?_
    simp only [a6o, E3, seval]
    refine hd.acall ?_
    simp only [E3, seval]
    have hs : IntKind.wrap .i64 ((p : Int) + (q : Int)) = ((p + q : Nat) : Int) := by rw [a0a] <;> omega
    have hmod : (((p + q : Nat) : Int).tmod 2) = (((p + q) % 2 : Nat) : Int) := by rfl
    have hdk : (detI (b.length - 1) (Bm (cutM b p q (b.length - 1)))).natAbs < LB ^ (KB e + 1) := c3x hw (by omega) hK
    unfold cofI
    by_cases hodd : (p + q) % 2 = 1
    · have h1 : ((((p + q) % 2 : Nat) : Int) = 1) = True := eq_true (by omega)
      rw [if_pos hodd]
      refine Safe.rg rfl ?_
      simp only [a2W, hs, c1T, hmod, h1, E3, seval]
      refine Safe.cd rfl ?_
      simp only [E3, seval]
      refine Safe.rg rfl ?_
      simp only [a5s, E3, seval]
      have hng := b0j (canZ (detI (b.length - 1) (Bm (cutM b p q (b.length - 1))))) ((a0N hdk).mono (by omega))
      rw [a1l] at hng
      refine hng.acall ?_
      simp only [E3, seval]
      refine Safe.rt rfl ?_
      simp only [E3, seval]
      first | exact ⟨rfl, _, rfl⟩ | exact ⟨_, rfl⟩ | exact ⟨trivial, _, rfl⟩
    · have h1 : ((((p + q) % 2 : Nat) : Int) = 1) = False := eq_false (by omega)
      rw [if_neg hodd]
      refine Safe.rg rfl ?_
      simp only [a2W, hs, c1T, hmod, h1, E3, seval]
      refine Safe.cd rfl ?_
      simp only [E3, seval]
      refine Safe.rg rfl ?_
      simp only [a5r, E3, seval]
      refine Safe.rt rfl ?_
      simp only [E3, seval]
      first | exact ⟨rfl, _, rfl⟩ | exact ⟨_, rfl⟩ | exact ⟨trivial, _, rfl⟩
end
end Go.Abs
set_option linter.unusedVariables false
set_option linter.unusedSimpArgs false
namespace Go.Abs
theorem c2o (H : Heap) (v : List ZI) (k k' k2 : IntKind) {lo hi : Nat} (h1 : lo ≤ hi) (h2 : hi ≤ v.length) : slcV H 2 (vecV v) (some (.int k lo)) (some (.int k' hi)) (some (.int k2 hi)) = some (vecV ((v.drop lo).take (hi - lo))) := by
  simp only [vecV, slcV, a2v, Option.bind_some]
  rw [if_pos ⟨trivial, rfl, by omega, by omega, Int.le_refl _, by rw [List.length_map]; omega⟩]
  rw [Int.toNat_natCast, Int.toNat_natCast, ← List.map_drop, ← List.map_take]
theorem d2m {f : Nat → Int} {lo n m : Nat} (h : lo + n ≤ m) : ((vec m f).drop lo).take n = vec n fun k => f (lo + k) := by
  apply List.ext_getElem
  · simp [a0b]; omega
  · intro i h1 h2
    simp [vec]
theorem d1N : ∀ n, sg n = if n % 2 = 1 then -1 else 1
  | 0 => rfl
  | n + 1 => by
    rw [b4G, d1N n]
    by_cases h : n % 2 = 1
    · rw [if_pos h, if_neg (by omega)]; grind
    · rw [if_neg h, if_pos (by omega)]
/-- The inverse's entries, one after the other: cofactors, and fractions. -/
def qF (b : List (List ZI)) (t : Nat) : Int := cofI b (t % b.length) (t / b.length)
def xF (b : List (List ZI)) (t : Nat) : Rat := (a4b b.length (a2S b.length (Bm b)) (2 * b.length)).M (t / b.length) (b.length + t % b.length)
theorem d5O (b : List (List ZI)) {i k : Nat} (hk : k < b.length) : qF b (i * b.length + k) = cofI b k i := by
  unfold qF
  rw [Nat.add_comm, Nat.add_mul_mod_self_right, Nat.mod_eq_of_lt hk, Nat.add_mul_div_right _ _ (by omega), Nat.div_eq_of_lt hk, Nat.zero_add]
section
variable (b : List (List ZI)) {e : Nat} (hm : Mok e b) (hn : b.length ≤ 64) (hb : ∀ i, (h : i < b.length) → b[i].length = b.length)
include hm hn hb
theorem d2c {c i : Nat} (hi : i < b.length) : Mok e (cutM b c i (b.length - 1)) := c7L hm (by omega) (fun r => by
  rcases Nat.lt_or_ge r b.length with h | h
  · exact .inl (by rw [a2M h, hb r h]; exact hi)
  · exact .inr h) (fun r hr => by unfold skip; split <;> omega)
theorem d3T {c i : Nat} (hc : c < b.length) (hi : i < b.length) : ((cofI b c i : Int) : Rat) = det b.length (a0s (Bm b) i fun r => if r = c then 1 else 0) := by
  obtain ⟨n, hn'⟩ : ∃ n, b.length = n + 1 := ⟨b.length - 1, by omega⟩
  have hd := b4b (d2c b hm hn hb (c := c) hi) (n := n) (by omega)
  have hdet := b6X (n := n) (t := i) (k := c) (Bm b) (by omega) (by omega)
  rw [hn', hdet]
  have e1 : det n (Bm (cutM b c i (b.length - 1))) = det n fun r k => Bm b (skip c r) (skip i k) := by
    refine a0r fun r k hr hk => ?_
    unfold Bm cutM
    rw [a8N (by omega), d4r]
    have hs : skip c r < b.length := by unfold skip; split <;> omega
    rw [a2M hs, hb _ hs]; exact hi
  rw [← e1, ← hd, d1N]
  unfold cofI
  rw [hn', Nat.add_sub_cancel, Nat.add_comm c i]
  by_cases h : (i + c) % 2 = 1
  · rw [if_pos h, if_pos h, Rat.intCast_neg]; grind
  · rw [if_neg h, if_neg h]; grind
theorem d5v {c i : Nat} (hi : i < b.length) (hK : KB e + 1 < 1099511627776) : (cofI b c i).natAbs < LB ^ (KB e + 1) := by
  have := c3x (d2c b hm hn hb (c := c) hi) (n := b.length - 1) (by omega) hK
  unfold cofI
  split
  · rw [Int.natAbs_neg]; exact this
  · exact this
omit hn hb in
theorem d3Z : Bd e (a2S b.length (Bm b)) := fun i k => by
  unfold a2S
  split
  · exact c9n hm i k
  · split
    · split
      · exact ⟨1, rfl, Nat.one_le_iff_ne_zero.2 (by have := c4d e; omega)⟩
      · exact ⟨0, rfl, by simp⟩
    · exact ⟨0, rfl, by simp⟩
omit hb in
theorem d5I : Sz (xF b) (b.length * b.length) (KB e + 1) := by
  have hB := d3Z b hm
  have hBi : ∀ i k, ∃ z : Int, a2S b.length (Bm b) i k = z := fun i k => by obtain ⟨z, h, _⟩ := hB i k; exact ⟨z, h⟩
  have hok := b3X (n := b.length) hBi (2 * b.length)
  have hBd : Bd e (a4b b.length (a2S b.length (Bm b)) (2 * b.length)).s.B := by rw [a4V]; exact hB.gproc _
  have hl := Nat.le_trans hok.g.len hn
  obtain ⟨l, hl1, hl2⟩ := c4e hok hl hBd
  have hlt : LB ^ KB e < LB ^ (KB e + 1) := Nat.pow_lt_pow_right (by decide) (by omega)
  refine ⟨l, fun h => b0P hok.g.piv (by rw [hl1, h]; rfl), by omega, fun t _ => ?_⟩
  obtain ⟨z, hz, hz1⟩ := d1a hok hl hBd (t / b.length) (b.length + t % b.length)
  exact ⟨z, by rw [← hl1]; exact hz, by omega⟩
theorem d3f (hd : detI b.length (Bm b) ≠ 0) {t : Nat} (ht : t < b.length * b.length) : ((qF b t : Int) : Rat) = ((detI b.length (Bm b) : Int) : Rat) * xF b t := by
  have hn0 : 0 < b.length := Nat.pos_of_ne_zero fun h => by rw [h] at ht; omega
  have h1 : t / b.length < b.length := Nat.div_lt_of_lt_mul ht
  have h2 : t % b.length < b.length := Nat.mod_lt _ hn0
  have hdd := b4b hm hn
  have hd0 : det b.length (Bm b) ≠ 0 := fun h => hd (Rat.intCast_inj.1 (by rw [hdd, h]; rfl))
  have := c3e (B := Bm b) (fun i k => ⟨_, rfl⟩) hd0 h1 h2
  unfold qF xF
  rw [d3T b hm hn hb h2 h1, ← this, hdd]
  grind
theorem c8d (hd : detI b.length (Bm b) ≠ 0) : detI b.length (Bm b) = sgD (detI b.length (Bm b)) * (gcdF (detI b.length (Bm b)) (qF b) (b.length * b.length) : Int) * (a0Q (xF b) (b.length * b.length) : Int) ∧
    ∀ i, i < b.length * b.length → qF b i = sgD (detI b.length (Bm b)) * (gcdF (detI b.length (Bm b)) (qF b) (b.length * b.length) : Int) * outI (xF b) (b.length * b.length) i :=
  c6P hd fun i hi => d3f b hm hn hb hd hi
end
/-- The inverse as whole numbers. -/
def invM (b : List (List ZI)) : List (List ZI) := mat b.length fun i => vec b.length fun k => outI (xF b) (b.length * b.length) (i * b.length + k)
theorem cl3m (m : List (List ZI)) (z a : Int) : Cl (.tup [matV m, Z z, .int .i64 a]) := c0p (a2U _) (Z_cl _) (.int _ _)
theorem d5z (a : Int) : Le (.tup [.nil, .agg [.bool false, .nil], .int .i64 a]) (.tup [matV [], Z 0, .int .i64 a]) := Le.tup3 (Le.nil 1 (by decide)) le_zero (Le.refl _)
section
variable (b : List (List ZI)) {e : Nat} (hm : Mok e b) (hK : KB e + 1 < 1099511627776)
include hm hK
omit hK in
theorem c3X (h0 : sqE b ≠ 0) : a0e Pr a1W [matV b] (.tup [matV [], Z 0, .int .i64 (sqE b)]) := by
  have hsq := a5D b hm
  unfold sqT at hsq
  have h0' : (sqE b = 0) = False := eq_false h0
  refine a0e.introL a4m a4l (Nat.le_of_ble_eq_true rfl) (cl3m _ _ _) fun H hH => ?_
  refine Safe.rg rfl ?_
  simp only [a2t, E3, seval]
  refine Safe.rg rfl ?_
  simp only [a2s, E3, seval]
  first | refine (hsq).acall ?_ | refine (hsq).dcall ?_
  try simp only [E3, seval]
  refine Safe.rg rfl ?_
  simp only [a2r, h0', E3, seval]
  refine Safe.cd rfl ?_
  simp only [E3, seval]
  refine Safe.rg rfl ?_
  simp only [a8g, E3, seval]
  refine Safe.rt rfl ?_
  simp only [one3, E3, seval]
  exact ⟨d5z _, _, rfl⟩
theorem c0Y (h0 : sqE b = 0) (hd : detI b.length (Bm b) = 0) : a0e Pr a1W [matV b] (.tup [matV [], Z 0, .int .i64 50]) := by
  obtain ⟨hn, hrows⟩ := a3I h0
  have hsq := a5D b hm
  unfold sqT at hsq
  rw [if_pos (b0w h0).1, h0] at hsq
  have hdet := b1g b hm rfl hn hK hrows
  rw [hd] at hdet
  have hs : ((0 : Int).sign = 0) = True := eq_true rfl
  refine a0e.introL a4m a4l (Nat.le_of_ble_eq_true rfl) (cl3m _ _ _) fun H hH => ?_
  refine Safe.rg rfl ?_
  simp only [a2t, E3, seval]
  refine Safe.rg rfl ?_
  simp only [a2s, E3, seval]
  first | refine (hsq).acall ?_ | refine (hsq).dcall ?_
  try simp only [E3, seval]
  refine Safe.rg rfl ?_
  simp only [a2r, E3, seval]
  refine Safe.cd rfl ?_
  simp only [E3, seval]
  refine Safe.rg rfl ?_
  simp only [a4k, E3, seval]
  first | refine (hdet).acall ?_ | refine (hdet).dcall ?_
  try simp only [E3, seval]
  refine Safe.rg rfl ?_
  simp only [a4j, E3, seval]
  refine (a1v (canZ 0) (c9p _)).acall ?_
  simp only [a1l, hs, E3, seval]
  refine Safe.cd rfl ?_
  simp only [E3, seval]
  refine Safe.rg rfl ?_
  simp only [a8f, E3, seval]
  refine Safe.rt rfl ?_
  simp only [one3, E3, seval]
  exact ⟨d5z _, _, rfl⟩
theorem d2Q (h0 : sqE b = 0) (hd : detI b.length (Bm b) ≠ 0) : a0e Pr a1W [matV b] (.tup [matV (invM b), Z (a0Q (xF b) (b.length * b.length) : Nat), .int .i64 0]) := by
  obtain ⟨hn, hrows⟩ := a3I h0
  have hsq := a5D b hm
  unfold sqT at hsq
  rw [if_pos (b0w h0).1, h0] at hsq
  have hdet := b1g b hm rfl hn hK hrows
  have hdk := c3x hm hn hK
  have hnn : b.length * b.length ≤ 64 * 64 := Nat.mul_le_mul hn hn
  have hcof := fun p q (hp : p < b.length) (hq : q < b.length) => c0o b hm hn hrows hK hp hq
  have hqk : ∀ t, t < b.length * b.length → (qF b t).natAbs < LB ^ (KB e + 1) := fun t ht => d5v b hm hn hrows (Nat.div_lt_of_lt_mul ht) hK
  have hterm := c8d b hm hn hrows hd
  have hinv : ∀ i, i < b.length → (((vec (b.length * b.length) (outI (xF b) (b.length * b.length))).drop (i * b.length)).take b.length) = vec b.length fun k => outI (xF b) (b.length * b.length) (i * b.length + k) := fun i hi => d2m (by
    have := Nat.mul_le_mul_right b.length (show i + 1 ≤ b.length by omega)
    rw [Nat.succ_mul] at this; exact this)
  have hs : ((detI b.length (Bm b)).sign = 0) = False := eq_false fun h => hd (Int.sign_eq_zero_iff_zero.1 h)
  have hq := fun i k (hk : k < b.length) => d5O b (i := i) hk
  unfold invM
  generalize detI b.length (Bm b) = D at *
  generalize outI (xF b) (b.length * b.length) = P at *
  generalize a0Q (xF b) (b.length * b.length) = E at *
  generalize qF b = q at *
  clear hrows h0
  generalize hnd : b.length = n at *
  refine a0e.intro a4m a4l (Nat.le_of_ble_eq_true rfl) (cl3m _ _ _) fun H hH => ?_
  refine Safe.rg rfl ?_
  simp only [a2t, E3, seval]
  refine Safe.rg rfl ?_
  simp only [a2s, E3, seval]
  first | refine (hsq).acall ?_ | refine (hsq).dcall ?_
  try simp only [E3, seval]
  refine Safe.rg rfl ?_
  simp only [a2r, E3, seval]
  refine Safe.cd rfl ?_
  simp only [E3, seval]
  refine Safe.rg rfl ?_
  simp only [a4k, E3, seval]
  first | refine (hdet).acall ?_ | refine (hdet).dcall ?_
  try simp only [E3, seval]
  refine Safe.rg rfl ?_
  simp only [a4j, E3, seval]
  refine (a1v (canZ D) ((a0N hdk).mono (by omega))).acall ?_
  simp only [a1l, hs, E3, seval]
  refine Safe.cd rfl ?_
  simp only [E3, seval]
  refine Safe.rg rfl ?_
  simp only [a8e, E3, seval]
  refine Safe.nilrow 8 2 (by decide) (by simp only [E3, seval]) ?_
  refine Safe.rg rfl ?_
  simp only [a8d, E3, seval]
  refine Safe.lp rfl ?_
  refine Safe.keep [0, 3, 5, 7, 8, 28, 29] ?_
  simp only [E3, seval]
  refine Safe.loopN n (fun i => [(0, matV b), (3, .loc (lid H 0) 0 0), (5, .int .i64 n), (7, .loc (lid H 1) 0 0), (8, .mu (lid H 2) 0 (i * n) none), (28, .int .i64 n), (29, .int .i64 i)]) (fun i => hap H [some ⟨2, [.agg [.bool false, .nil]]⟩, some ⟨2, [Z D]⟩, some ⟨2, (vec (i * n) q).map ZI.av⟩]) (by simp only [Nat.zero_mul]; rfl) (by simp only [Nat.zero_mul]; rfl) (fun i hi ih => ?_) ?_
  · have hlt : ((i : Int) < (n : Int)) = True := eq_true (by omega)
    have hiw : IntKind.wrap .i64 ((i : Int) + 1) = ((i + 1 : Nat) : Int) := by rw [a0a] <;> omega
    have hle : (i + 1) * n ≤ n * n := Nat.mul_le_mul_right _ hi
    rw [Nat.succ_mul] at hle ih
    refine Safe.inLoop ?_
    refine Safe.rg rfl ?_
    simp only [a4i, hlt, E3, seval]
    refine Safe.cd rfl ?_
    simp only [E3, seval]
    refine Safe.rg rfl ?_
    simp only [a6N, E3, seval]
    refine Safe.rg rfl ?_
    simp only [a6M, E3, seval]
    refine Safe.lp rfl ?_
    refine Safe.keep [0, 3, 5, 7, 8, 9, 28, 29, 32, 33] ?_
    simp only [E3, seval]
    refine Safe.loopN n (fun k => [(0, matV b), (3, .loc (lid H 0) 0 0), (5, .int .i64 n), (7, .loc (lid H 1) 0 0), (8, .mu (lid H 2) 0 (i * n + k) none), (9, .int .i64 i), (28, .int .i64 n), (29, .int .i64 i), (32, .int .i64 n), (33, .int .i64 k)]) (fun k => hap H [some ⟨2, [.agg [.bool false, .nil]]⟩, some ⟨2, [Z D]⟩, some ⟨2, (vec (i * n + k) q).map ZI.av⟩]) rfl rfl (fun k hk ihk => ?_) ?_
    · have hlt2 : ((k : Int) < (n : Int)) = True := eq_true (by omega)
      have hkw : IntKind.wrap .i64 ((k : Int) + 1) = ((k + 1 : Nat) : Int) := by rw [a0a] <;> omega
      have hcf := hcof k i hk hi
      rw [← hq i k hk] at hcf
      refine Safe.inLoop ?_
      refine Safe.rg rfl ?_
      simp only [a3j, hlt2, E3, seval]
      refine Safe.cd rfl ?_
      simp only [E3, seval]
      refine Safe.rg rfl ?_
      simp only [a6L, E3, seval]
      refine Safe.rg rfl ?_
      simp only [a6K, E3, seval]
      first | refine (hcf).acall ?_ | refine (hcf).dcall ?_
      try simp only [E3, seval]
      rw [b7h hH 2 (a3n H 2) ZI.cl (vec (i * n + k) q) (canZ (q (i * n + k))) (vec (i * n + k + 1) q) ?hlen ?hl ?hL ?hy ?hl2 ?hb ?hbb]
      case hlen => first | rfl | (simp only [a0b, a0d, List.length_map, List.length_take]; done) | (simp only [a0b, a0d, List.length_map, List.length_take]; omega)
      case hl => rfl
      case hL => repeat (first | exact RC.nil | refine RC.none ?_ | refine RC.row ZI.cl ?_ | refine RC.cons (a0y _) ?_ | refine RC.row a0h ?_ | refine RC.emp ?_ | refine RC.zero ?_ | refine RC.one (Z_cl _) ?_ | refine RC.one (ZI.cl _) ?_ | refine RC.one (a0h _) ?_)
      case hy => rfl
      case hl2 => first | exact a5A _ _ | exact a4K _ _ | exact a3H _ (by omega) | exact a1m _ _ (by omega)
      case hb => omega
      case hbb => omega
      simp only [E3, seval]
      refine Safe.rg rfl ?_
      simp only [a6J, hkw, E3, seval]
      refine Safe.keep [0, 3, 5, 7, 8, 9, 28, 29, 32, 33] ?_
      simp only [E3, seval]
      exact ihk
    · refine Safe.inLoop ?_
      refine Safe.rg rfl ?_
      simp only [a3j, Int.lt_irrefl, E3, seval]
      refine Safe.cd rfl ?_
      simp only [E3, seval]
      refine Safe.rg rfl ?_
      simp only [a6I, hiw, E3, seval]
      refine Safe.keep [0, 3, 5, 7, 8, 28, 29] ?_
      simp only [E3, seval]
      exact ih
  · refine Safe.inLoop ?_
    refine Safe.rg rfl ?_
    simp only [a4i, Int.lt_irrefl, E3, seval]
    refine Safe.cd rfl ?_
    simp only [E3, seval]
    refine Safe.freeze 2 hH rfl rfl (a1K 2 ZI.av _ ZI.cl) ?_
    refine Safe.keep [3, 5, 7, 8] ?_
    simp only [b1W H 2 (vec (n * n) q) (n * n) (none) (by simp only [a0b, a0d]), a1k, a0O, a3U, a2E, E3, seval]
    refine Safe.drop2 hH rfl (by simp only [List.all_cons, List.all_nil, E3, seval]) (by repeat (first | exact RC.nil | refine RC.none ?_ | refine RC.row ZI.cl ?_ | refine RC.cons (a0y _) ?_ | refine RC.row a0h ?_ | refine RC.emp ?_ | refine RC.zero ?_ | refine RC.one (Z_cl _) ?_ | refine RC.one (ZI.cl _) ?_ | refine RC.one (a0h _) ?_)) ?_
    have ht := c4Z q P D (E : Nat) hqk hdk (by omega) (by omega) hd hterm.1 hterm.2
    refine Safe.rg rfl ?_
    simp only [a6H, E3, seval]
    refine ht.acall ?_
    simp only [E3, seval]
    refine Safe.rg rfl ?_
    simp only [a6G, E3, seval]
    refine Safe.nilrow 11 1 (by decide) (by simp only [E3, seval]) ?_
    refine Safe.rg rfl ?_
    simp only [a6F, E3, seval]
    refine Safe.lp rfl ?_
    refine Safe.keep [3, 5, 7, 8, 11, 51, 52] ?_
    try simp only [E3, seval]
    refine Safe.loopN (n) (fun i => [(3, .loc (lid H 0) 0 0), (5, .int .i64 n), (7, .loc (lid H 1) 0 0), (8, vecV (vec (n * n) P)), (11, .mu (lid H 2) 0 i none), (51, .int .i64 n), (52, .int .i64 i)]) (fun i => hap H [some ⟨2, [.agg [.bool false, .nil]]⟩, some ⟨2, [Z (E : Nat)]⟩, some ⟨1, (mat i fun i => vec n fun k => P (i * n + k)).map vecV⟩]) rfl rfl (fun i hi ih => ?_) ?_
    · have hlt : ((i : Int) < (n : Int)) = True := eq_true (by omega)
      have hiw : IntKind.wrap .i64 ((i : Int) + 1) = ((i + 1 : Nat) : Int) := by rw [a0a] <;> omega
      have hle : (i + 1) * n ≤ n * n := Nat.mul_le_mul_right _ hi
      rw [Nat.succ_mul] at hle
      have hm0 : IntKind.wrap .i64 ((i : Int) * (n : Int)) = ((i * n : Nat) : Int) := by rw [← Int.natCast_mul, a0a] <;> omega
      have hm1 : IntKind.wrap .i64 (((i + 1 : Nat) : Int) * (n : Int)) = ((i * n + n : Nat) : Int) := by rw [← Int.natCast_mul, Nat.succ_mul, a0a] <;> omega
      have hsl := c2o (hap H [some ⟨2, [.agg [.bool false, .nil]]⟩, some ⟨2, [Z (E : Nat)]⟩, some ⟨1, (mat i fun i => vec n fun k => P (i * n + k)).map vecV⟩]) (vec (n * n) P) .i64 .i64 .i64 (lo := i * n) (hi := i * n + n) (by omega) (by rw [a0b]; omega)
      rw [show i * n + n - i * n = n by omega, hinv i hi] at hsl
      refine Safe.inLoop ?_
      refine Safe.rg rfl ?_
      simp only [a3i, hlt, E3, seval]
      refine Safe.cd rfl ?_
      simp only [E3, seval]
      refine Safe.rg rfl ?_
      simp only [a6E, E3, seval]
      refine Safe.rg rfl ?_
      simp only [a6D, hm0, hiw, hm1, hsl, E3, seval]
      rw [b7h hH 2 (a3n H 2) a0h (mat i fun i => vec n fun k => P (i * n + k)) (vec n fun k => P (i * n + k)) (mat (i + 1) fun i => vec n fun k => P (i * n + k)) ?hlen ?hl ?hL ?hy ?hl2 ?hb ?hbb]
      case hlen => first | rfl | (simp only [a0b, a0d, List.length_map, List.length_take]; done) | (simp only [a0b, a0d, List.length_map, List.length_take]; omega)
      case hl => rfl
      case hL => repeat (first | exact RC.nil | refine RC.none ?_ | refine RC.row ZI.cl ?_ | refine RC.cons (a0y _) ?_ | refine RC.row a0h ?_ | refine RC.emp ?_ | refine RC.zero ?_ | refine RC.one (Z_cl _) ?_ | refine RC.one (ZI.cl _) ?_ | refine RC.one (a0h _) ?_)
      case hy => rfl
      case hl2 => first | exact a5A _ _ | exact a4K _ _ | exact a3H _ (by omega) | exact a1m _ _ (by omega)
      case hb => omega
      case hbb => omega
      simp only [E3, seval]
      refine Safe.rg rfl ?_
      simp only [a6C, hiw, E3, seval]
      refine Safe.keep [3, 5, 7, 8, 11, 51, 52] ?_
      simp only [E3, seval]
      exact ih
    · refine Safe.inLoop ?_
      refine Safe.rg rfl ?_
      simp only [a3i, Int.lt_irrefl, E3, seval]
      refine Safe.cd rfl ?_
      simp only [E3, seval]
      refine Safe.freeze 2 hH rfl rfl (a1K 1 vecV _ a0h) ?_
      refine Safe.keep [3, 7, 11] ?_
      simp only [c3k H 2 (mat n fun i => vec n fun k => P (i * n + k)) (n) (none) (by simp only [a0b, a0d]), a1k, a0O, a3U, a2E, E3, seval]
      refine Safe.rg rfl ?_
      simp only [a6B, E3, seval]
      refine Safe.rt rfl ?_
      simp only [E3, seval]
      first | exact ⟨rfl, _, rfl⟩ | exact ⟨_, rfl⟩ | exact ⟨trivial, _, rfl⟩
end
end Go.Abs
set_option linter.unusedVariables false
set_option linter.unusedSimpArgs false
namespace Go.Abs
theorem c6H {n : Nat} {f : Nat → List ZI} (h : 0 < n) : wid (mat n f) = (f 0).length := by rw [wid, a8N h]
theorem c6O (b : List (List ZI)) (hn : b.length ≤ 64) (hw : wid b ≤ 64) : elE (a2y b) = 0 := by
  have hl : (a2y b).length = wid b := by rw [a2y, a0d]
  have hrow : ∀ i, i < wid b → (mg (a2y b) i).length = b.length := fun i hi => by rw [a2y, a8N hi, a0b]
  have hr : Rect (a2y b) := fun i hi => by
    rw [hl] at hi
    rw [hrow i hi, hrow 0 (by omega)]
  have hww : wid (a2y b) ≤ b.length := by
    by_cases h : wid b = 0
    · have : a2y b = [] := List.eq_nil_of_length_eq_zero (by rw [hl, h])
      rw [this]; exact Nat.zero_le _
    · have := hrow 0 (by omega)
      unfold wid at this ⊢
      omega
  rcases a8h (a2y b) with ⟨h, _⟩ | ⟨_, h, _⟩ | ⟨_, _, _, h⟩
  · exact absurd hr h
  · omega
  · exact h
section
variable (b : List (List ZI)) {e : Nat} (hm : Mok e b)
include hm
omit hm in
theorem c2x (hr : Rect b) : c0W (a2y b).length (wid (a2y b)) (Bm (a2y b)) = c0W b.length (wid b) (Bm b) := by
  have hBi : ∀ (c : List (List ZI)) i k, ∃ z : Int, Bm c i k = z := fun c i k => ⟨_, rfl⟩
  unfold c0W
  have hl : (a2y b).length = wid b := by rw [a2y, a0d]
  rw [hl]
  by_cases hw : wid b = 0
  · have h1 := (a3v (n := wid b) (hBi (a2y b)) (wid (a2y b))).len
    have h2 := a5o b.length (Bm b) (wid b)
    omega
  · have hww : wid (a2y b) = b.length := by rw [a2y, c6H (by omega), a0b]
    rw [hww]
    exact c7p (hBi b) (hBi (a2y b)) fun i k hi hk => by
      unfold Bm a2y
      rw [a8N hi, c3L hk]
/-- A matrix times its inverse is the denominator on the diagonal. -/
theorem c8f (h0 : sqE b = 0) (hd : detI b.length (Bm b) ≠ 0) {i : Nat} (hi : i < b.length) : mg (b3D b (invM b)) i = vec b.length fun k => (a0Q (xF b) (b.length * b.length) : Int) * zg (mg (a5i b.length) i) k := by
  obtain ⟨hn, hrows⟩ := a3I h0
  have hBi : ∀ i k, ∃ z : Int, Bm b i k = z := fun i k => ⟨_, rfl⟩
  have hdet : det b.length (Bm b) ≠ 0 := fun h => hd (Rat.intCast_inj.1 (by rw [b4b hm hn, h]; rfl))
  obtain ⟨hcl, hci⟩ := c9a hBi hdet
  have hwi : wid (invM b) = b.length := by rw [invM, c6H (by omega), a0b]
  have hli : (invM b).length = b.length := by rw [invM, a0d]
  unfold b3D
  rw [a8N hi]
  unfold c3A
  rw [hwi, hli]
  refine b4C fun k hk => ?_
  unfold cmbS
  refine Rat.intCast_inj.1 ?_
  rw [c0L, Rat.intCast_mul]
  have hrh := b4L (n := b.length) (b4d (n := b.length) hBi) (t := 2 * b.length) (a := i) (k := b.length + k) hi (by omega)
  rw [hcl] at hrh
  have e1 : a2S b.length (Bm b) i (b.length + k) = ((zg (mg (a5i b.length) i) k : Int) : Rat) := by
    unfold a2S a5i
    rw [if_neg (by omega), if_pos (by omega), a8N hi, c3L hk, show b.length + k - b.length = k by omega]
    unfold updF
    by_cases h : i = k
    · rw [if_pos h, if_pos h.symm]; rfl
    · rw [if_neg h, if_neg (fun q => h q.symm)]; rfl
  rw [← e1, hrh]
  have hs := a2G (((a0Q (xF b) (b.length * b.length) : Nat) : Int) : Rat) 0 (fun j => a2S b.length (Bm b) i ((gproc b.length (a2S b.length (Bm b)) (2 * b.length)).cs.getD j 0) * (a4b b.length (a2S b.length (Bm b)) (2 * b.length)).M j (b.length + k)) (fun _ => 0) b.length
  have e0 : ∀ q : Rat, q + 0 * sumR (fun _ => (0 : Rat)) b.length = q := fun q => by grind
  rw [e0] at hs
  rw [← hs]
  refine a0u fun j hj => ?_
  rw [hci j hj]
  have e2 : a2S b.length (Bm b) i j = ((zg (mg b i) j : Int) : Rat) := by unfold a2S Bm; rw [if_pos hj]
  have hjn : j * b.length + k < b.length * b.length := by
    have := Nat.mul_le_mul_right b.length (show j + 1 ≤ b.length by omega)
    rw [Nat.succ_mul] at this
    omega
  have e3 : ((zg (mg (invM b) j) k : Int) : Rat) = ((a0Q (xF b) (b.length * b.length) : Nat) : Rat) * xF b (j * b.length + k) := by
    rw [invM, a8N hj, c3L hk, b4P (xF b) hjn]
  have e4 : (a4b b.length (a2S b.length (Bm b)) (2 * b.length)).M j (b.length + k) = xF b (j * b.length + k) := by
    unfold xF
    rw [show (j * b.length + k) / b.length = j by rw [Nat.add_comm, Nat.add_mul_div_right _ _ (by omega), Nat.div_eq_of_lt hk, Nat.zero_add], show (j * b.length + k) % b.length = k by rw [Nat.add_comm, Nat.add_mul_mod_self_right, Nat.mod_eq_of_lt hk]]
  have e5 : (((a0Q (xF b) (b.length * b.length) : Nat) : Int) : Rat) = ((a0Q (xF b) (b.length * b.length) : Nat) : Rat) := rfl
  rw [e2, e4, Rat.intCast_mul, e3, e5]
  grind
end
theorem b6B (b : List (List ZI)) (hb : Mok 1048576 b) : a0e Pr a2x [matV b] (.bool true) := by
  have hb' := hb.mono (show 1048576 ≤ 17592186044416 by omega)
  have hK1 := c8c
  refine a0e.intro b0c b0a (Nat.le_of_ble_eq_true rfl) (.bool _) fun H hH => ?_
  have fin : ∀ (x : AV), Cl x → Safe ⟨Pr, fun _ _ => false, a2x, 108, [.tmp 2], H.length⟩ [.code (.region a1c false), .code (.seq (.region a1b false) (.seq (.seq (.region a0M false) (.cond (.t 89) (.seq (.region a1a false) (.ret)) (.skip))) (.seq (.region a1R false) (.seq (.region a1Q false) (.ret)))))] [(0, matV b)] (hap H [some ⟨2, [x]⟩]) fun r' H' => r' = .bool true ∧ ∃ L, H' = hap H L := by
    intro x hx
    by_cases hr : Rect b
    · refine Safe.rg rfl ?_
      simp only [a1c, E3, seval]
      first | refine (c0J b 1048576 hb (by decide) hr).acall ?_ | refine (c0J b 1048576 hb (by decide) hr).dcall ?_
      try simp only [E3, seval]
      refine Safe.rg rfl ?_
      simp only [a1b, E3, seval]
      by_cases he : elE b = 0
      · obtain ⟨hn, hw, _, _⟩ := b0y he
        first | refine (c2y b hb hK1 he).acall ?_ | refine (c2y b hb hK1 he).dcall ?_
        try simp only [E3, seval]
        refine Safe.rg rfl ?_
        simp only [a0M, E3, seval]
        refine Safe.cd rfl ?_
        simp only [E3, seval]
        have ht0 := c6O b hn hw
        have hrt := c2y (a2y b) (d2q hb) hK1 ht0
        rw [c2x b hr] at hrt
        have hrn : c0W b.length (wid b) (Bm b) ≤ b.length := (a3v (n := b.length) (fun i k => ⟨_, rfl⟩) (wid b)).len
        have hle : ((c0W b.length (wid b) (Bm b) : Int) ≤ (b.length : Int)) = True := eq_true (by omega)
        refine Safe.rg rfl ?_
        simp only [a1R, E3, seval]
        first | refine (hrt).acall ?_ | refine (hrt).dcall ?_
        try simp only [E3, seval]
        refine Safe.rg rfl ?_
        simp only [a1Q, hle, E3, seval]
        refine Safe.rt rfl ?_
        simp only [E3, seval]
        first | exact ⟨rfl, _, rfl⟩ | exact ⟨_, rfl⟩ | exact ⟨trivial, _, rfl⟩
      · have he' : (elE b = 0) = False := eq_false he
        first | refine (b3S b hb he).acall ?_ | refine (b3S b hb he).dcall ?_
        try simp only [E3, seval]
        refine Safe.rg rfl ?_
        simp only [a0M, he', E3, seval]
        refine Safe.cd rfl ?_
        simp only [E3, seval]
        refine Safe.rg rfl ?_
        simp only [a1a, E3, seval]
        refine Safe.rt rfl ?_
        simp only [E3, seval]
        first | exact ⟨rfl, _, rfl⟩ | exact ⟨_, rfl⟩ | exact ⟨trivial, _, rfl⟩
    · refine Safe.rg rfl ?_
      simp only [a1c, E3, seval]
      first | refine (c3N b 1048576 hb hr).acall ?_ | refine (c3N b 1048576 hb hr).dcall ?_
      try simp only [E3, seval]
      refine Safe.rg rfl ?_
      simp only [a1b, E3, seval]
      have he : elE b ≠ 0 := fun h => hr (b0y h).2.2.1
      first | refine (b3S b hb he).acall ?_ | refine (b3S b hb he).dcall ?_
      try simp only [E3, seval]
      refine Safe.rg rfl ?_
      simp only [a0M, c4o, E3, seval]
      refine Safe.cd rfl ?_
      simp only [E3, seval]
      refine Safe.rg rfl ?_
      simp only [a1a, E3, seval]
      refine Safe.rt rfl ?_
      simp only [E3, seval]
      first | exact ⟨rfl, _, rfl⟩ | exact ⟨_, rfl⟩ | exact ⟨trivial, _, rfl⟩
  by_cases h0 : sqE b = 0
  · obtain ⟨hn, hrows⟩ := a3I h0
    obtain ⟨he, hw⟩ := b0w h0
    by_cases hd : detI b.length (Bm b) = 0
    · refine Safe.rg rfl ?_
      simp only [a1q, E3, seval]
      refine Safe.rg rfl ?_
      simp only [a1p, E3, seval]
      first | refine (a3D).acall ?_ | refine (a3D).dcall ?_
      try simp only [E3, seval]
      refine Safe.cd rfl ?_
      simp only [E3, seval]
      refine Safe.rg rfl ?_
      simp only [a1o, E3, seval]
      first | refine (c0Y b hb hK1 h0 hd).acall ?_ | refine (c0Y b hb hK1 h0 hd).dcall ?_
      try simp only [E3, seval]
      refine Safe.rg rfl ?_
      simp only [a1n, E3, seval]
      refine Safe.cd rfl ?_
      simp only [E3, seval]
      refine Safe.keep [0] ?_
      simp only [E3, seval]
      repeat (first | refine Safe.seq ?_ | refine Safe.skip ?_ | refine Safe.inBlock ?_ | refine Safe.block ?_ | refine Safe.exit rfl ?_)
      exact fin _ (Z_cl _)
    · have hxs := d5I b hb hn
      have hnn : b.length * b.length ≤ 64 * 64 := Nat.mul_le_mul hn hn
      have hLk := d5b hxs (Nat.le_refl _)
      have hL0 := a7P (xF b) (b.length * b.length)
      have hmi : Mok (KB 1048576 + 1) (invM b) := b9M (by omega) fun i hi => b4g (by omega) fun k hk => d4S hxs (by
        have := Nat.mul_le_mul_right b.length (show i + 1 ≤ b.length by omega)
        rw [Nat.succ_mul] at this
        omega)
      have hli : (invM b).length = b.length := by rw [invM, a0d]
      have hri : ∀ i, i < b.length → (mg (invM b) i).length = b.length := fun i hi => by rw [invM, a8N hi, a0b]
      have hfit : Fits b (invM b) := ⟨(b0y he).2.2.1, fun i hi => by rw [hli] at hi; rw [hri i hi, hri 0 (by omega)], fun _ => by rw [hli, hw]⟩
      have hprod := c5m b (invM b) 1048576 (KB 1048576 + 1) hb hmi (by omega) hfit
      have hpl : (b3D b (invM b)).length = b.length := by rw [b3D, a0d]
      have hul : (a5i b.length).length = b.length := by rw [a5i, a0d]
      have hub := b3W b.length hn
      have hprow := fun i (hi : i < b.length) => c8f b hb h0 hd hi
      have hsl : ((a0Q (xF b) (b.length * b.length) : Nat) : Int).sign = 1 := Int.sign_eq_one_of_pos (by omega)
      have hprodk : ∀ i, i < b.length → Vok 17592186044416 (mg (b3D b (invM b)) i) := fun i hi => by
        rw [hprow i hi]
        refine c9q (k := KB 1048576 + 1 + 1) (by omega) (fun k hk => ?_) (by omega)
        rw [Int.natAbs_mul, Nat.pow_add]
        have h1 := (hub.row i).abs k
        exact Nat.mul_lt_mul'' (by exact hLk) h1
      generalize hLd : a0Q (xF b) (b.length * b.length) = L at *
      have hle1 : ((1 : Int) ≤ 0) = False := eq_false (by omega)
      refine Safe.rg rfl ?_
      simp only [a1q, E3, seval]
      refine Safe.rg rfl ?_
      simp only [a1p, E3, seval]
      first | refine (a3D).acall ?_ | refine (a3D).dcall ?_
      try simp only [E3, seval]
      refine Safe.cd rfl ?_
      simp only [E3, seval]
      refine Safe.rg rfl ?_
      simp only [a1o, E3, seval]
      have hpi := d2Q b hb hK1 h0 hd
      rw [hLd] at hpi
      first | refine (hpi).acall ?_ | refine (hpi).dcall ?_
      try simp only [E3, seval]
      refine Safe.rg rfl ?_
      simp only [a1n, E3, seval]
      refine Safe.cd rfl ?_
      simp only [E3, seval]
      refine Safe.rg rfl ?_
      simp only [a3Z, E3, seval]
      first | refine (hprod).acall ?_ | refine (hprod).dcall ?_
      try simp only [E3, seval]
      refine Safe.rg rfl ?_
      simp only [a3Y, E3, seval]
      first | refine (b3V b.length hn).acall ?_ | refine (b3V b.length hn).dcall ?_
      try simp only [E3, seval]
      refine Safe.rg rfl ?_
      simp only [a3X, c7N, hpl, E3, seval]
      refine (a1v (canZ (L : Nat)) ((a0N (by exact hLk)).mono (by omega))).acall ?_
      simp only [a1l, hsl, hle1, E3, seval]
      refine Safe.cd rfl ?_
      simp only [E3, seval]
      refine Safe.rg rfl ?_
      simp only [a3W, E3, seval]
      refine Safe.lp rfl ?_
      refine Safe.keep [0, 4, 6, 8, 10] ?_
      try simp only [E3, seval]
      refine Safe.loopN (b.length) (fun i => [(0, matV b), (4, .loc (lid H 0) 0 0), (6, matV (b3D b (invM b))), (8, matV (a5i b.length)), (10, .int .i64 i)]) (fun i => hap H [some ⟨2, [Z (L : Nat)]⟩]) rfl rfl (fun i hi ih => ?_) ?_
      · have hlt : ((i : Int) < (b.length : Int)) = True := eq_true (by omega)
        have hiw : IntKind.wrap .i64 ((i : Int) + 1) = ((i + 1 : Nat) : Int) := by rw [a0a] <;> omega
        have hpm : (b3D b (invM b))[i]'(by omega) = mg (b3D b (invM b)) i := (a2M (by omega)).symm
        have hum : (a5i b.length)[i]'(by omega) = mg (a5i b.length) i := (a2M (by omega)).symm
        have hur : (mg (a5i b.length) i).length = b.length := by rw [a5i, a8N hi, a0b]
        have hti := c2L (canZ (L : Nat)) (mg (a5i b.length) i) (KB 1048576 + 1) 1 (a0N (by exact hLk)) (hub.row i) (by omega)
        rw [hur, a1l, ← hprow i hi] at hti
        have hor := c5r (mg (b3D b (invM b)) i) (mg (b3D b (invM b)) i) (hprodk i hi) (hprodk i hi)
        rw [c1b.2 rfl] at hor
        refine Safe.inLoop ?_
        refine Safe.rg rfl ?_
        simp only [a1S, hlt, E3, seval]
        refine Safe.cd rfl ?_
        simp only [E3, seval]
        refine Safe.rg rfl ?_
        simp only [a3p, a3R _ (b3D b (invM b)) _ i (by omega), a3R _ (a5i b.length) _ i (by omega), hpm, hum, E3, seval]
        refine hti.dcall ?_
        simp only [E3, seval]
        refine hor.dcall ?_
        simp only [E3, seval]
        refine Safe.cd rfl ?_
        simp only [E3, seval]
        refine Safe.rg rfl ?_
        simp only [a3o, hiw, E3, seval]
        refine Safe.keep [0, 4, 6, 8, 10] ?_
        simp only [E3, seval]
        exact ih
      · refine Safe.inLoop ?_
        refine Safe.rg rfl ?_
        simp only [a1S, Int.lt_irrefl, E3, seval]
        refine Safe.cd rfl ?_
        simp only [E3, seval]
        refine Safe.keep [0] ?_
        simp only [E3, seval]
        repeat (first | refine Safe.seq ?_ | refine Safe.skip ?_ | refine Safe.inBlock ?_ | refine Safe.block ?_ | refine Safe.exit rfl ?_)
        exact fin _ (Z_cl _)
  · have h0' : (sqE b = 0) = False := eq_false h0
    refine Safe.rg rfl ?_
    simp only [a1q, E3, seval]
    refine Safe.rg rfl ?_
    simp only [a1p, E3, seval]
    first | refine (a3D).acall ?_ | refine (a3D).dcall ?_
    try simp only [E3, seval]
    refine Safe.cd rfl ?_
    simp only [E3, seval]
    refine Safe.rg rfl ?_
    simp only [a1o, E3, seval]
    first | refine (c3X b hb h0).acall ?_ | refine (c3X b hb h0).dcall ?_
    try simp only [E3, seval]
    refine Safe.rg rfl ?_
    simp only [a1n, h0', E3, seval]
    refine Safe.cd rfl ?_
    simp only [E3, seval]
    refine Safe.keep [0] ?_
    simp only [E3, seval]
    repeat (first | refine Safe.seq ?_ | refine Safe.skip ?_ | refine Safe.inBlock ?_ | refine Safe.block ?_ | refine Safe.exit rfl ?_)
    exact fin _ (Z_cl _)
end Go.Abs
set_option linter.unusedVariables false
set_option linter.unusedSimpArgs false
namespace Go.Abs
open Go.ChangeShapes Go.WideShapes
open Go.Proofs.Ytkljokmnimblnaa.Rows (uptoBulk uptoBulkAll)
section
variable {K : Type} {enc : TypeId × Value → K} {P : Program} {w : World} {base : Nat} {sp : Nat → Bool} {held : Bool}
theorem d1l (d : DataW K) : 1 ≤ uptoBulk d := by
  cases d with
  | lit l => cases l <;> simp [uptoBulk]
  | nil => simp [uptoBulk]
  | ptr d => simp [uptoBulk]
  | slice elems spare => simp [uptoBulk]
  | agg a0x => simp [uptoBulk]
  | iface t d => simp [uptoBulk]
  | map entries => simp [uptoBulk]
  | held h => simp [uptoBulk]
theorem c0q {d : DataW K} : ∀ {l : List (DataW K)}, d ∈ l → uptoBulk d ≤ uptoBulkAll l
  | [], h => by cases h
  | x :: r, h => by
    simp only [uptoBulkAll]
    rcases List.mem_cons.1 h with e | e
    · subst e; omega
    · have := c0q e; omega
theorem c4y : ∀ (l : List (DataW K)), l.length ≤ uptoBulkAll l
  | [] => by simp [uptoBulkAll]
  | x :: r => by have := d1l x; have := c4y r; simp only [uptoBulkAll, List.length_cons]; omega
theorem b2c (es rs : List (DataW K)) : uptoBulkAll es + 1 ≤ uptoBulk (.slice es rs) := by simp only [uptoBulk]; omega
theorem b4D {α : Type} (W : α → Nat) : ∀ (ds : List (DataW K)) (xs : List α), xs.length = ds.length → (∀ (i : Nat) a, xs[i]? = some a → W a ≤ uptoBulk (ds.getD i .nil)) → (xs.map W).sum ≤ uptoBulkAll ds
  | [], [], _, _ => by simp
  | d :: ds, x :: xs, h, hw => by
    have h1 := hw 0 x rfl
    have h2 := b4D W ds xs (by simpa using h) fun i a ha => by have := hw (i + 1) a (by simpa using ha); simpa using this
    simp only [List.map_cons, List.sum_cons, uptoBulkAll]
    simp at h1
    omega
  | [], _ :: _, h, _ => by simp at h
  | _ :: _, [], h, _ => by simp at h
theorem c1W (a : Addr) (m j : Nat) : (a.add m).add j = a.add (m + j) := by
  unfold Addr.add
  by_cases hm : m = 0 <;> by_cases hj : j = 0 <;> simp [hm, hj, Nat.add_assoc]
/-- No row is the call's own yet. -/
theorem c7z {φ : Nat → Option Nat} {b : Nat} : ¬ (Emb.mk φ [] w).Mut b := by
  rintro ⟨id, blk, h, _⟩; simp at h
theorem d3h (φ : Nat → Option Nat) (w : World) : HOk ⟨φ, [], w⟩ := ⟨fun id b h => by simp at h, fun id b h => by simp at h, fun id b _ h => by simp at h, fun id b h => by simp at h, fun i j b c _ h => by simp at h⟩
/-- A value read xs0 data d stands for the tree a. -/
structure Stands (w : World) (cs : List Value) (a : AV) : Prop where
  one : ∀ c ∈ cs, c.oneCell' = true
  len : cs.length = a.cells.length
  rep : ∀ (φ : Nat → Option Nat) (k : Nat) v c, cs[k]? = some v → a.cells[k]? = some c → Rep ⟨φ, [], w⟩ v c
/-- A slice whose elements' readings stand for trees. -/
theorem c2z {α : Type} (f : α → AV) (good : α → DataW K → Prop) {t e : TypeId} (wd : Nat) (ht : P.underlying t = some (.slice e)) (hc : P.cellsOf e = wd) (hpos : 0 < wd) (hf : ∀ a, (f a).cells.length = wd) (hcl : ∀ a, Cl (f a))
    (hel : ∀ m cs y, DataW.trod enc P w base sp held m e cs = some y → cs.length = wd → ∃ a, good a y.1 ∧ Stands w cs (f a))
    {fuel : Nat} {cs : List Value} {x : DataW K × List MemPlace} (h : DataW.trod enc P w base sp held fuel t cs = some x) :
    ∃ xs0 : List α, Stands w cs (.sl wd (xs0.map f)) ∧ xs0.length ≤ uptoBulk x.1 ∧ (∀ a ∈ xs0, ∃ d : DataW K, good a d ∧ uptoBulk d ≤ uptoBulk x.1) ∧ ∀ W : α → Nat, (∀ a d, good a d → W a ≤ uptoBulk d) → (xs0.map W).sum + 1 ≤ uptoBulk x.1 := by
  rcases DataW.trod_slice ht h with ⟨rfl, rfl⟩ | ⟨ad, len, cap, elems, rest, n, rfl, rfl, rfl, hb, hl, hm, hlen, hget, _, _⟩
  · refine ⟨[], ⟨by simp [Value.oneCell'], rfl, ?_⟩, Nat.zero_le _, by simp, fun W _ => by simp [uptoBulk]⟩
    intro φ k v c hv hc'
    match k with
    | 0 => cases hv; cases hc'; exact b7W wd hpos .nil
    | k + 1 => simp at hv
  · -- each element
    have each : ∀ i, i < len → ∃ a cs', good a ((elems.map (·.1)).getD i .nil) ∧ Stands w cs' (f a) ∧ cs'.length = wd ∧ ∀ j, j < wd → w.cell? (ad.add (i * wd + j)) = cs'[j]? := by
      intro i hi
      have h1 := hget i hi
      have hy : elems[i]? = some (elems[i]'(by omega)) := List.getElem?_eq_getElem (by omega)
      rw [hy, Option.bind_eq_some_iff] at h1
      obtain ⟨cs', h2, h3⟩ := h1
      rw [hc] at h2
      obtain ⟨_, hl2, hcell⟩ := World.cells?_some h2
      obtain ⟨a, g1, g2⟩ := hel n cs' _ h3 hl2
      refine ⟨a, cs', ?_, g2, hl2, fun j hj => ?_⟩
      · rw [List.getD_eq_getElem?_getD, List.getElem?_map, hy]; exact g1
      · have := hcell j hj
        rw [← this]
        rw [c1W]
    -- the list
    have all : ∀ m, m ≤ len → ∃ (xs0 : List α) (vs : List Value), xs0.length = m ∧ vs.length = m * wd ∧ (∀ (i : Nat) a, xs0[i]? = some a → good a ((elems.map (·.1)).getD i .nil)) ∧
        (∀ (k : Nat) v, vs[k]? = some v → w.cell? (ad.add k) = some v ∧ v.oneCell' = true) ∧ (∀ (φ : Nat → Option Nat) (k : Nat) v c, vs[k]? = some v → ((xs0.map f).flatMap AV.cells)[k]? = some c → Rep ⟨φ, [], w⟩ v c) := by
      intro m
      induction m with
      | zero => exact fun _ => ⟨[], [], rfl, by simp, by simp, by simp, by simp⟩
      | succ m ih =>
        intro hm'
        obtain ⟨xs0, vs, q1, q2, q3, q4, q5⟩ := ih (by omega)
        obtain ⟨a, cs', r1, r2, r3, r4⟩ := each m (by omega)
        have hfl : ((xs0.map f).flatMap AV.cells).length = m * wd := by
          rw [a1x (wd := wd) (by intro y hy; obtain ⟨z, _, rfl⟩ := List.mem_map.1 hy; exact hf z), List.length_map, q1]
        refine ⟨xs0 ++ [a], vs ++ cs', by simp [q1], by simp [q2, r3, Nat.add_mul], ?_, ?_, ?_⟩
        · intro i b hb'
          rcases Nat.lt_or_ge i m with hi | hi
          · rw [List.getElem?_append_left (by omega)] at hb'; exact q3 i b hb'
          · have hi' := a0c hb'
            simp at hi'
            have : i = m := by omega
            subst this
            rw [List.getElem?_append_right (by omega)] at hb'
            simp [q1] at hb'
            subst hb'; exact r1
        · intro k v hv
          rcases Nat.lt_or_ge k (m * wd) with hk | hk
          · rw [List.getElem?_append_left (by omega)] at hv; exact q4 k v hv
          · rw [List.getElem?_append_right (by omega), q2] at hv
            have hk2 := a0c hv
            refine ⟨?_, r2.one v (List.mem_of_getElem? hv)⟩
            have := r4 (k - m * wd) (by omega)
            rw [hv] at this
            rw [← this]; congr 2; omega
        · intro φ k v c hv hc'
          rw [List.map_append, List.flatMap_append] at hc'
          rcases Nat.lt_or_ge k (m * wd) with hk | hk
          · rw [List.getElem?_append_left (by omega)] at hv
            rw [List.getElem?_append_left (by omega)] at hc'
            exact q5 φ k v c hv hc'
          · rw [List.getElem?_append_right (by omega), q2] at hv
            rw [List.getElem?_append_right (by omega), hfl] at hc'
            simp at hc'
            exact r2.rep φ (k - m * wd) v c hv hc'
    obtain ⟨xs0, vs, q1, q2, q3, q4, q5⟩ := all len (Nat.le_refl _)
    have hw : ∀ y ∈ xs0.map f, y.cells.length = wd := by intro y hy; obtain ⟨z, _, rfl⟩ := List.mem_map.1 hy; exact hf z
    have hcl' : ∀ c ∈ (xs0.map f).flatMap AV.cells, Cl c := by
      intro c hc'
      obtain ⟨y, hy, hc'⟩ := List.mem_flatMap.1 hc'
      obtain ⟨z, _, rfl⟩ := List.mem_map.1 hy
      exact a6e (hcl z) c hc'
    refine ⟨xs0, ⟨by simp [Value.oneCell'], rfl, ?_⟩, ?_, ?_, ?_⟩
    · intro φ k v c hv hc'
      match k with
      | 0 =>
        cases hv; cases hc'
        have hlen' : len = (xs0.map f).length := by rw [List.length_map, q1]
        rw [hlen']
        rcases Nat.eq_zero_or_pos len with h0 | h0
        · have : xs0 = [] := List.length_eq_zero_iff.1 (by omega)
          subst this
          exact .sl _ cap wd [] [] 0 0 (Nat.zero_le _) hpos (by simp) (by simp) (.inl rfl) rfl (by simp) (by simp)
        · have hv0 : vs[0]? = some (vs[0]'(by rw [q2]; exact Nat.mul_pos h0 hpos)) := List.getElem?_eq_getElem _
          have hspot : ad.spot = none := by
            have h00 := (q4 0 _ hv0).1
            rw [show ad.add 0 = ad by simp [Addr.add]] at h00
            exact World.cell?_spot h00
          obtain ⟨b, o, s⟩ := ad
          simp only at hspot
          subst hspot
          exact .sl (some ⟨b, o, none⟩) cap wd (xs0.map f) vs b o (by rw [List.length_map, q1]; exact hl) hpos hw hcl' (.inr ⟨rfl, c7z⟩) (by rw [a1x hw, List.length_map, q1, q2])
            (fun k v hk => by have := q4 k v hk; rw [Go.WideShapes.add_plain] at this; exact this) (fun k v c hk hc2 => q5 φ k v c hk hc2)
      | k + 1 => simp at hv
    · have h1 := c4y (elems.map (·.1))
      have h2 := b2c (elems.map (·.1)) (rest.map (·.1))
      rw [List.length_map] at h1
      show xs0.length ≤ uptoBulk (.slice (elems.map (·.1)) (rest.map (·.1)))
      omega
    · intro a ha
      obtain ⟨i, hi, rfl⟩ := List.getElem_of_mem ha
      refine ⟨_, q3 i _ (List.getElem?_eq_getElem hi), ?_⟩
      have hm' : (elems.map (·.1)).getD i .nil ∈ elems.map (·.1) := by
        have : i < (elems.map (·.1)).length := by rw [List.length_map]; omega
        rw [List.getD_eq_getElem?_getD, List.getElem?_eq_getElem this]; exact List.getElem_mem this
      have h1 := c0q hm'
      have h2 := b2c (elems.map (·.1)) (rest.map (·.1))
      show uptoBulk _ ≤ uptoBulk (.slice (elems.map (·.1)) (rest.map (·.1)))
      omega
    · intro W hW
      have h1 : (xs0.map W).sum ≤ uptoBulkAll (elems.map (·.1)) := b4D W (elems.map (·.1)) xs0 (by rw [List.length_map]; omega) fun i a ha => hW a _ (q3 i a ha)
      have h2 := b2c (elems.map (·.1)) (rest.map (·.1))
      show (xs0.map W).sum + 1 ≤ uptoBulk (.slice (elems.map (·.1)) (rest.map (·.1)))
      omega
/-- Limbs. -/
theorem c9Y {t e : TypeId} (ht : P.underlying t = some (.slice e)) (he : P.underlying e = some (.int .u32)) (hc : P.cellsOf e = 1) {fuel : Nat} {cs : List Value} {x : DataW K × List MemPlace} (h : DataW.trod enc P w base sp held fuel t cs = some x) :
    ∃ l : List Nat, Stands w cs (natV l) ∧ Lim l ∧ l.length ≤ uptoBulk x.1 := by
  obtain ⟨xs0, q1, q2, q3, _⟩ := c2z (enc := enc) (P := P) (w := w) (base := base) (sp := sp) (held := held) (fun n : Nat => .int .u32 (n : Int)) (fun n (_ : DataW K) => n < LB) 1 ht hc (by decide) (fun _ => rfl) (fun _ => .int _ _) (by
    intro m cs y hy hl
    obtain ⟨n, rfl, hx, hwf⟩ := DataW.trod_int he hy
    have hb := bounds_u32 hwf
    refine ⟨n.toNat, by show n.toNat < 4294967296; omega, by simp [Value.oneCell'], rfl, ?_⟩
    intro φ k v c hv hc'
    match k with
    | 0 =>
      cases hv; cases hc'
      have : (n.toNat : Int) = n := by omega
      rw [this]; exact .int _ _
    | k + 1 => simp at hv) h
  exact ⟨xs0, q1, fun d hd => (q3 d hd).choose_spec.1, q2⟩
/-- A whole number. -/
theorem open_z {t tb tm e : TypeId} {fs : Array Field} {f0 f1 : Field} (ht : P.underlying t = some (.struct fs)) (hfs : fs.toList = [f0, f1]) (h0 : f0.type = tb ∧ f0.offset = 0) (h1 : f1.type = tm ∧ f1.offset = 1) (hb : P.underlying tb = some .bool) (hbc : P.cellsOf tb = 1) (hmc : P.cellsOf tm = 1)
    (hm : P.underlying tm = some (.slice e)) (he : P.underlying e = some (.int .u32)) (hc : P.cellsOf e = 1) {fuel : Nat} {cs : List Value} {x : DataW K × List MemPlace} (h : DataW.trod enc P w base sp held fuel t cs = some x) (hl2 : cs.length = 2) :
    ∃ z : ZI, Stands w cs z.av ∧ Zok (uptoBulk x.1) z := by
  obtain ⟨xs, n, rfl, rfl, hl, hxs, hget⟩ := DataW.trod_struct ht h
  have hf0 : fs[0]? = some f0 := by rw [← Array.getElem?_toList, hfs]; rfl
  have hf1 : fs[1]? = some f1 := by rw [← Array.getElem?_toList, hfs]; rfl
  have hsz : fs.size = 2 := by rw [← Array.length_toList, hfs]; rfl
  have g0 := hget 0 f0 hf0
  have g1 := hget 1 f1 hf1
  rw [h0.1, h0.2, hbc] at g0
  rw [h1.1, h1.2, hmc] at g1
  obtain ⟨c0, c1, rfl⟩ : ∃ c0 c1, cs = [c0, c1] := by
    match cs, hl2 with
    | [a, b], _ => exact ⟨a, b, rfl⟩
  have e0 : xs[0]? = some (xs[0]'(by omega)) := List.getElem?_eq_getElem (by omega)
  have e1 : xs[1]? = some (xs[1]'(by omega)) := List.getElem?_eq_getElem (by omega)
  rw [e0] at g0
  rw [e1] at g1
  simp only [List.drop_zero, List.take_succ_cons, List.take_zero, List.drop_succ_cons] at g0 g1
  obtain ⟨b, hb1, _⟩ := DataW.trod_bool hb g0
  obtain ⟨l, q1, q2, q3⟩ := c9Y hm he hc g1
  simp only [List.cons.injEq, and_true] at hb1
  subst hb1
  refine ⟨⟨b, l⟩, ⟨?_, rfl, ?_⟩, q2, ?_⟩
  · intro c hc'
    simp only [List.mem_cons, List.not_mem_nil, or_false] at hc'
    rcases hc' with rfl | rfl
    · rfl
    · exact q1.one _ (by simp)
  · intro φ k v c hv hc'
    match k with
    | 0 => cases hv; cases hc'; exact .bool b
    | 1 => cases hv; cases hc'; exact q1.rep φ 0 _ _ rfl rfl
    | k + 2 => simp at hv
  · have hm1 : (xs[1]'(by omega)).1 ∈ xs.map (·.1) := List.mem_map.2 ⟨_, List.getElem_mem _, rfl⟩
    have := c0q hm1
    show l.length ≤ uptoBulk (.agg (xs.map (·.1)))
    simp only [uptoBulk]
    omega
/-- The types of numbers, vectors, matrices in a program. -/
structure Types (P : Program) (tm tv tz tb tn te : TypeId) : Prop where
  mat : P.underlying tm = some (.slice tv)
  vec : P.underlying tv = some (.slice tz)
  num : ∃ fs f0 f1, P.underlying tz = some (.struct fs) ∧ fs.toList = [f0, f1] ∧ (f0.type = tb ∧ f0.offset = 0) ∧ (f1.type = tn ∧ f1.offset = 1)
  bool : P.underlying tb = some .bool
  nat : P.underlying tn = some (.slice te)
  u32 : P.underlying te = some (.int .u32)
  cv : P.cellsOf tv = 1
  cz : P.cellsOf tz = 2
  cb : P.cellsOf tb = 1
  cn : P.cellsOf tn = 1
  ce : P.cellsOf te = 1
variable {tm tv tz tb tn te : TypeId}
theorem Types.open_z (T : Types P tm tv tz tb tn te) {fuel : Nat} {cs : List Value} {x : DataW K × List MemPlace} (h : DataW.trod enc P w base sp held fuel tz cs = some x) (hl2 : cs.length = 2) : ∃ z : ZI, Stands w cs z.av ∧ Zok (uptoBulk x.1) z := by
  obtain ⟨fs, f0, f1, h1, h2, h3, h4⟩ := T.num
  exact Abs.open_z h1 h2 h3 h4 T.bool T.cb T.cn T.nat T.u32 T.ce h hl2
theorem Types.open_vec (T : Types P tm tv tz tb tn te) {fuel : Nat} {cs : List Value} {x : DataW K × List MemPlace} (h : DataW.trod enc P w base sp held fuel tv cs = some x) : ∃ v : List ZI, Stands w cs (vecV v) ∧ v.length ≤ uptoBulk x.1 ∧ (∀ z ∈ v, Zok (uptoBulk x.1) z) ∧ (v.map fun z => z.mag.length).sum ≤ uptoBulk x.1 := by
  obtain ⟨xs0, q1, q2, q3, q4⟩ := c2z (enc := enc) (P := P) (w := w) (base := base) (sp := sp) (held := held) ZI.av (fun z (d : DataW K) => Zok (uptoBulk d) z) 2 T.vec T.cz (by decide) (fun _ => rfl) ZI.cl (by
    intro m cs y hy hl
    obtain ⟨z, r1, r2⟩ := T.open_z hy hl
    exact ⟨z, r2, r1⟩) h
  exact ⟨xs0, q1, q2, fun z hz => (by obtain ⟨d, h1, h2⟩ := q3 z hz; exact h1.mono h2), by have := q4 (fun z => z.mag.length) (fun z d h => h.len); omega⟩
theorem Types.open_mat (T : Types P tm tv tz tb tn te) {fuel : Nat} {cs : List Value} {x : DataW K × List MemPlace} (h : DataW.trod enc P w base sp held fuel tm cs = some x) : ∃ b : List (List ZI), Stands w cs (matV b) ∧ b.length ≤ uptoBulk x.1 ∧ (∀ v ∈ b, v.length ≤ uptoBulk x.1 ∧ ∀ z ∈ v, Zok (uptoBulk x.1) z) ∧ (b.map fun v => v.length).sum ≤ uptoBulk x.1 ∧ (b.map fun v => (v.map fun z => z.mag.length).sum).sum ≤ uptoBulk x.1 := by
  obtain ⟨xs0, q1, q2, q3, q4⟩ := c2z (enc := enc) (P := P) (w := w) (base := base) (sp := sp) (held := held) vecV (fun v (d : DataW K) => v.length ≤ uptoBulk d ∧ (∀ z ∈ v, Zok (uptoBulk d) z) ∧ (v.map fun z => z.mag.length).sum ≤ uptoBulk d) 1 T.mat T.cv (by decide) (fun _ => rfl) a0h (by
    intro m cs y hy hl
    obtain ⟨v, r1, r2, r3, r4⟩ := T.open_vec hy
    exact ⟨v, ⟨r2, r3, r4⟩, r1⟩) h
  refine ⟨xs0, q1, q2, fun v hv => ?_, by have := q4 (fun v => v.length) (fun v d h => h.1); omega, by have := q4 (fun v => (v.map fun z => z.mag.length).sum) (fun v d h => h.2.2); omega⟩
  obtain ⟨d, h1, h2⟩ := q3 v hv
  exact ⟨Nat.le_trans h1.1 h2, fun z hz => (h1.2.1 z hz).mono h2⟩
/-- A value of one cell. -/
theorem Stands.rep1 {v : Value} {a : AV} (h : Stands w [v] a) (ha : a.cells = [a]) (φ : Nat → Option Nat) : Rep ⟨φ, [], w⟩ v a := h.rep φ 0 v a rfl (by rw [ha]; rfl)
end
end Go.Abs
set_option linter.unusedVariables false
set_option linter.unusedSimpArgs false
namespace Go.Abs
open Go.ChangeShapes Go.WideShapes Go.RowKit
/-- A law's walk: it answers, and below the old end nothing turns. -/
theorem c7Y {P : Program} {f : FuncId} {ss : List AV} {r : Bool} (hp : a0e P f ss (.bool r)) {args : Array Value} {W : World} (hl : args.size = ss.length) (hr : ∀ (k : Nat) v a, args.toList[k]? = some v → ss[k]? = some a → Rep ⟨fun _ => none, [], W⟩ v a) :
    Calls P f args W fun e W' => e = .returned (.bool r) ∧ Below W.heap.size W W' := by
  have h := (hp []).2 (fun _ => none) W args.toList (d3h _ _) (by simpa using hl) hr
  rw [Array.toArray_toList] at h
  refine h.mono ?_
  rintro e w' ⟨v, r', φ', H', rfl, ⟨rfl, rfl⟩, q1, q2, q3, q4⟩
  refine ⟨by rw [a1E q2], q4.os, q4.tape, q4.output, q4.size, fun k hk => q4.keep k hk c7z⟩
theorem Below.trodAll {K : Type} {enc : TypeId × Value → K} {P : Program} (hl : laidOutB P = true) {W W' : World} (hb : Below W.heap.size W W') : ∀ {ts : List TypeId} {vs : List Value} {ds : List (DataW K)} {ps : List MemPlace}, (ts.all fun t => P.readableRec t && decide (t < P.types.size)) = true →
    DataW.TrodAll enc P W 0 (fun _ => true) true ts vs ds ps → (∀ x ∈ ps, x.block < W.heap.size) → DataW.TrodAll enc P W' 0 (fun b => decide (b < W.heap.size)) true ts vs ds ps
  | [], [], [], _, _, h, _ => h
  | t :: ts, v :: vs, d :: ds, _, hts, ⟨p, q, h1, h2, e⟩, hlt => by
    simp only [List.all_cons, Bool.and_eq_true, decide_eq_true_eq] at hts
    exact ⟨p, q, Go.RowKit.Below.trod hl hts.1.1 hts.1.2 h1 hb (fun x hx => hlt x (by rw [e]; exact List.mem_append_left _ hx)), Below.trodAll hl hb (by simpa using hts.2) h2 (fun x hx => hlt x (by rw [e]; exact List.mem_append_right _ hx)), e⟩
  | [], _ :: _, _, _, _, h, _ => by simp [DataW.TrodAll] at h
  | [], [], _ :: _, _, _, h, _ => by simp [DataW.TrodAll] at h
  | _ :: _, [], _, _, _, h, _ => by simp [DataW.TrodAll] at h
  | _ :: _, _ :: _, [], _, _, h, _ => by simp [DataW.TrodAll] at h
theorem c3D {P : Program} {W : World} {base : Nat} {t e : TypeId} {v : Value} (ht : P.underlying t = some (.slice e)) (h : Value.okWide P W .any base t v) : v.cells.toList = [v] := by
  cases v <;> first | rfl | (exfalso; simp [Value.okWide, Cell.okWide, Cell.ok, ht] at h)
theorem d4w {v : List ZI} {n : Nat} (hl : v.length ≤ n) (he : ∀ z ∈ v, Zok n z) (hn : n ≤ 1048576) : Vok 1048576 v := ⟨by omega, fun z hz => (he z hz).mono hn⟩
theorem d4Z {b : List (List ZI)} {n : Nat} (hl : b.length ≤ n) (he : ∀ v ∈ b, v.length ≤ n ∧ ∀ z ∈ v, Zok n z) (hn : n ≤ 1048576) : Mok 1048576 b := ⟨by omega, fun v hv => d4w (he v hv).1 (he v hv).2 hn⟩
/-- A law's promise: it answers true; what was handed in reads as it did. -/
theorem c9K {K : Type} {enc : TypeId × Value → K} {P : Program} {f : Func} {s : ChangeSpec} {fresh handsOn : Bool} {W W' : World} {args : Array Value} {ds gs : List (DataW K)} {before : List MemPlace} {tb : TypeId}
    (hW : DataW.Whole enc P f.params.toList s.vars false W args.toList ds gs before) (hv : s.vars = []) (hfn : s.fn K ds = { results := [.lit (.bool true)], args := ds }) (ht : f.resultTypes = #[tb]) (htb : P.underlying tb = some .bool)
    (hl : laidOutB P = true) (hts : (f.params.toList.all fun t => P.readableRec t && decide (t < P.types.size)) = true) (hb : Below W.heap.size W W') :
    s.post enc P f false fresh handsOn false W args (.bool true) W' := by
  have hW0 := hW
  obtain ⟨p, q, hA, hV, rfl, hz, hn⟩ := hW
  rw [hv] at hV
  obtain ⟨rfl, rfl⟩ := trodVars_none hV
  have hlt : ∀ x ∈ p, x.block < W.heap.size := fun x hx => by simpa using hW0.lt x (by simpa using hx)
  have hA' := Below.trodAll (enc := enc) hl hb hts hA hlt
  refine ⟨ds, [], p ++ [], [], p, [], hW0, ?_, ?_, ?_, ?_, by simp⟩
  · rw [List.append_nil, hfn, ht]
    exact trodAll_cons_mk (shut_bool htb true) trodAll_mk0
  · rw [List.append_nil, hfn]; exact hA'
  · rw [List.append_nil, hfn, hv]; rfl
  · refine ⟨hb.os, hb.output, fun i hi => ?_⟩
    have := (World.keptBut_refl W (fun x => x ∈ p ++ [] ∧ (x ∈ [] ∨ x ∈ p ∨ x ∈ []))).2.2 i hi
    rw [hb.block i hi]
    exact this
end Go.Abs
set_option linter.unusedVariables false
set_option linter.unusedSimpArgs false
namespace Go.Abs
open Go.ChangeShapes Go.WideShapes Go.RowKit
open Go.Proofs.Ytkljokmnimblnaa.Rows (uptoBulk uptoBulkAll)
section
variable {K : Type} {enc : TypeId × Value → K} {P : Program} {w : World} {base : Nat} {sp : Nat → Bool} {held : Bool} {tm tv tz tb tn te : TypeId} {v : Value} {fuel : Nat} {x : DataW K × List MemPlace} {b1 : Nat}
theorem Types.arg_mat (T : Types P tm tv tz tb tn te) (hok : Value.okWide P w .any b1 tm v) (h : DataW.trod enc P w base sp held fuel tm v.cells.toList = some x) (hb : uptoBulk x.1 ≤ 1048576) : ∃ b, Mok 1048576 b ∧ ∀ φ, Rep ⟨φ, [], w⟩ v (matV b) := by
  obtain ⟨b, s, l, e, _⟩ := T.open_mat h
  rw [c3D T.mat hok] at s
  exact ⟨b, d4Z l e hb, fun φ => s.rep1 rfl φ⟩
end
end Go.Abs

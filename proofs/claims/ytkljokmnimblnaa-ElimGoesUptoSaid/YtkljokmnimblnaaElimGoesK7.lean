/- Part 7 of the proof of ElimGoes: W20, W21, W22, W23, W24, W25, W26, W27, W28, W29, W30, W31, W32, W35, W36, W37, W38, W39, W40, W41, W46, W47. -/
import Derived.Test.YtkljokmnimblnaaElimGoesK6
set_option linter.unusedVariables false
set_option linter.unusedSimpArgs false
namespace Go.Abs
/-- A matrix's logical entries: whole numbers. -/
structure Lz (n c K : Nat) (π : Nat → Nat) (S : Nat → Nat → AV) (f : Nat → Nat → Int) : Prop where
  lt : ∀ a, a < n → π a < n
  inj : ∀ a b, a < n → b < n → π a = π b → a = b
  at_ : ∀ a b, a < n → b < c → ∃ x : ZI, S (π a) b = x.av ∧ x.z = f a b ∧ Zok K x
  cl : ∀ a b, Cl (S a b)
theorem Lz.swap {n c K : Nat} {π : Nat → Nat} {S : Nat → Nat → AV} {f : Nat → Nat → Int} (h : Lz n c K π S f) {p r : Nat} (hp : p < n) (hr : r < n) : Lz n c K (swp π p r) S fun a b => if a = p then f r b else if a = r then f p b else f a b := by
  have h0 : Lk n c π S fun a b => S (π a) b := ⟨h.lt, h.inj, fun _ _ _ _ => rfl, h.cl⟩
  have hs := Lk.swap (f := fun x : AV => x) h0 hp hr
  refine ⟨hs.lt, hs.inj, fun a b ha hb => ?_, h.cl⟩
  unfold swp
  split
  · exact h.at_ r b hr hb
  · split
    · exact h.at_ p b hp hb
    · exact h.at_ a b ha hb
/-- Row j from a place on told anew. -/
def a7h (S : Nat → Nat → AV) (j : Nat) (f : Nat → AV) (t : Nat) : Nat → Nat → AV := fun a b => if a = j ∧ t ≤ b then f b else S a b
theorem c3k {S : Nat → Nat → AV} {j : Nat} {f : Nat → AV} {t b : Nat} (h : b < t) : a7h S j f t j b = S j b := by simp [a7h]; omega
theorem c3j {S : Nat → Nat → AV} {j a : Nat} {f : Nat → AV} {t b : Nat} (h : a ≠ j) : a7h S j f t a b = S a b := by simp [a7h, h]
theorem d0f (S : Nat → Nat → AV) (j : Nat) (f : Nat → AV) (t : Nat) : upd2 (a7h S j f (t + 1)) j t (f t) = a7h S j f t := by
  funext a b
  unfold upd2 a7h
  by_cases h1 : a = j
  · subst h1
    by_cases h2 : b = t
    · subst h2; simp
    · by_cases h3 : t + 1 ≤ b
      · rw [if_pos rfl, if_neg h2, if_pos ⟨rfl, h3⟩, if_pos ⟨rfl, by omega⟩]
      · rw [if_pos rfl, if_neg h2, if_neg (by omega), if_neg (by omega)]
  · rw [if_neg h1, if_neg (by omega), if_neg (by omega)]
theorem c8A {S : Nat → Nat → AV} {j : Nat} {f : Nat → AV} {t : Nat} (hS : ∀ a b, Cl (S a b)) (hf : ∀ b, Cl (f b)) : ∀ a b, Cl (a7h S j f t a b) := by
  intro a b; unfold a7h; split
  · exact hf b
  · exact hS a b
theorem a7m {q : Rat} {z : Int} (h : q = z) : q.num = z ∧ (q.num : Rat) = q := by subst h; exact ⟨rfl, rfl⟩
section
variable {n c e K : Nat} (b : List (List ZI)) (B : Nat → Nat → Rat)
/-- The last head as a whole number. -/
def a8q (n : Nat) (B : Nat → Nat → Rat) (t : Nat) : Int := (gproc n B t).last.num
def ZgI (n : Nat) (B : Nat → Nat → Rat) (t a k : Nat) : Int := (Zg (gproc n B t) a k).num
section
variable (hB : Bd e B) (hn : n ≤ 64)
include hB hn
theorem c3K (t : Nat) : (a8q n B t : Rat) = (gproc n B t).last ∧ (a8q n B t).natAbs ≤ LB ^ KB e := by
  obtain ⟨z, hz, hz1⟩ := b0Q hB t (.inl hn)
  obtain ⟨h1, h2⟩ := a7m hz
  exact ⟨h2, by unfold a8q; rw [h1]; exact hz1⟩
theorem c2W (t : Nat) {a : Nat} (k : Nat) (ha : a < n) : (ZgI n B t a k : Rat) = Zg (gproc n B t) a k ∧ (ZgI n B t a k).natAbs ≤ LB ^ KB e := by
  obtain ⟨z, hz, hz1⟩ := d7K hB hn t k ha
  obtain ⟨h1, h2⟩ := a7m hz
  exact ⟨h2, by unfold ZgI; rw [h1]; exact hz1⟩
omit hB hn in
theorem b0o (t : Nat) {a : Nat} (k : Nat) {z : Int} (h : (z : Rat) = Zg (gproc n B t) a k) : z = ZgI n B t a k := by
  unfold ZgI; rw [← h]; rfl
end
def bScp : ACode := .seq (.region a5t false) (.seq (.region a5s false) (.seq (.region a5r false) (.seq (.label 0) (.seq (.seq (.region a5q false) (.block 0 (.loop a5u))) (.seq (.region a2T true) (.ret))))))
theorem d3M {H X : Heap} (hH : a0S H) (hX : ∀ b, some b ∈ X → ∀ a ∈ b.flat, Cl a) : a0S (hap H X) := by
  intro id b hb a ha
  have hlen : (hap H X).length = H.length + X.length := by simp [hap]
  simp only [hap] at hb
  rcases Nat.lt_or_ge id H.length with h1 | h1
  · rw [List.getElem?_append_left h1] at hb
    exact (hH id b hb a ha).mono fun i hi => by have : i < H.length := hi; show i < _; omega
  · rw [List.getElem?_append_right h1] at hb
    exact (hX b (List.mem_of_getElem? hb) a ha).ref
/-- What bareiss hands out. -/
def b7K (H : Heap) (n c e : Nat) (B : Nat → Nat → Rat) (r' : AV) (H' : Heap) : Prop := ∃ β π S L lx, Lz n c (KB e + 1) π S (ZgI n B c) ∧ H.length ≤ β ∧ β + n < (hap H L).length ∧ H' = hM (hap H L) β n 2 c (some c) π S ∧ a0S H' ∧
      ZI.z lx = a8q n B c ∧ Zok (KB e + 1) lx ∧ r' = .tup [.mu β 0 n (some n), hsV (gproc n B c).cs, lx.av, .bool (gproc n B c).odd]
theorem a8a (hb : ∀ i, (h : i < b.length) → b[i].length = c) (hBb : ∀ a k, B a k = (zg (mg b a) k : Int)) (hm : Mok e b) (hB : Bd e B) (hn : b.length = n) (hn64 : n ≤ 64) (hc : c ≤ 2097152) (hK : KB e + 1 < 1099511627776) (H : Heap) :
    a0o Pr a2f [matV b, .int .i64 c] H (b7K H n c e B) := by
  refine a0o.introH c0l c0i (Nat.le_of_ble_eq_true rfl) fun hH => ?_
  have hBi : ∀ i k, ∃ z : Int, B i k = z := fun i k => by obtain ⟨z, h, _⟩ := hB i k; exact ⟨z, h⟩
  refine Safe.rg rfl ?_
  simp only [a9C, E3, seval]
  refine Safe.rg rfl ?_
  simp only [a5t, E3, seval]
  refine (c6m b hb (by omega) hc (hap H [some ⟨2, [.agg [.bool false, .nil]]⟩])).mono ?_
  rintro r' H' ⟨rfl, rfl⟩
  simp only [E3, seval]
  have e0 : lid (hap H [some ⟨2, [.agg [.bool false, .nil]]⟩]) 0 = lid H 1 := by simp [hap, lid]
  rw [e0, a6c, hn]
  have hX : ∀ x, some x ∈ [some (Blk.mk 2 [.agg [.bool false, .nil]])] → ∀ a ∈ x.flat, Cl a := RC.zero RC.nil
  have hS0 : ∀ j k, Cl (zav b j k) := fun _ _ => ZI.cl _
  have hGr : a0S (hap H ([some ⟨2, [.agg [.bool false, .nil]]⟩] ++ a6g (lid H 1) n 2 c (some c) (zav b))) := d1g hH hX fun j k _ _ => hS0 j k
  have hGm : hM (hap H ([some ⟨2, [.agg [.bool false, .nil]]⟩] ++ a6g (lid H 1) n 2 c (some c) (zav b))) (lid H 1) n 2 c (some c) (fun i => i) (zav b) = hap H ([some ⟨2, [.agg [.bool false, .nil]]⟩] ++ a6g (lid H 1) n 2 c (some c) (zav b)) := d9r H [some ⟨2, [.agg [.bool false, .nil]]⟩] n 2 c (some c) (zav b)
  have hG : lid H 1 + n < (hap H ([some ⟨2, [.agg [.bool false, .nil]]⟩] ++ a6g (lid H 1) n 2 c (some c) (zav b))).length := d6m H [some ⟨2, [.agg [.bool false, .nil]]⟩] n 2 c (some c) (zav b)
  have hbox : (hap H ([some ⟨2, [.agg [.bool false, .nil]]⟩] ++ a6g (lid H 1) n 2 c (some c) (zav b)))[lid H 0]? = some (some ⟨2, [.agg [.bool false, .nil]]⟩) := by
    simp only [hap, lid, Nat.add_zero]
    rw [List.getElem?_append_right (Nat.le_refl _)]; simp
  have hGH : ∃ L0, hap H ([some ⟨2, [.agg [.bool false, .nil]]⟩] ++ a6g (lid H 1) n 2 c (some c) (zav b)) = hap H L0 := ⟨_, rfl⟩
  rw [← hGm] at hGr
  rw [← hGm, ← a2X (hM _ _ _ _ _ _ _ _)]
  clear hGm
  generalize hap H ([some ⟨2, [.agg [.bool false, .nil]]⟩] ++ a6g (lid H 1) n 2 c (some c) (zav b)) = G at *
  have hb01 : lid H 0 < lid H 1 := by simp [lid]
  have hb0 : H.length ≤ lid H 1 := a4h H 1
  have hb00 : H.length ≤ lid H 0 := a4h H 0
  have hbl : lid H 0 = H.length := by simp [lid]
  generalize lid H 1 = β at *
  generalize lid H 0 = b0 at *
  have hHn : H.length ≤ G.length := by omega
  refine Safe.rg rfl ?_
  simp only [a5s, E3, seval]
  refine Safe.nilrow 9 1 (by decide) (by simp only [E3, seval]) ?_
  refine Safe.rg rfl ?_
  simp only [a5r, a4y, a1L, a2z, a2R, E3, seval]
  first | refine (a3i 1 (by decide) (by decide)).acall ?_ | refine (a3i 1 (by decide) (by decide)).dcall ?_
  try simp only [E3, seval]
  simp only [a4y, a1L, a2z, a2R, E3, seval]
  refine Safe.rg rfl ?_
  simp only [a5q, a4y, a1L, a2z, a2R, E3, seval]
  refine Safe.lp rfl ?_
  refine Safe.keep [6, 8, 9, 10, 11, 21, 22] ?_
  simp only [a4y, a1L, a2z, a2R, E3, seval]
  have hlast0 : a8q n B 0 = 1 := by unfold a8q; rfl
  refine Safe.loopW (α := Nat × (Nat → Nat) × (Nat → Nat → AV) × ZI) (fun s => c - s.1)
    (fun s => [(6, .loc b0 0 0), (8, .mu β 0 n (some n)), (9, .mu (lid G 0) 0 (gproc n B s.1).cs.length none), (10, .loc (lid G 1) 0 0), (11, .bool (gproc n B s.1).odd), (21, .int .i64 c), (22, .int .i64 s.1)])
    (fun s => hap (hM G β n 2 c (some c) s.2.1 s.2.2.1) [some ⟨1, (gproc n B s.1).cs.map intV⟩, some ⟨2, [s.2.2.2.av]⟩])
    (fun s => s.1 ≤ c ∧ Lz n c (KB e + 1) s.2.1 s.2.2.1 (ZgI n B s.1) ∧ s.2.2.2.z = a8q n B s.1 ∧ Zok (KB e + 1) s.2.2.2) (0, fun i => i, zav b, canZ 1) rfl rfl
    ⟨Nat.zero_le _, ⟨fun a h => h, fun _ _ _ _ h => h, fun a k ha hk => ?_, hS0⟩, by rw [hlast0]; exact a0y 1, a0z (e1D _)⟩ ?_
  · refine ⟨(mg b a).getD k ⟨false, []⟩, rfl, ?_, ?_⟩
    · refine b0o B 0 k (a := a) ?_
      show ((zg (mg b a) k : Int) : Rat) = Zg (gproc n B 0) a k
      rw [d4V k (Nat.zero_le _)]
      show ((zg (mg b a) k : Int) : Rat) = a3z B [] * a1c B [] a k
      rw [d3B, b3A, hBb]; grind
    · have hr := hm.row a
      have hl : (mg b a).length = c := by rw [a5A (by omega)]; exact hb a (by omega)
      rw [List.getD_eq_getElem?_getD, List.getElem?_eq_getElem (by omega)]
      exact (hr.get (by omega)).mono (by unfold KB; omega)
  rintro ⟨t, π, S1, lx⟩ ⟨ht, hL, hlz, hlk⟩ ih
  simp only at ht hL hlz hlk ih ⊢
  have hok := a3v (n := n) hBi t
  have hrn := hok.len
  have hHr : ∀ {K : Nat} {π' : Nat → Nat} {S' : Nat → Nat → AV} {F : Nat → Nat → Int}, Lz n c K π' S' F → a0S (hM G β n 2 c (some c) π' S') := fun h => d3R hG hGr h.lt fun a b _ _ => h.cl a b
  have htlt : t < 9223372036854775807 := by omega
  have htw : IntKind.wrap .i64 ((t : Int) + 1) = ((t + 1 : Nat) : Int) := by rw [a0b] <;> omega
  refine Safe.inLoop ?_
  by_cases htc : t < c
  · have hlt : ((t : Int) < (c : Int)) = True := eq_true (by omega)
    refine Safe.rg rfl ?_
    simp only [a5p, hlt, E3, seval]
    refine Safe.cd rfl ?_
    simp only [E3, seval]
    refine Safe.rg rfl ?_
    simp only [a9B, E3, seval]
    refine Safe.rg rfl ?_
    simp only [a9A, a4y, a1L, a2z, a2R, E3, seval]
    refine Safe.rg rfl ?_
    simp only [a9z, E3, seval]
    have entry : ∀ q, q < n → ∃ x : ZI, S1 (π q) t = x.av ∧ x.z = ZgI n B t q t ∧ Zok (KB e + 1) x := fun q hq => hL.at_ q t hq htc
    have hzg : ∀ q k, (gproc n B t).cs.length ≤ q → q < n → (ZgI n B t q k : Rat) = (gproc n B t).last * (gproc n B t).g q k := fun q k h1 h2 => by
      rw [(c2W B hB hn64 t k h2).1, d4V k h1]
    have hlne : (gproc n B t).last ≠ 0 := a4F hok.piv
    have hz0 : ∀ q, (gproc n B t).cs.length ≤ q → q < n → (ZgI n B t q t = 0 ↔ (gproc n B t).g q t = 0) := fun q h1 h2 => by
      have h := hzg q t h1 h2
      constructor
      · intro h0; rw [h0] at h
        have : (gproc n B t).last * (gproc n B t).g q t = 0 := by rw [← h]; rfl
        rcases Rat.mul_eq_zero.1 this with h | h
        · exact absurd h hlne
        · exact h
      · intro h0; rw [h0, Rat.mul_zero] at h
        exact Rat.intCast_inj.1 (by rw [h]; rfl)
    rcases a0v (fun p => (gproc n B t).g p t) (gproc n B t).cs.length n with ⟨p, hf, h1, h2, h3, h4⟩ | ⟨hf, h4⟩
    · have hcs : (gproc n B (t + 1)).cs = (gproc n B t).cs ++ [t] := by
        show (a4G n (gproc n B t) t).cs = _
        rw [a0s hf]
      have hodd : (gproc n B (t + 1)).odd = if p = (gproc n B t).cs.length then (gproc n B t).odd else !(gproc n B t).odd := by
        show (a4G n (gproc n B t) t).odd = _
        rw [a0s hf]
      have hr : (gproc n B t).cs.length < n := by omega
      obtain ⟨hlq, hlb⟩ := c3K B hB hn64 t
      obtain ⟨hlq1, hlb1⟩ := c3K B hB hn64 (t + 1)
      have hls := d3A hf h1 hok
      have hgz := c2N (n := n) hBi t
      have hgz1 := c2N (n := n) hBi (t + 1)
      have hZab : ∀ a k, a < (gproc n B t).cs.length → ZgI n B (t + 1) a k = ZgI n B t a k := fun a k ha => by unfold ZgI; rw [d7L hf h1 k ha]
      have hZhd : ∀ k, ZgI n B (t + 1) (gproc n B t).cs.length k = ZgI n B t p k := fun k => by
        refine (b0o B (t + 1) k ?_).symm
        rw [hzg p k h1 h2, e0u hf h1 k]
      have hZpt : (ZgI n B t p t : Rat) = (gproc n B t).last * (gproc n B t).g p t := hzg p t h1 h2
      have hlast1 : ZgI n B t p t = a8q n B (t + 1) := Rat.intCast_inj.1 (by rw [hZpt, hlq1, hls])
      have hl0 : a8q n B t ≠ 0 := fun h => hlne (by rw [← hlq, h]; rfl)
      -- the new rows below
      have hrows : ∀ i k, (gproc n B t).cs.length < i → i < n → ZgI n B t p t * ZgI n B t (if i = p then (gproc n B t).cs.length else i) k - ZgI n B t (if i = p then (gproc n B t).cs.length else i) t * ZgI n B t p k = a8q n B t * ZgI n B (t + 1) i k := by
        intro i k hi hin
        have hσ1 : (gproc n B t).cs.length ≤ (if i = p then (gproc n B t).cs.length else i) := by split <;> omega
        have hσ2 : (if i = p then (gproc n B t).cs.length else i) < n := by split <;> omega
        obtain ⟨z, hz1, hz2⟩ := c4t hok (fun i k => by obtain ⟨z, h, _⟩ := hB.gproc (n := n) t i k; exact ⟨z, h⟩) (p := p) (c := t) (i := i) (k := k) h1 h3 hi hlq (hzg p t h1 h2) (hzg _ k hσ1 hσ2) (hzg _ t hσ1 hσ2) (hzg p k h1 h2)
        have : z = ZgI n B (t + 1) i k := by
          refine b0o B (t + 1) k ?_
          rw [hz2, c9M hf k hi, hls]
          have e : gproc n B (t + 1) = _ := a0s hf
          rw [e]; rfl
        rw [← this]; exact hz1
      have hzero : ∀ i k, (gproc n B t).cs.length < i → i < n → k < t → ZgI n B t (if i = p then (gproc n B t).cs.length else i) k = ZgI n B (t + 1) i k := by
        intro i k hi hin hk
        have hσ1 : (gproc n B t).cs.length ≤ (if i = p then (gproc n B t).cs.length else i) := by split <;> omega
        have hσ2 : (if i = p then (gproc n B t).cs.length else i) < n := by split <;> omega
        refine b0o B (t + 1) k ?_
        rw [hzg _ k hσ1 hσ2, hgz _ k hσ1 hσ2 hk, c9M hf k hi, hgz1 i k (by rw [hcs, a1t]; omega) hin (by omega)]
        grind
      have hZb : ∀ a k, a < n → (ZgI n B (t + 1) a k).natAbs < LB ^ (KB e + 1) := fun a k ha => by
        have h1 := (c2W B hB hn64 (t + 1) k ha).2
        have : LB ^ KB e < LB ^ (KB e + 1) := Nat.pow_lt_pow_right (by decide) (by omega)
        omega
      clear hlq hlq1 hls hgz hgz1 hzg
      generalize hcsl : (gproc n B t).cs.length = r at *
      let f0 : Nat → Nat → Int := fun a k => if a = p then ZgI n B t r k else if a = r then ZgI n B t p k else ZgI n B t a k
      have hf0r : ∀ k, f0 r k = ZgI n B t p k := fun k => by
        show (if r = p then ZgI n B t r k else if r = r then ZgI n B t p k else ZgI n B t r k) = _
        split
        · rename_i h; rw [h]
        · rw [if_pos rfl]
      have hf0i : ∀ i k, r < i → f0 i k = ZgI n B t (if i = p then r else i) k := fun i k hi => by
        show (if i = p then ZgI n B t r k else if i = r then ZgI n B t p k else ZgI n B t i k) = _
        split
        · rfl
        · rw [if_neg (by omega)]
      have hf0a : ∀ a k, a < r → f0 a k = ZgI n B t a k := fun a k ha => by
        show (if a = p then ZgI n B t r k else if a = r then ZgI n B t p k else ZgI n B t a k) = _
        rw [if_neg (by omega), if_neg (by omega)]
      have main : ∀ π', Lz n c (KB e + 1) π' S1 f0 → Safe ⟨Pr, fun _ _ => false, a2f, 147, [.tmp 4, .tmp 5, .cell 6 (some 2), .tmp 7], H.length⟩
          [.code (((ACode.region a4q false).seq (.block 4 (.loop a9D))).seq ((ACode.region a4n false).seq (.region a4m false))),
            .inBlock 1, .code (.region a2U false), .inLoop a5u, .inBlock 0, .code ((ACode.region a2T true).seq .ret), .inScope bScp]
          [(6, .loc b0 0 0), (8, .mu β 0 n (some n)), (9, .mu (lid G 0) 0 r none), (10, .loc (lid G 1) 0 0), (11, .bool (gproc n B (t + 1)).odd), (12, .int .i64 t), (13, .int .i64 r), (21, .int .i64 c), (22, .int .i64 t)]
          (hap (hM G β n 2 c (some c) π' S1) [some ⟨1, (gproc n B t).cs.map intV⟩, some ⟨2, [lx.av]⟩]) (b7K H n c e B) := by
        intro π' hL'
        have hpr := hL'.lt r hr
        have hrw2 : IntKind.wrap .i64 ((r : Int) + 1) = ((r + 1 : Nat) : Int) := by rw [a0b] <;> omega
        refine Safe.rg rfl ?_
        simp only [a4q, hrw2, E3, seval]
        refine Safe.lp rfl ?_
        refine Safe.keep [6, 8, 9, 10, 11, 12, 13, 15, 21, 22] ?_
        try simp only [E3, seval]
        refine Safe.loopW (α := Nat × (Nat → Nat → AV)) (fun s => n - s.1)
          (fun s => [(6, .loc b0 0 0), (8, .mu β 0 n (some n)), (9, .mu (lid G 0) 0 r none), (10, .loc (lid G 1) 0 0), (11, .bool (gproc n B (t + 1)).odd), (12, .int .i64 t), (13, .int .i64 r), (15, .int .i64 s.1), (21, .int .i64 c), (22, .int .i64 t)])
          (fun s => hap (hM G β n 2 c (some c) π' s.2) [some ⟨1, (gproc n B t).cs.map intV⟩, some ⟨2, [lx.av]⟩])
          (fun s => r < s.1 ∧ s.1 ≤ n ∧ Lz n c (KB e + 1) π' s.2 (fun a k => if r < a ∧ a < s.1 then ZgI n B (t + 1) a k else f0 a k)) (r + 1, S1) rfl rfl
          ⟨Nat.lt_succ_self r, hr, hL'.lt, hL'.inj, fun a k ha hk => ?_, hL'.cl⟩ ?_
        · have := hL'.at_ a k ha hk
          show ∃ x : ZI, S1 (π' a) k = x.av ∧ x.z = (if r < a ∧ a < r + 1 then ZgI n B (t + 1) a k else f0 a k) ∧ Zok (KB e + 1) x
          rw [if_neg (by omega)]; exact this
        rintro ⟨i, S2⟩ ⟨hri, hin, hL2⟩ ih2
        simp only at hri hin hL2 ih2 ⊢
        refine Safe.inLoop ?_
        by_cases hi : i < n
        · have hlt2 : ((i : Int) < (n : Int)) = True := eq_true (by omega)
          have hiw : IntKind.wrap .i64 ((i : Int) + 1) = ((i + 1 : Nat) : Int) := by rw [a0b] <;> omega
          have hcw : IntKind.wrap .i64 ((c : Int) - 1) = (c : Int) - 1 := a0b (by omega) (by omega)
          have hpi := hL2.lt i hi
          have hne : π' r ≠ π' i := fun h => by have := hL2.inj _ _ hr hi h; omega
          refine Safe.rg rfl ?_
          simp only [a4p, c6A hG, hlt2, E3, seval]
          refine Safe.cd rfl ?_
          simp only [E3, seval]
          refine Safe.rg rfl ?_
          simp only [a8n, b5F hG hi, M_at hG hi, e2m hG hpi, hcw, E3, seval]
          refine Safe.lp rfl ?_
          refine Safe.keep [6, 8, 9, 10, 11, 12, 13, 15, 16, 21, 22] ?_
          try simp only [E3, seval]
          refine Safe.loopD (c - t) (fun m => [(6, .loc b0 0 0), (8, .mu β 0 n (some n)), (9, .mu (lid G 0) 0 r none), (10, .loc (lid G 1) 0 0), (11, .bool (gproc n B (t + 1)).odd), (12, .int .i64 t), (13, .int .i64 r), (15, .int .i64 i), (16, .int .i64 (((t + m : Nat) : Int) - 1)), (21, .int .i64 c), (22, .int .i64 t)])
            (fun m => hap (hM G β n 2 c (some c) π' (a7h S2 (π' i) (fun k => Z (ZgI n B (t + 1) i k)) (t + m))) [some ⟨1, (gproc n B t).cs.map intV⟩, some ⟨2, [lx.av]⟩]) ?_ ?_ (fun m hm ihm => ?_) ?_
          · rw [show t + (c - t) = c by omega]
          · rw [show t + (c - t) = c by omega]
            refine congrArg (fun x => hap x _) (d6I fun j k hj hk => ?_)
            unfold a7h; rw [if_neg (by omega)]
          · have hkc : t + m < c := by omega
            have e1 : (((t + (m + 1) : Nat) : Int) - 1) = ((t + m : Nat) : Int) := by omega
            rw [e1]
            have hge : (((t + m : Nat) : Int) ≥ (t : Int)) = True := eq_true (by omega)
            have hkw : IntKind.wrap .i64 (((t + m : Nat) : Int) - 1) = ((t + m : Nat) : Int) - 1 := a0b (by omega) (by omega)
            obtain ⟨x1, hx1, hz1, hk1⟩ := hL2.at_ r t hr htc
            obtain ⟨x2, hx2, hz2, hk2⟩ := hL2.at_ i (t + m) hi hkc
            obtain ⟨x3, hx3, hz3, hk3⟩ := hL2.at_ i t hi htc
            obtain ⟨x4, hx4, hz4, hk4⟩ := hL2.at_ r (t + m) hr hkc
            rw [if_neg (by omega), hf0r] at hz1 hz4
            rw [if_neg (by omega), hf0i i _ hri] at hz2 hz3
            have hex := hrows i (t + m) hri hi
            rw [← hz1, ← hz2, ← hz3, ← hz4, ← hlz] at hex
            have v1 : a7h S2 (π' i) (fun k => Z (ZgI n B (t + 1) i k)) (t + (m + 1)) (π' r) t = x1.av := by rw [c3j hne]; exact hx1
            have v2 : a7h S2 (π' i) (fun k => Z (ZgI n B (t + 1) i k)) (t + (m + 1)) (π' i) (t + m) = x2.av := by rw [c3k (by omega)]; exact hx2
            have v3 : a7h S2 (π' i) (fun k => Z (ZgI n B (t + 1) i k)) (t + (m + 1)) (π' i) t = x3.av := by rw [c3k (by omega)]; exact hx3
            have v4 : a7h S2 (π' i) (fun k => Z (ZgI n B (t + 1) i k)) (t + (m + 1)) (π' r) (t + m) = x4.av := by rw [c3j hne]; exact hx4
            have hstep := d0f S2 (π' i) (fun k => Z (ZgI n B (t + 1) i k)) (t + m)
            have hclS : ∀ a b, Cl (a7h S2 (π' i) (fun k => Z (ZgI n B (t + 1) i k)) (t + m) a b) := c8A hL2.cl fun _ => Z_cl _
            have hm1 := b5b hk1.abs hk2.abs
            have hm2 := b5b hk3.abs hk4.abs
            have hs1 := d8v hm1 hm2
            rw [show t + (m + 1) = t + m + 1 by omega] at v1 v2 v3 v4 ⊢
            generalize a7h S2 (π' i) (fun k => Z (ZgI n B (t + 1) i k)) (t + m + 1) = St at *
            refine Safe.inLoop ?_
            refine Safe.rg rfl ?_
            simp only [a4o, hge, E3, seval]
            refine Safe.cd rfl ?_
            simp only [E3, seval]
            refine Safe.rg rfl ?_
            simp only [a8m, a4y, a1L, a2z, a2R, b5F hG hr, M_at hG hr, b5F hG hi, M_at hG hi, b7p hG hpr htc, E_at hG hpr htc, b7p hG hpi hkc, E_at hG hpi hkc, b7p hG hpi htc, E_at hG hpi htc, b7p hG hpr hkc, E_at hG hpr hkc, v1, v2, v3, v4, E3, seval]
            refine (a2a x1 x2 _ _ hk1 hk2 (by omega)).dcall ?_
            simp only [a4y, a1L, a2z, a2R, b5F hG hr, M_at hG hr, b5F hG hi, M_at hG hi, b7p hG hpi htc, E_at hG hpi htc, b7p hG hpr hkc, E_at hG hpr hkc, v3, v4, E3, seval]
            refine (a2a x3 x4 _ _ hk3 hk4 (by omega)).dcall ?_
            simp only [E3, seval]
            refine (c8y hm1 hm2 (by omega)).dcall ?_
            simp only [a4y, a1L, a2z, a2R, E3, seval]
            have hfl := a2Y (canZ (x1.z * x2.z - x3.z * x4.z)) lx (KB e + 1 + (KB e + 1) + 1) (a0z hs1) (hlk.mono (by omega)) (by omega) (ZgI n B (t + 1) i (t + m)) (by rw [hlz]; exact hl0) (by rw [a0y]; exact hex)
            rw [b5C] at hfl
            refine Safe.rg rfl ?_
            simp only [a8l, a4y, a1L, a2z, a2R, b5F hG hi, M_at hG hi, b7p hG hpi hkc, E3, seval]
            refine hfl.dcall ?_
            simp only [a4y, a1L, a2z, a2R, b7p hG hpi hkc, E3, seval]
            simp only [E_st hG hpi hkc (e2i _) (show (Z _).cells.length = 2 from rfl), hstep, E3, seval]
            refine Safe.rg rfl ?_
            simp only [a8k, hkw, E3, seval]
            refine Safe.keep [6, 8, 9, 10, 11, 12, 13, 15, 16, 21, 22] ?_
            simp only [E3, seval]
            have hnb2 : nref (lid G 2) (.mu β 0 n (some n)) = true := c3v (by unfold lid; omega)
            have hnb3 : nref (lid G 2) (.loc b0 0 0) = true := a0x.2 (.loc _ _ _ (by show b0 ≠ _; unfold lid; omega))
            refine Safe.dropM [some ⟨1, (gproc n B t).cs.map intV⟩, some ⟨2, [lx.av]⟩] (d3R hG hGr hL'.lt fun a b _ _ => hclS a b) (by show H.length ≤ _; exact hHn) (by simp only [List.all_cons, List.all_nil, hnb2, hnb3, E3, seval]) (RC.row b9R (RC.one (ZI.cl _) RC.nil)) ?_
            exact ihm
          · have hge : ((t : Int) - 1 ≥ (t : Int)) = False := eq_false (by omega)
            refine Safe.inLoop ?_
            refine Safe.rg rfl ?_
            simp only [a4o, hge, E3, seval]
            refine Safe.cd rfl ?_
            simp only [E3, seval]
            refine Safe.rg rfl ?_
            simp only [a8j, hiw, E3, seval]
            refine Safe.keep [6, 8, 9, 10, 11, 12, 13, 15, 21, 22] ?_
            simp only [E3, seval]
            refine ih2 (i + 1, _) ⟨Nat.lt_succ_of_lt hri, hi, hL2.lt, hL2.inj, fun a k ha hk => ?_, c8A hL2.cl fun _ => Z_cl _⟩ (by show n - (i + 1) < n - i; omega)
            show ∃ x : ZI, a7h S2 (π' i) (fun k => Z (ZgI n B (t + 1) i k)) t (π' a) k = x.av ∧ x.z = (if r < a ∧ a < i + 1 then ZgI n B (t + 1) a k else f0 a k) ∧ Zok (KB e + 1) x
            by_cases hai : a = i
            · subst hai
              rw [if_pos ⟨hri, Nat.lt_succ_self a⟩]
              by_cases hkt : t ≤ k
              · refine ⟨canZ (ZgI n B (t + 1) a k), ?_, a0y _, a0z (hZb a k ha)⟩
                unfold a7h; rw [if_pos ⟨rfl, hkt⟩, b5C]
              · obtain ⟨x, hx, hz, hk'⟩ := hL2.at_ a k ha hk
                rw [if_neg (by omega), hf0i a k hri, hzero a k hri ha (by omega)] at hz
                exact ⟨x, by rw [c3k (by omega)]; exact hx, hz, hk'⟩
            · obtain ⟨x, hx, hz, hk'⟩ := hL2.at_ a k ha hk
              refine ⟨x, by rw [c3j (fun h => hai (hL2.inj _ _ ha hi h))]; exact hx, ?_, hk'⟩
              rw [hz]
              by_cases h5 : r < a ∧ a < i
              · rw [if_pos h5, if_pos ⟨h5.1, by omega⟩]
              · rw [if_neg h5, if_neg (by omega)]
        · have hin' : i = n := by omega
          subst hin'
          refine Safe.rg rfl ?_
          simp only [a4p, c6A hG, Int.lt_irrefl, E3, seval]
          refine Safe.cd rfl ?_
          simp only [E3, seval]
          have hL3 : Lz i c (KB e + 1) π' S2 (ZgI i B (t + 1)) := by
            refine ⟨hL2.lt, hL2.inj, fun a k ha hk => ?_, hL2.cl⟩
            obtain ⟨x, hx, hz, hk'⟩ := hL2.at_ a k ha hk
            refine ⟨x, hx, ?_, hk'⟩
            rw [hz]
            rcases Nat.lt_trichotomy a r with h | h | h
            · rw [if_neg (by omega), hf0a a k h, hZab a k h]
            · subst h; rw [if_neg (by omega), hf0r, hZhd]
            · rw [if_pos ⟨h, ha⟩]
          obtain ⟨x1, hx1, hz1, hk1⟩ := hL3.at_ r t hr htc
          rw [hZhd, hlast1] at hz1
          have hnb2 : nref (lid G 0) (.mu β 0 i (some i)) = true := c3v (by unfold lid; omega)
          have hnb3 : nref (lid G 0) (.loc b0 0 0) = true := a0x.2 (.loc _ _ _ (by show b0 ≠ _; unfold lid; omega))
          refine Safe.rg rfl ?_
          simp only [a4n, a4y, a1L, a2z, a2R, b5F hG hr, M_at hG hr, b7p hG hpr htc, E_at hG hpr htc, hx1, E3, seval]
          have hRC : RC [some ⟨1, (gproc i B t).cs.map intV⟩, some ⟨2, [x1.av]⟩] := RC.row b9R (RC.one (ZI.cl _) RC.nil)
          refine Safe.rg rfl ?_
          simp only [a4m, E3, seval]
          have happ := fun env : Env => d7E (hHr hL3) (L := [some ⟨1, (gproc i B t).cs.map intV⟩, some ⟨2, [x1.av]⟩]) 0 (n0 := H.length) (Nat.le_trans hHn (a4h G 0)) (env := env) (wd := 1) (bytes := 8) (f := intV) (y := .int .i64 (t : Int)) b9R (gproc i B t).cs t hcsl.symm rfl hRC rfl (by omega) (by omega)
          simp only [ZI.av] at happ
          rw [happ]
          simp only [hnb2, hnb3, List.set_cons_succ, List.set_cons_zero, E3, seval]
          refine Safe.rg rfl ?_
          simp only [a2U, htw, E3, seval]
          refine Safe.keep [6, 8, 9, 10, 11, 21, 22] ?_
          simp only [E3, seval]
          have hfin := ih (t + 1, π', S2, x1) ⟨htc, hL3, hz1, hk1⟩ (by show c - (t + 1) < c - t; omega)
          simp only [hcs, a1t, hcsl] at hfin
          exact hfin
      -- the head's row
      refine Safe.lp rfl ?_
      refine Safe.keep [6, 8, 9, 10, 11, 12, 13, 14, 21, 22] ?_
      try simp only [E3, seval]
      refine Safe.loopN (p - r) (fun j => [(6, .loc b0 0 0), (8, .mu β 0 n (some n)), (9, .mu (lid G 0) 0 r none), (10, .loc (lid G 1) 0 0), (11, .bool (gproc n B t).odd), (12, .int .i64 t), (13, .int .i64 r), (14, .int .i64 ((r + j : Nat) : Int)), (21, .int .i64 c), (22, .int .i64 t)])
        (fun _ => hap (hM G β n 2 c (some c) π S1) [some ⟨1, (gproc n B t).cs.map intV⟩, some ⟨2, [lx.av]⟩]) rfl rfl (fun j hj2 ihj => ?_) ?_
      · have hq : r + j < n := by omega
        have hlt2 : (((r + j : Nat) : Int) < (n : Int)) = True := eq_true (by omega)
        have hpq := hL.lt (r + j) hq
        have hqw : IntKind.wrap .i64 (((r + j : Nat) : Int) + 1) = ((r + (j + 1) : Nat) : Int) := by rw [a0b] <;> omega
        obtain ⟨x, v4, hxz, hxk⟩ := entry (r + j) hq
        have hz : ZgI n B t (r + j) t = 0 := (hz0 _ (by omega) hq).2 (h4 _ (by omega) (by omega))
        rw [hz] at hxz
        refine Safe.inLoop ?_
        refine Safe.rg rfl ?_
        simp only [a2u, c6A hG, hlt2, b5F hG hq, M_at hG hq, b7p hG hpq htc, E_at hG hpq htc, v4, E3, seval]
        refine (a0K x (hxk.mono (by omega))).acall ?_
        simp only [hxz, Int.sign_zero, E3, seval]
        refine Safe.cd rfl ?_
        simp only [E3, seval]
        refine Safe.rg rfl ?_
        simp only [a4t, hqw, E3, seval]
        refine Safe.keep [6, 8, 9, 10, 11, 12, 13, 14, 21, 22] ?_
        simp only [E3, seval]
        refine Safe.inBlock ?_
        exact ihj
      · have hrp : r + (p - r) = p := by omega
        rw [hrp]
        have hlt2 : ((p : Int) < (n : Int)) = True := eq_true (by omega)
        have hpq := hL.lt p h2
        obtain ⟨x, v4, hxz, hxk⟩ := entry p h2
        have hz : (x.z.sign = 0) = False := eq_false (by rw [hxz, Int.sign_eq_zero_iff_zero, hz0 p h1 h2]; exact h3)
        have hpn : ((p : Int) = (n : Int)) = False := eq_false (by omega)
        refine Safe.inLoop ?_
        refine Safe.rg rfl ?_
        simp only [a2u, c6A hG, hlt2, b5F hG h2, M_at hG h2, b7p hG hpq htc, E_at hG hpq htc, v4, E3, seval]
        refine (a0K x (hxk.mono (by omega))).acall ?_
        simp only [hz, E3, seval]
        refine Safe.cd rfl ?_
        simp only [E3, seval]
        refine Safe.rg rfl ?_
        simp only [a4s, c6A hG, hpn, E3, seval]
        refine Safe.cd rfl ?_
        simp only [E3, seval]
        by_cases hpr : p = r
        · have hpr1 : ((p : Int) = (r : Int)) = True := eq_true (by omega)
          refine Safe.rg rfl ?_
          simp only [a4r, hpr1, E3, seval]
          refine Safe.cd rfl ?_
          simp only [E3, seval]
          refine Safe.keep [6, 8, 9, 10, 11, 12, 13, 21, 22] ?_
          simp only [E3, seval]
          have hm := main π (by
            refine ⟨hL.lt, hL.inj, fun a k ha hk => ?_, hL.cl⟩
            obtain ⟨x, hx, hz, hk'⟩ := hL.at_ a k ha hk
            refine ⟨x, hx, ?_, hk'⟩
            rw [hz]
            show _ = if a = p then ZgI n B t r k else if a = r then ZgI n B t p k else ZgI n B t a k
            split
            · rename_i h; rw [h, hpr]
            · split
              · rename_i h; omega
              · rfl)
          rw [hodd, if_pos hpr] at hm
          refine Safe.skip ?_
          exact hm
        · have hpr1 : ((p : Int) = (r : Int)) = False := eq_false (by omega)
          refine Safe.rg rfl ?_
          simp only [a4r, hpr1, E3, seval]
          refine Safe.cd rfl ?_
          simp only [E3, seval]
          refine Safe.rg rfl ?_
          simp only [a8p, b5F hG h2, M_at hG h2, b5F hG hr, M_at hG hr, E3, seval]
          simp only [M_st hG h2, b5F hG hr, M_st hG hr, e0R, E3, seval]
          refine Safe.rg rfl ?_
          simp only [a8o, E3, seval]
          refine Safe.keep [6, 8, 9, 10, 11, 12, 13, 21, 22] ?_
          simp only [E3, seval]
          have hm := main (swp π p r) (Lz.swap hL h2 hr)
          rw [hodd, if_neg hpr] at hm
          exact hm
    · -- no head in this column
      have hcs : gproc n B (t + 1) = gproc n B t := a0L hf
      generalize hcsl : (gproc n B t).cs.length = r at *
      refine Safe.lp rfl ?_
      refine Safe.keep [6, 8, 9, 10, 11, 12, 13, 14, 21, 22] ?_
      try simp only [E3, seval]
      refine Safe.loopN (n - r) (fun j => [(6, .loc b0 0 0), (8, .mu β 0 n (some n)), (9, .mu (lid G 0) 0 r none), (10, .loc (lid G 1) 0 0), (11, .bool (gproc n B t).odd), (12, .int .i64 t), (13, .int .i64 r), (14, .int .i64 ((r + j : Nat) : Int)), (21, .int .i64 c), (22, .int .i64 t)])
        (fun _ => hap (hM G β n 2 c (some c) π S1) [some ⟨1, (gproc n B t).cs.map intV⟩, some ⟨2, [lx.av]⟩]) rfl rfl (fun j hj2 ihj => ?_) ?_
      · have hq : r + j < n := by omega
        have hlt2 : (((r + j : Nat) : Int) < (n : Int)) = True := eq_true (by omega)
        have hpq := hL.lt (r + j) hq
        have hqw : IntKind.wrap .i64 (((r + j : Nat) : Int) + 1) = ((r + (j + 1) : Nat) : Int) := by rw [a0b] <;> omega
        obtain ⟨x, v4, hxz, hxk⟩ := entry (r + j) hq
        have hz : ZgI n B t (r + j) t = 0 := (hz0 _ (by omega) hq).2 (h4 _ (by omega) (by omega))
        rw [hz] at hxz
        refine Safe.inLoop ?_
        refine Safe.rg rfl ?_
        simp only [a2u, c6A hG, hlt2, b5F hG hq, M_at hG hq, b7p hG hpq htc, E_at hG hpq htc, v4, E3, seval]
        refine (a0K x (hxk.mono (by omega))).acall ?_
        simp only [hxz, Int.sign_zero, E3, seval]
        refine Safe.cd rfl ?_
        simp only [E3, seval]
        refine Safe.rg rfl ?_
        simp only [a4t, hqw, E3, seval]
        refine Safe.keep [6, 8, 9, 10, 11, 12, 13, 14, 21, 22] ?_
        simp only [E3, seval]
        refine Safe.inBlock ?_
        exact ihj
      · have hrp : r + (n - r) = n := by omega
        rw [hrp]
        refine Safe.inLoop ?_
        refine Safe.rg rfl ?_
        simp only [a2u, c6A hG, Int.lt_irrefl, E3, seval]
        refine Safe.cd rfl ?_
        simp only [E3, seval]
        refine Safe.rg rfl ?_
        simp only [a4s, c6A hG, E3, seval]
        refine Safe.cd rfl ?_
        simp only [E3, seval]
        refine Safe.rg rfl ?_
        simp only [a2U, htw, E3, seval]
        refine Safe.keep [6, 8, 9, 10, 11, 21, 22] ?_
        simp only [E3, seval]
        have hz1 : ZgI n B (t + 1) = ZgI n B t := by funext a k; unfold ZgI; rw [hcs]
        have hl1 : a8q n B (t + 1) = a8q n B t := by unfold a8q; rw [hcs]
        have hfin := ih (t + 1, π, S1, lx) ⟨htc, by rw [hz1]; exact hL, by rw [hl1]; exact hlz, hlk⟩ (by show c - (t + 1) < c - t; omega)
        simp only [hcs, hcsl] at hfin
        exact hfin
  · have htc' : t = c := by omega
    subst htc'
    refine Safe.rg rfl ?_
    simp only [a5p, Int.lt_irrefl, E3, seval]
    refine Safe.cd rfl ?_
    simp only [E3, seval]
    have hnb2 : frz (lid G 0) ⟨1, (gproc n B t).cs.map intV⟩ (.mu β 0 n (some n)) = .mu β 0 n (some n) := a6j (.mu _ _ _ _ (by show β ≠ _; unfold lid; omega))
    have hnb3 : frz (lid G 0) ⟨1, (gproc n B t).cs.map intV⟩ (.loc b0 0 0) = .loc b0 0 0 := a6j (.loc _ _ _ (by show b0 ≠ _; unfold lid; omega))
    have hcl : frz (lid G 0) ⟨1, (gproc n B t).cs.map intV⟩ (.mu (lid G 0) 0 (gproc n B t).cs.length none) = hsV (gproc n B t).cs := c2O (H := G) 0 1 intV _ none
    refine Safe.freezeM 0 (hHr hL) (by show H.length ≤ _; exact hHn) rfl (a1j 1 intV _ b9R) ?_
    refine Safe.keep [6, 8, 9, 10, 11] ?_
    simp only [hnb2, hnb3, hcl, a0E, ZI.av_frz, E3, seval]
    refine Safe.rg rfl ?_
    simp only [a2T, a4y, a1L, a2z, a2R, E3, seval]
    have hbox' : (G.set b0 (some ⟨2, [.agg [.bool lx.neg, natV lx.mag]]⟩))[b0]? = some (some ⟨2, [.agg [.bool lx.neg, natV lx.mag]]⟩) := by
      rw [List.getElem?_set]; simp; omega
    have hG' : β + n < (G.set b0 (some ⟨2, [.agg [.bool lx.neg, natV lx.mag]]⟩)).length := by rw [List.length_set]; exact hG
    simp only [e0S hG hb01 hbox (show (AV.agg [.bool lx.neg, natV lx.mag]).fit = true from rfl) (show (AV.agg [.bool lx.neg, natV lx.mag]).cells.length = 2 from rfl), E3, seval]
    refine Safe.rt rfl ?_
    simp only [e2e hG' hb01 hbox', E3, seval]
    obtain ⟨L0, hL0⟩ := hGH
    have hH1 : a0S (hM (G.set b0 (some ⟨2, [.agg [.bool lx.neg, natV lx.mag]]⟩)) β n 2 t (some t) π S1) := by
      have e := d2t (L := []) (O := orow β n t (some t) π) (R := fun j => some ⟨2, fr t (S1 j)⟩) hG hb01 (some ⟨2, [.agg [.bool lx.neg, natV lx.mag]]⟩)
      rw [a2X, a2X] at e
      unfold hM
      rw [← e]
      refine a0S.set (hHr hL) b0 fun a ha => ?_
      have := RC.one (wd := 2) (ZI.cl lx) RC.nil ⟨2, [lx.av]⟩ (by simp) a ha
      exact this.ref
    have hGs : G.set b0 (some ⟨2, [.agg [.bool lx.neg, natV lx.mag]]⟩) = hap H (L0.set 0 (some ⟨2, [.agg [.bool lx.neg, natV lx.mag]]⟩)) := by
      rw [hL0, hbl]
      simp only [hap]
      rw [List.set_append_right _ _ (Nat.le_refl _), Nat.sub_self]
    refine ⟨β, π, S1, L0.set 0 (some ⟨2, [.agg [.bool lx.neg, natV lx.mag]]⟩) ++ [none, some ⟨2, [lx.av]⟩], lx, hL, hb0, ?_, ?_, ?_, hlz, hlk, rfl⟩
    · have : G.length = H.length + L0.length := by rw [hL0]; simp [hap]
      simp [hap]; omega
    · rw [e1F _ _ _ _ _ _ _ _ _ hG', hGs, a6c]
    · exact d3M hH1 (RC.none (RC.one (ZI.cl _) RC.nil))
end
end Go.Abs
namespace Go.Abs
/-- A matrix's entries as fractions. -/
def Bm (b : List (List ZI)) : Nat → Nat → Rat := fun a k => (zg (mg b a) k : Int)
theorem b5L {b : List (List ZI)} {e : Nat} (h : Mok e b) : Bd e (Bm b) := fun a k => ⟨zg (mg b a) k, rfl, Nat.le_of_lt ((h.row a).abs k)⟩
/-- The determinant. -/
def detI (n : Nat) (B : Nat → Nat → Rat) : Int := (dv n B n).num
def b0s (n c : Nat) (B : Nat → Nat → Rat) : Nat := (gproc n B c).cs.length
theorem c2K (H : Heap) (cs : List Nat) : lenV H (hsV cs) = some (.int .i64 cs.length) := d2h H 1 intV cs
theorem d5B (n c : Nat) (B : Nat → Nat → Rat) : b0s n c B ≤ c := a6W n B c
section
variable (b : List (List ZI)) {e n c : Nat} (hm : Mok e b) (hn : b.length = n) (hn64 : n ≤ 64) (hK : KB e + 1 < 1099511627776)
include hm hn hn64 hK
theorem b0l (hb : ∀ i, (h : i < b.length) → b[i].length = n) : a0f Pr a7f [matV b] (Z (detI n (Bm b))) := by
  have hB := b5L hm
  obtain ⟨hlq, hlb⟩ := c3K (Bm b) hB hn64 n
  have hrl := d5B n n (Bm b)
  unfold b0s at hrl
  refine a0f.introL c8b c8a (Nat.le_of_ble_eq_true rfl) (Z_cl _) fun H hH => ?_
  refine Safe.rg rfl ?_
  simp only [c0h, E3, seval]
  refine Safe.rg rfl ?_
  simp only [c0g, hn, E3, seval]
  refine Safe.rg rfl ?_
  simp only [c0f, E3, seval]
  refine (a8a b (Bm b) hb (fun _ _ => rfl) hm hB hn hn64 (by omega) hK (hap H [some ⟨2, [.agg [.bool false, .nil]]⟩])).mono ?_
  rintro r' H' ⟨β, π, S, L, lx, hLz, hβ, hβn, rfl, hHr, hlz, hlk, rfl⟩
  obtain ⟨L', hL'⟩ := d7Z (w := 2) (c := n) (oc := some n) (π := π) (S := S) hβ hβn
  rw [hL']
  have hA0 : (hap (hap H [some ⟨2, [.agg [.bool false, .nil]]⟩]) L')[lid H 0]? = some (some ⟨2, [.agg [.bool false, .nil]]⟩) := by
    simp [hap, lid]
  have hAH : ∃ L, hap (hap H [some ⟨2, [.agg [.bool false, .nil]]⟩]) L' = hap H L := ⟨_, a6c _ _ _⟩
  clear hL' hHr hβn hβ
  rw [← a2X (hap (hap H _) L')]
  generalize hap (hap H [some ⟨2, [.agg [.bool false, .nil]]⟩]) L' = A at *
  simp only [E3, seval]
  refine Safe.rg rfl ?_
  simp only [c0e, c2K, E3, seval]
  have hfinal : ∀ v : AV, v.fit = true → v.cells.length = 2 → ∀ L : Heap, ∃ L2, hap (A.set (lid H 0) (some ⟨2, [v]⟩)) L = hap H L2 := by
    intro v _ _ L
    obtain ⟨L0, hL0⟩ := hAH
    rw [hL0, a3D]; exact ⟨_, a6c _ _ _⟩
  have hld : ∀ v : AV, ∀ L : Heap, atV (hap (A.set (lid H 0) (some ⟨2, [v]⟩)) L) (.loc (lid H 0) 0 0) = some v.cells := by
    intro v L
    have hlt := a0h hA0
    exact lat (b := ⟨2, [v]⟩) (by rw [List.getElem?_set]; simp [hlt]) (by simp)
  by_cases hlt : (gproc n (Bm b) n).cs.length < n
  · have hc : (((gproc n (Bm b) n).cs.length : Int) < (n : Int)) = True := eq_true (by omega)
    simp only [hc, E3, seval]
    refine Safe.cd rfl ?_
    simp only [E3, seval]
    refine Safe.rg rfl ?_
    simp only [c0d, E3, seval]
    rw [lst hA0 (by simp) rfl rfl]
    simp only [E3, seval]
    refine Safe.rt rfl ?_
    simp only [hld, E3, seval]
    refine ⟨?_, hfinal (.agg [.bool false, .nil]) rfl rfl _⟩
    have : detI n (Bm b) = 0 := by unfold detI dv; rw [if_neg (by omega)]; rfl
    rw [this]; exact le_zero
  · have hc : (((gproc n (Bm b) n).cs.length : Int) < (n : Int)) = False := eq_false (by omega)
    simp only [hc, E3, seval]
    refine Safe.cd rfl ?_
    simp only [E3, seval]
    refine Safe.rg rfl ?_
    simp only [c0c, E3, seval]
    have hdet : detI n (Bm b) = if (gproc n (Bm b) n).odd then -a8q n (Bm b) n else a8q n (Bm b) n := by
      unfold detI dv a8q
      rw [if_pos (by omega)]
      split
      · exact Rat.neg_num _
      · rfl
    cases ho : (gproc n (Bm b) n).odd
    · rw [ho] at hdet
      refine Safe.cd rfl ?_
      simp only [E3, seval]
      refine Safe.rg rfl ?_
      simp only [c0a, E3, seval]
      refine (b4B lx (hlk.mono (by omega))).acall ?_
      simp only [Z, E3, seval]
      rw [lst hA0 (by simp) rfl rfl]
      simp only [E3, seval]
      refine Safe.rt rfl ?_
      simp only [hld, E3, seval]
      refine ⟨?_, hfinal (Z lx.z) rfl rfl _⟩
      rw [hdet, hlz]
      exact Le.refl _
    · rw [ho] at hdet
      refine Safe.cd rfl ?_
      simp only [E3, seval]
      refine Safe.rg rfl ?_
      simp only [c0b, E3, seval]
      refine (a8r lx (hlk.mono (by omega))).acall ?_
      simp only [Z, E3, seval]
      rw [lst hA0 (by simp) rfl rfl]
      simp only [E3, seval]
      refine Safe.rt rfl ?_
      simp only [hld, E3, seval]
      refine ⟨?_, hfinal (Z (-lx.z)) rfl rfl _⟩
      rw [hdet, hlz]
      exact Le.refl _
end
/-- The error of a matrix. -/
noncomputable def elE (b : List (List ZI)) : Int := @ite _ (Rect b) (Classical.propDecidable _) (if b.length > 64 ∨ wid b > 64 then 60 else 0) 8
theorem b4r (b : List (List ZI)) : (¬ Rect b ∧ elE b = 8) ∨ (Rect b ∧ (b.length > 64 ∨ wid b > 64) ∧ elE b = 60) ∨ (Rect b ∧ b.length ≤ 64 ∧ wid b ≤ 64 ∧ elE b = 0) := by
  unfold elE
  by_cases h : Rect b
  · by_cases h2 : b.length > 64 ∨ wid b > 64
    · exact .inr (.inl ⟨h, h2, by rw [if_pos h, if_pos h2]⟩)
    · exact .inr (.inr ⟨h, by omega, by omega, by rw [if_pos h, if_neg h2]⟩)
  · exact .inl ⟨h, by rw [if_neg h]⟩
noncomputable def askT (b : List (List ZI)) : AV := if elE b = 0 then .tup [.int .i64 b.length, .int .i64 (wid b), .int .i64 0] else .tup [.int .i64 0, .int .i64 0, .int .i64 (elE b)]
section
variable (b : List (List ZI)) {e : Nat} (hm : Mok e b)
include hm
theorem a1w : a0f Pr a3g [matV b] (askT b) := by
  have hw : wid b ≤ 2097152 := (hm.row 0).len
  rcases b4r b with ⟨hr, he⟩ | ⟨hr, h2, he⟩ | ⟨hr, h2, h3, he⟩
  · unfold askT
    rw [he, if_neg (by decide)]
    refine a0f.intro a7Q a7P (Nat.le_of_ble_eq_true rfl) (cl3i _ _ _) fun H hH => ?_
    refine Safe.rg rfl ?_
    simp only [a4K, E3, seval]
    refine Safe.rg rfl ?_
    simp only [a4J, E3, seval]
    first | refine (c2B b e hm hr).acall ?_ | refine (c2B b e hm hr).dcall ?_
    try simp only [E3, seval]
    refine Safe.rg rfl ?_
    simp only [a4I, E3, seval]
    refine Safe.cd rfl ?_
    simp only [E3, seval]
    refine Safe.rg rfl ?_
    simp only [b3Y, E3, seval]
    refine Safe.rt rfl ?_
    simp only [one3, E3, seval]
    first | exact ⟨rfl, _, rfl⟩ | exact ⟨_, rfl⟩ | exact ⟨trivial, _, rfl⟩
  · unfold askT
    rw [he, if_neg (by decide)]
    refine a0f.intro a7Q a7P (Nat.le_of_ble_eq_true rfl) (cl3i _ _ _) fun H hH => ?_
    refine Safe.rg rfl ?_
    simp only [a4K, E3, seval]
    refine Safe.rg rfl ?_
    simp only [a4J, E3, seval]
    first | refine (a2K b e hm hr).acall ?_ | refine (a2K b e hm hr).dcall ?_
    try simp only [E3, seval]
    refine Safe.rg rfl ?_
    simp only [a4I, E3, seval]
    refine Safe.cd rfl ?_
    simp only [E3, seval]
    by_cases h : b.length > 64
    · have hc : ((b.length : Int) > 64) = True := eq_true (by omega)
      refine Safe.rg rfl ?_
      simp only [a4H, hc, E3, seval]
      refine Safe.cd rfl ?_
      simp only [E3, seval]
      refine Safe.rg rfl ?_
      simp only [a7O, E3, seval]
      refine Safe.rt rfl ?_
      simp only [one3, E3, seval]
      first | exact ⟨rfl, _, rfl⟩ | exact ⟨_, rfl⟩ | exact ⟨trivial, _, rfl⟩
    · have hc : ((b.length : Int) > 64) = False := eq_false (by omega)
      have hc2 : ((wid b : Int) > 64) = True := eq_true (by omega)
      refine Safe.rg rfl ?_
      simp only [a4H, hc, hc2, E3, seval]
      refine Safe.cd rfl ?_
      simp only [E3, seval]
      refine Safe.rg rfl ?_
      simp only [a7O, E3, seval]
      refine Safe.rt rfl ?_
      simp only [one3, E3, seval]
      first | exact ⟨rfl, _, rfl⟩ | exact ⟨_, rfl⟩ | exact ⟨trivial, _, rfl⟩
  · unfold askT
    rw [he, if_pos rfl]
    have hc : ((b.length : Int) > 64) = False := eq_false (by omega)
    have hc2 : ((wid b : Int) > 64) = False := eq_false (by omega)
    refine a0f.intro a7Q a7P (Nat.le_of_ble_eq_true rfl) (cl3i _ _ _) fun H hH => ?_
    refine Safe.rg rfl ?_
    simp only [a4K, E3, seval]
    refine Safe.rg rfl ?_
    simp only [a4J, E3, seval]
    first | refine (a2K b e hm hr).acall ?_ | refine (a2K b e hm hr).dcall ?_
    try simp only [E3, seval]
    refine Safe.rg rfl ?_
    simp only [a4I, E3, seval]
    refine Safe.cd rfl ?_
    simp only [E3, seval]
    refine Safe.rg rfl ?_
    simp only [a4H, hc, hc2, E3, seval]
    refine Safe.cd rfl ?_
    simp only [E3, seval]
    refine Safe.rg rfl ?_
    simp only [b3X, E3, seval]
    refine Safe.rt rfl ?_
    simp only [one3, E3, seval]
    first | exact ⟨rfl, _, rfl⟩ | exact ⟨_, rfl⟩ | exact ⟨trivial, _, rfl⟩
end
/-- Square matrices only. -/
noncomputable def sqE (b : List (List ZI)) : Int := if elE b = 0 then (if b.length = wid b then 0 else 8) else elE b
noncomputable def sqT (b : List (List ZI)) : AV := .tup [.int .i64 (if elE b = 0 then (b.length : Int) else 0), .int .i64 (sqE b)]
theorem b7t {b : List (List ZI)} (h : sqE b = 0) : elE b = 0 ∧ b.length = wid b := by
  unfold sqE at h
  split at h
  · rename_i h0
    split at h
    · exact ⟨h0, by assumption⟩
    · exact absurd h (by decide)
  · exact absurd h (by assumption)
theorem b1Y {b : List (List ZI)} (h : sqE b = 0) : b.length ≤ 64 ∧ ∀ i, (h : i < b.length) → b[i].length = b.length := by
  obtain ⟨h0, hw⟩ := b7t h
  rcases b4r b with ⟨_, h⟩ | ⟨_, _, h⟩ | ⟨hr, h2, h3, _⟩
  · omega
  · omega
  · refine ⟨h2, fun i hi => ?_⟩
    have := hr i hi
    rw [a5A hi] at this
    rw [this, hw]; rfl
theorem a2J {b : List (List ZI)} (h : elE b = 0) : b.length ≤ 64 ∧ wid b ≤ 64 ∧ Rect b ∧ ∀ i, (h : i < b.length) → b[i].length = wid b := by
  rcases b4r b with ⟨_, h⟩ | ⟨_, _, h⟩ | ⟨hr, h2, h3, _⟩
  · omega
  · omega
  · refine ⟨h2, h3, hr, fun i hi => ?_⟩
    have := hr i hi
    rw [a5A hi] at this
    exact this
theorem cl2i (a b : Int) : Cl (.tup [.int .i64 a, .int .i64 b]) := a6F (.int _ _) (.int _ _)
section
variable (b : List (List ZI)) {e : Nat} (hm : Mok e b)
include hm
theorem a7j : a0f Pr a4P [matV b] (sqT b) := by
  have hask := a1w b hm
  unfold sqT askT at *
  by_cases h0 : elE b = 0
  · rw [if_pos h0] at hask ⊢
    by_cases hw : b.length = wid b
    · have hs : sqE b = 0 := by unfold sqE; rw [if_pos h0, if_pos hw]
      have hwi : (b.length : Int) = (wid b : Int) := by omega
      rw [hs]
      rw [← hwi] at hask
      refine a0f.intro a6s a6r (Nat.le_of_ble_eq_true rfl) (cl2i _ _) fun H hH => ?_
      refine Safe.rg rfl ?_
      simp only [a3S, E3, seval]
      refine Safe.rg rfl ?_
      simp only [a3R, E3, seval]
      first | refine (hask).acall ?_ | refine (hask).dcall ?_
      try simp only [E3, seval]
      refine Safe.rg rfl ?_
      simp only [a3Q, E3, seval]
      refine Safe.cd rfl ?_
      simp only [E3, seval]
      refine Safe.rg rfl ?_
      simp only [a3P, E3, seval]
      refine Safe.rt rfl ?_
      simp only [E3, seval]
      first | exact ⟨rfl, _, rfl⟩ | exact ⟨_, rfl⟩ | exact ⟨trivial, _, rfl⟩
    · have hs : sqE b = 8 := by unfold sqE; rw [if_pos h0, if_neg hw]
      have hwi : ((b.length : Int) = (wid b : Int)) = False := eq_false (by omega)
      rw [hs]
      refine a0f.intro a6s a6r (Nat.le_of_ble_eq_true rfl) (cl2i _ _) fun H hH => ?_
      refine Safe.rg rfl ?_
      simp only [a3S, E3, seval]
      refine Safe.rg rfl ?_
      simp only [a3R, E3, seval]
      first | refine (hask).acall ?_ | refine (hask).dcall ?_
      try simp only [E3, seval]
      refine Safe.rg rfl ?_
      simp only [a3Q, hwi, E3, seval]
      refine Safe.cd rfl ?_
      simp only [E3, seval]
      refine Safe.rg rfl ?_
      simp only [b1l, E3, seval]
      refine Safe.rg rfl ?_
      simp only [a3P, E3, seval]
      refine Safe.rt rfl ?_
      simp only [E3, seval]
      first | exact ⟨rfl, _, rfl⟩ | exact ⟨_, rfl⟩ | exact ⟨trivial, _, rfl⟩
  · rw [if_neg h0] at hask ⊢
    have hs : sqE b = elE b := by unfold sqE; rw [if_neg h0]
    have h0' : (elE b = 0) = False := eq_false h0
    rw [hs]
    refine a0f.intro a6s a6r (Nat.le_of_ble_eq_true rfl) (cl2i _ _) fun H hH => ?_
    refine Safe.rg rfl ?_
    simp only [a3S, E3, seval]
    refine Safe.rg rfl ?_
    simp only [a3R, E3, seval]
    first | refine (hask).acall ?_ | refine (hask).dcall ?_
    try simp only [E3, seval]
    refine Safe.rg rfl ?_
    simp only [a3Q, h0', E3, seval]
    refine Safe.cd rfl ?_
    simp only [E3, seval]
    refine Safe.rg rfl ?_
    simp only [a3P, E3, seval]
    refine Safe.rt rfl ?_
    simp only [E3, seval]
    first | exact ⟨rfl, _, rfl⟩ | exact ⟨_, rfl⟩ | exact ⟨trivial, _, rfl⟩
end
end Go.Abs
namespace Go.Abs
section
variable (b : List (List ZI)) {e : Nat} (hm : Mok e b) (hK : KB e + 1 < 1099511627776)
include hm hK
theorem b2b (h0 : elE b = 0) : a0f Pr a5z [matV b] (.tup [.int .i64 (b0s b.length (wid b) (Bm b)), .int .i64 0]) := by
  obtain ⟨hn, hw, hr, hrows⟩ := a2J h0
  have hask := a1w b hm
  unfold askT at hask
  rw [if_pos h0] at hask
  refine a0f.intro b6T b6S (Nat.le_of_ble_eq_true rfl) (cl2i _ _) fun H hH => ?_
  refine Safe.rg rfl ?_
  simp only [a9I, E3, seval]
  refine Safe.rg rfl ?_
  simp only [a9H, E3, seval]
  first | refine (hask).acall ?_ | refine (hask).dcall ?_
  try simp only [E3, seval]
  refine Safe.rg rfl ?_
  simp only [a9G, E3, seval]
  refine Safe.cd rfl ?_
  simp only [E3, seval]
  refine Safe.rg rfl ?_
  simp only [b6Q, E3, seval]
  refine (a8a b (Bm b) hrows (fun _ _ => rfl) hm (b5L hm) rfl hn (by omega) hK (hap H [])).mono ?_
  rintro r' H' ⟨β, π, S, L, lx, hLz, hβ, hβn, rfl, hHr, hlz, hlk, rfl⟩
  obtain ⟨L', hL'⟩ := d7Z (w := 2) (c := wid b) (oc := some (wid b)) (π := π) (S := S) hβ hβn
  rw [hL']
  have hAH : ∃ L, hap (hap H []) L' = hap H L := ⟨_, a6c _ _ _⟩
  rw [← a2X (hap (hap H []) L')]
  generalize hap (hap H []) L' = A at *
  simp only [E3, seval]
  refine Safe.rg rfl ?_
  simp only [b6P, c2K, E3, seval]
  refine Safe.rt rfl ?_
  simp only [E3, seval]
  obtain ⟨L0, rfl⟩ := hAH
  exact ⟨rfl, _, a6c _ _ _⟩
omit hK in
theorem c8K (h0 : elE b ≠ 0) : a0f Pr a5z [matV b] (.tup [.int .i64 0, .int .i64 (elE b)]) := by
  have hask := a1w b hm
  unfold askT at hask
  rw [if_neg h0] at hask
  have h0' : (elE b = 0) = False := eq_false h0
  refine a0f.intro b6T b6S (Nat.le_of_ble_eq_true rfl) (cl2i _ _) fun H hH => ?_
  refine Safe.rg rfl ?_
  simp only [a9I, E3, seval]
  refine Safe.rg rfl ?_
  simp only [a9H, E3, seval]
  first | refine (hask).acall ?_ | refine (hask).dcall ?_
  try simp only [E3, seval]
  refine Safe.rg rfl ?_
  simp only [a9G, h0', E3, seval]
  refine Safe.cd rfl ?_
  simp only [E3, seval]
  refine Safe.rg rfl ?_
  simp only [b6R, E3, seval]
  refine Safe.rt rfl ?_
  simp only [E3, seval]
  first | exact ⟨rfl, _, rfl⟩ | exact ⟨_, rfl⟩ | exact ⟨trivial, _, rfl⟩
omit hK in
theorem e1X (n : Nat) (hn : n ≤ 64) : (dv n (Bm b) n).num = detI n (Bm b) ∧ (detI n (Bm b)).natAbs ≤ LB ^ KB e := by
  obtain ⟨z, hz, hz1⟩ := e1W (b5L hm) n (.inl hn)
  refine ⟨rfl, ?_⟩
  unfold detI
  rw [(a7m hz).1]; exact hz1
theorem d8X (h0 : sqE b = 0) : a0f Pr b5K [matV b] (.tup [Z (detI b.length (Bm b)), .int .i64 0]) := by
  obtain ⟨hn, hrows⟩ := b1Y h0
  have hsq := a7j b hm
  unfold sqT at hsq
  rw [if_pos (b7t h0).1, h0] at hsq
  refine a0f.intro c8g c8f (Nat.le_of_ble_eq_true rfl) (a6F (Z_cl _) (.int _ _)) fun H hH => ?_
  refine Safe.rg rfl ?_
  simp only [c0p, E3, seval]
  refine Safe.rg rfl ?_
  simp only [c0o, E3, seval]
  first | refine (hsq).acall ?_ | refine (hsq).dcall ?_
  try simp only [E3, seval]
  refine Safe.rg rfl ?_
  simp only [c0n, E3, seval]
  refine Safe.cd rfl ?_
  simp only [E3, seval]
  refine Safe.rg rfl ?_
  simp only [c0m, E3, seval]
  first | refine (b0l b hm rfl hn hK hrows).acall ?_ | refine (b0l b hm rfl hn hK hrows).dcall ?_
  try simp only [E3, seval]
  simp only [Z, E3, seval]
  refine Safe.rt rfl ?_
  simp only [E3, seval]
  first | exact ⟨rfl, _, rfl⟩ | exact ⟨_, rfl⟩ | exact ⟨trivial, _, rfl⟩
end
end Go.Abs
namespace Go.Abs
theorem b5p : KB 1048576 + 1 < 1099511627776 := by decide
theorem d4o {b : List (List ZI)} {e n : Nat} (hb : Mok e b) (hn : n ≤ 64) (hK : KB e + 1 < 1099511627776) : (detI n (Bm b)).natAbs < LB ^ (KB e + 1) := by
  have h := (e1X b hb n hn).2
  have : LB ^ KB e < LB ^ (KB e + 1) := Nat.pow_lt_pow_right (by decide) (by omega)
  omega
theorem c9t {z : Int} {k : Nat} (h : z.natAbs < LB ^ k) (hk : k ≤ 17592186044416) : a0f Pr a7e [Z z, Z z] (.bool true) := by
  have := d9P (canZ z) ((a0z h).mono hk)
  rwa [b5C] at this
end Go.Abs
namespace Go.Abs
theorem Vok.take {k : Nat} {v : List ZI} (h : Vok k v) (n : Nat) : Vok k (v.take n) := ⟨by rw [List.length_take]; have := h.len; omega, fun x hx => h.el x (List.mem_of_mem_take hx)⟩
/-- The first square of a size. -/
def sub (b : List (List ZI)) (k : Nat) : List (List ZI) := mat k fun i => (mg b i).take k
theorem d8y {w : List (List ZI)} {k : Nat} (hl : w.length = k) (hrow : ∀ i, (h : i < w.length) → w[i].length = k) (hk : k ≤ 64) : sqE w = 0 := by
  have hr : Rect w := fun i hi => by rw [a5A hi, a5A (by omega), hrow i hi, hrow 0 (by omega)]
  have hw : wid w = k := by
    rcases Nat.eq_zero_or_pos k with h | h
    · subst h
      have : w = [] := List.length_eq_zero_iff.1 hl
      subst this; rfl
    · unfold wid; rw [a5A (by omega), hrow 0 (by omega)]
  rcases b4r w with ⟨h, _⟩ | ⟨_, h, _⟩ | ⟨_, _, _, h⟩
  · exact absurd hr h
  · omega
  · unfold sqE; rw [if_pos h, if_pos (by omega)]
end Go.Abs
namespace Go.Abs
def e0a (b : List (List ZI)) (v : List ZI) : List ZI := vec b.length fun i => detI b.length (Bm (b.set i v))
theorem c3x {b : List (List ZI)} {v : List ZI} {e : Nat} (h : Mok e b) (hv : Vok e v) (i : Nat) : Mok e (b.set i v) := ⟨by rw [List.length_set]; exact h.len, fun x hx => by
  rcases List.mem_or_eq_of_mem_set hx with h' | h'
  · exact h.el x h'
  · rw [h']; exact hv⟩
theorem c8I {b : List (List ZI)} {v : List ZI} {n : Nat} (hb : ∀ i, (h : i < b.length) → b[i].length = n) (hv : v.length = n) (t : Nat) : ∀ i, (h : i < (b.set t v).length) → (b.set t v)[i].length = n := by
  intro i hi
  rw [List.getElem_set]
  split
  · exact hv
  · exact hb i (by simpa using hi)
theorem cl3v (v : List ZI) (z : Int) (a : Int) : Cl (.tup [vecV v, Z z, .int .i64 a]) := c4r (a0d _) (Z_cl _) (.int _ _)
theorem bad3 (a : Int) : Le (.tup [.nil, .agg [.bool false, .nil], .int .i64 a]) (.tup [vecV [], Z 0, .int .i64 a]) := Le.tup3 (Le.nil 2 (by decide)) le_zero (Le.refl _)
theorem c8r {H L : Heap} {n0 : Nat} {env : Env} (b : List (List ZI)) (h : b.length ≤ 64) : appV n0 1 24 false .nil (matV b) env (hap H L) = some (.mu (lid H L.length) 0 b.length none, env, hap H (L ++ [some ⟨1, b.map vecV⟩])) := by
  have := c9L (H := H) (L := L) n0 env 1 24 false (matV b) (b.map vecV) (by simp [a0N, matV]) (by decide) (by simp; omega) (by simp; omega)
  simpa using this
section
variable (b : List (List ZI)) (v : List ZI) {e : Nat} (hm : Mok e b) (hv : Vok e v) (hK : KB e + 1 < 1099511627776)
include hm hv hK
omit hv hK in
theorem c7e (h0 : sqE b ≠ 0) : a0f Pr a2F [matV b, vecV v] (.tup [vecV [], Z 0, .int .i64 (sqE b)]) := by
  have hsq := a7j b hm
  unfold sqT at hsq
  have h0' : (sqE b = 0) = False := eq_false h0
  refine a0f.introL a6D a6C (Nat.le_of_ble_eq_true rfl) (cl3v _ _ _) fun H hH => ?_
  refine Safe.rg rfl ?_
  simp only [a4c, E3, seval]
  refine Safe.rg rfl ?_
  simp only [a4b, E3, seval]
  first | refine (hsq).acall ?_ | refine (hsq).dcall ?_
  try simp only [E3, seval]
  refine Safe.rg rfl ?_
  simp only [a4a, h0', E3, seval]
  refine Safe.cd rfl ?_
  simp only [E3, seval]
  refine Safe.rg rfl ?_
  simp only [b1U, E3, seval]
  refine Safe.rt rfl ?_
  simp only [one3, E3, seval]
  exact ⟨bad3 _, _, rfl⟩
omit hv hK in
theorem c7d (h0 : sqE b = 0) (hl : v.length ≠ b.length) : a0f Pr a2F [matV b, vecV v] (.tup [vecV [], Z 0, .int .i64 8]) := by
  have hsq := a7j b hm
  unfold sqT at hsq
  rw [if_pos (b7t h0).1, h0] at hsq
  have hl' : ((v.length : Int) = (b.length : Int)) = False := eq_false (by omega)
  refine a0f.introL a6D a6C (Nat.le_of_ble_eq_true rfl) (cl3v _ _ _) fun H hH => ?_
  refine Safe.rg rfl ?_
  simp only [a4c, E3, seval]
  refine Safe.rg rfl ?_
  simp only [a4b, E3, seval]
  first | refine (hsq).acall ?_ | refine (hsq).dcall ?_
  try simp only [E3, seval]
  refine Safe.rg rfl ?_
  simp only [a4a, E3, seval]
  refine Safe.cd rfl ?_
  simp only [E3, seval]
  refine Safe.rg rfl ?_
  simp only [a6B, hl', E3, seval]
  refine Safe.cd rfl ?_
  simp only [E3, seval]
  refine Safe.rg rfl ?_
  simp only [b1T, E3, seval]
  refine Safe.rt rfl ?_
  simp only [one3, E3, seval]
  exact ⟨bad3 _, _, rfl⟩
theorem d0y (h0 : sqE b = 0) (hl : v.length = b.length) : a0f Pr a2F [matV b, vecV v] (.tup [vecV (e0a b v), Z (detI b.length (Bm b)), .int .i64 0]) := by
  obtain ⟨hn, hrows⟩ := b1Y h0
  have hsq := a7j b hm
  unfold sqT at hsq
  rw [if_pos (b7t h0).1, h0] at hsq
  have hl' : ((v.length : Int) = (b.length : Int)) = True := eq_true (by omega)
  refine a0f.intro a6D a6C (Nat.le_of_ble_eq_true rfl) (cl3v _ _ _) fun H hH => ?_
  refine Safe.rg rfl ?_
  simp only [a4c, E3, seval]
  refine Safe.rg rfl ?_
  simp only [a4b, E3, seval]
  first | refine (hsq).acall ?_ | refine (hsq).dcall ?_
  try simp only [E3, seval]
  refine Safe.rg rfl ?_
  simp only [a4a, E3, seval]
  refine Safe.cd rfl ?_
  simp only [E3, seval]
  refine Safe.rg rfl ?_
  simp only [a6B, hl', E3, seval]
  refine Safe.cd rfl ?_
  simp only [E3, seval]
  refine Safe.rg rfl ?_
  simp only [b1S, E3, seval]
  refine Safe.nilrow 9 2 (by decide) (by simp only [E3, seval]) ?_
  refine Safe.rg rfl ?_
  simp only [b1R, E3, seval]
  refine Safe.lp rfl ?_
  refine Safe.keep [0, 1, 5, 9, 26, 27] ?_
  try simp only [E3, seval]
  refine Safe.loopN (b.length) (fun i => [(0, matV b), (1, vecV v), (5, .loc (lid H 0) 0 0), (9, .mu (lid H 1) 0 i none), (26, .int .i64 b.length), (27, .int .i64 i)]) (fun i => hap H [some ⟨2, [.agg [.bool false, .nil]]⟩, some ⟨2, (vec i fun i => detI b.length (Bm (b.set i v))).map ZI.av⟩]) rfl rfl (fun i hi ih => ?_) ?_
  · have hlt : ((i : Int) < (b.length : Int)) = True := eq_true (by omega)
    have hiw : IntKind.wrap .i64 ((i : Int) + 1) = ((i + 1 : Nat) : Int) := by rw [a0b] <;> omega
    refine Safe.inLoop ?_
    refine Safe.rg rfl ?_
    simp only [a6A, hlt, E3, seval]
    refine Safe.cd rfl ?_
    simp only [E3, seval]
    refine Safe.rg rfl ?_
    simp only [b1Q, E3, seval]
    refine Safe.rg rfl ?_
    simp only [a9Q, E3, seval]
    rw [c8r b hn]
    simp only [E3, seval]
    have hst := fun env : Env => a3d env H [some ⟨2, [.agg [.bool false, .nil]]⟩, some ⟨2, (vec i fun i => detI b.length (Bm (b.set i v))).map ZI.av⟩, some ⟨1, b.map vecV⟩] 1 2 i 0 (vecV v) rfl (by simp; exact hi) rfl rfl (Nat.le_refl 1)
    refine Safe.rg rfl ?_
    simp only [a9P, b3m H [some ⟨2, [.agg [.bool false, .nil]]⟩, some ⟨2, (vec i fun i => detI b.length (Bm (b.set i v))).map ZI.av⟩, some ⟨1, b.map vecV⟩] 1 2 0 b.length none .i64 i rfl rfl hi, E3, seval]
    rw [hst]
    simp only [List.set_cons_succ, List.set_cons_zero, ← List.map_set, E3, seval]
    refine Safe.keep [0, 1, 5, 9, 11, 26, 27] ?_
    simp only [E3, seval]
    refine Safe.freeze 2 hH rfl rfl (a1j 1 vecV _ a0d) ?_
    refine Safe.keep [0, 1, 5, 9, 11, 26, 27] ?_
    simp only [c3R H 2 (b.set i v) b.length none (by rw [List.length_set]), a0X, a0E, a1p, a1V, E3, seval]
    refine Safe.rg rfl ?_
    simp only [a9O, E3, seval]
    first | refine (b0l (b.set i v) (c3x hm hv i) (n := b.length) (by rw [List.length_set]) hn hK (c8I hrows hl i)).acall ?_ | refine (b0l (b.set i v) (c3x hm hv i) (n := b.length) (by rw [List.length_set]) hn hK (c8I hrows hl i)).dcall ?_
    try simp only [E3, seval]
    rw [a9Y hH 1 (a4h H 1) ZI.cl (vec i fun i => detI b.length (Bm (b.set i v))) (canZ (detI b.length (Bm (b.set i v)))) (vec (i + 1) fun i => detI b.length (Bm (b.set i v))) ?hlen ?hl ?hL ?hy ?hl2 ?hb ?hbb]
    case hlen => first | rfl | (simp only [a0a, a0c, List.length_map, List.length_take]; done) | (simp only [a0a, a0c, List.length_map, List.length_take]; omega)
    case hl => rfl
    case hL => repeat (first | exact RC.nil | refine RC.none ?_ | refine RC.mo ?_ | refine RC.io ?_ | refine RC.row ZI.cl ?_ | refine RC.cons (a0t _) ?_ | refine RC.row a0d ?_ | refine RC.emp ?_ | refine RC.zero ?_ | refine RC.one (Z_cl _) ?_ | refine RC.one (ZI.cl _) ?_ | refine RC.one (a0d _) ?_)
    case hy => rfl
    case hl2 => first | exact a4z _ _ | exact a5S _ _ | exact a4d _ (by omega) | exact a1x _ _ (by omega)
    case hb => omega
    case hbb => omega
    simp only [E3, seval]
    refine Safe.rg rfl ?_
    simp only [a9N, hiw, E3, seval]
    refine Safe.keep [0, 1, 5, 9, 26, 27] ?_
    simp only [E3, seval]
    refine Safe.drop2 hH rfl (by simp only [List.all_cons, List.all_nil, E3, seval]) (by repeat (first | exact RC.nil | refine RC.none ?_ | refine RC.mo ?_ | refine RC.io ?_ | refine RC.row ZI.cl ?_ | refine RC.cons (a0t _) ?_ | refine RC.row a0d ?_ | refine RC.emp ?_ | refine RC.zero ?_ | refine RC.one (Z_cl _) ?_ | refine RC.one (ZI.cl _) ?_ | refine RC.one (a0d _) ?_)) ?_
    exact ih
  · refine Safe.inLoop ?_
    refine Safe.rg rfl ?_
    simp only [a6A, Int.lt_irrefl, E3, seval]
    refine Safe.cd rfl ?_
    simp only [E3, seval]
    refine Safe.freeze 1 hH rfl rfl (a1j 2 ZI.av _ ZI.cl) ?_
    refine Safe.keep [0, 5, 9] ?_
    simp only [a7I H 1 (vec b.length fun i => detI b.length (Bm (b.set i v))) (b.length) (none) (by simp only [a0a, a0c]), a0X, a0E, a1p, a1V, E3, seval]
    refine Safe.rg rfl ?_
    simp only [a9M, E3, seval]
    first | refine (b0l b hm rfl hn hK hrows).acall ?_ | refine (b0l b hm rfl hn hK hrows).dcall ?_
    try simp only [E3, seval]
    simp only [Z, E3, seval]
    refine Safe.rt rfl ?_
    simp only [one3, E3, seval]
    exact ⟨rfl, _, rfl⟩
end
end Go.Abs
namespace Go.Abs
/-- Rows of whole numbers with such values. -/
structure Rz (n c K : Nat) (rows : List (List ZI)) (f : Nat → Nat → Int) : Prop where
  len : rows.length = n
  wid : ∀ i, i < n → (mg rows i).length = c
  at_ : ∀ i k, i < n → k < c → zg (mg rows i) k = f i k
  ok : ∀ i, i < n → Vok K (mg rows i)
def d7A (H : Heap) (n c e : Nat) (B : Nat → Nat → Rat) (r' : AV) (H' : Heap) : Prop := ∃ β rows lx, Rz n c (KB e + 1) rows (ZgI n B c) ∧ H.length ≤ β ∧ H'[β]? = some (some ⟨1, rows.map vecV⟩) ∧ (∃ L', H' = hap H L') ∧ a0S H' ∧
      ZI.z lx = a8q n B c ∧ Zok (KB e + 1) lx ∧ r' = .tup [.mu β 0 n (some n), hsV (gproc n B c).cs, lx.av, .bool (gproc n B c).odd]
/-- With the first m rows told. -/
def d7B (m : Nat) (H : Heap) (n c e : Nat) (B : Nat → Nat → Rat) (r' : AV) (H' : Heap) : Prop := ∃ β π S L lx, Lz n c (KB e + 1) π S (ZgI n B c) ∧ H.length ≤ β ∧ β + n < (hap H L).length ∧
      H' = hm (hap H L) β n (fr n fun i => if π i < m then .sl 2 (fr c (S (π i))) else .mu (β + 1 + π i) 0 c (some c)) (fun j => if j < m then none else some ⟨2, fr c (S j)⟩) ∧ a0S H' ∧
      ZI.z lx = a8q n B c ∧ Zok (KB e + 1) lx ∧ r' = .tup [.mu β 0 n (some n), hsV (gproc n B c).cs, lx.av, .bool (gproc n B c).odd]
theorem b7h {P : Program} {f : FuncId} {args : List AV} {H : Heap} {n c e : Nat} {B : Nat → Nat → Rat} (h : a0o P f args H (b7K H n c e B)) : ∀ m, m ≤ n → a0o P f args H (d7B m H n c e B)
  | 0, _ => h.mono fun r' H' ⟨β, π, S, L, lx, h1, h2, h3, h4, h5, h6, h7, h8⟩ => ⟨β, π, S, L, lx, h1, h2, h3, by
      rw [h4]
      refine b3w (a7J fun i hi => ?_) fun j hj => ?_
      · rw [if_neg (by omega)]
      · rw [if_neg (by omega)], h5, h6, h7, h8⟩
  | m + 1, hmn => by
    refine (b7h h m (by omega)).frz ?_
    rintro hH r' H' ⟨β, π, S, L, lx, h1, h2, h3, rfl, h5, h6, h7, rfl⟩
    have hc : ∀ a ∈ (Blk.mk 2 (fr c (S m))).flat, Cl a := b5z fun k _ => h1.cl m k
    have hget : (hm (hap H L) β n (fr n fun i => if π i < m then .sl 2 (fr c (S (π i))) else .mu (β + 1 + π i) 0 c (some c)) (fun j => if j < m then none else some ⟨2, fr c (S j)⟩))[β + 1 + m]? = some (some ⟨2, fr c (S m)⟩) := by
      rw [a1R _ _ _ _ _ _ (by omega), if_neg (by omega), if_pos (by omega), show β + 1 + m - (β + 1) = m by omega, if_neg (Nat.lt_irrefl m)]
    refine ⟨β + 1 + m, ⟨2, fr c (S m)⟩, hget, ⟨Nat.zero_lt_succ _, hc⟩, ?_⟩
    have hfH : frzH (β + 1 + m) ⟨2, fr c (S m)⟩ (hap H L) = hap H ((frzL (β + 1 + m) ⟨2, fr c (S m)⟩ L).set (β + 1 + m - H.length) none) := by
      have := c3S hH (β + 1 + m - H.length) ⟨2, fr c (S m)⟩ L
      rwa [show lid H (β + 1 + m - H.length) = β + 1 + m by unfold lid; omega] at this
    refine ⟨β, π, S, (frzL (β + 1 + m) ⟨2, fr c (S m)⟩ L).set (β + 1 + m - H.length) none, lx, h1, h2, ?_, ?_, d3N h5 _ _, h6, h7, ?_⟩
    · rw [← hfH]; simp only [frzH, List.length_set, List.length_map]; exact h3
    · rw [d9B h3 (by omega), hfH]
      refine b3w ?_ fun j hj => ?_
      · unfold fr
        rw [List.map_map]
        refine List.map_congr_left fun i hi => ?_
        simp only [Function.comp]
        by_cases h : π i < m
        · rw [if_pos h, if_pos (by omega)]; simp only [frz]
        · rw [if_neg h]
          by_cases h2 : π i = m
          · rw [if_pos (by omega), h2]
            simp only [frz, if_true]
            rw [if_pos (show 0 + c ≤ (List.map (S m) (List.range c)).length by simp)]
            simp only [List.drop_zero]
            rw [List.take_of_length_le (by simp)]
          · rw [if_neg (by omega)]
            simp only [frz]
            rw [if_neg (by omega)]
      · by_cases hjm : j = m
        · rw [if_pos hjm, if_pos (by omega)]
        · rw [if_neg hjm]
          by_cases hlt : j < m
          · rw [if_pos hlt, if_pos (by omega)]; rfl
          · rw [if_neg hlt, if_neg (by omega)]
            simp only [Option.map_some, frzB]
            congr 2
            refine (List.map_congr_left (g := fun x => x) fun a ha => ?_).trans (List.map_id' _)
            obtain ⟨k, hk, rfl⟩ := c9q ha
            exact a6X (h1.cl j k)
    · simp only [frz, List.map_cons, List.map_nil]
      rw [if_neg (by omega)]
      have e1 := a6X (id := β + 1 + m) (b := ⟨2, fr c (S m)⟩) (c5K (gproc n B c).cs)
      have e2 := a6X (id := β + 1 + m) (b := ⟨2, fr c (S m)⟩) (ZI.cl lx)
      rw [e1, e2]
theorem c6t {P : Program} {f : FuncId} {args : List AV} {H : Heap} {n c e : Nat} {B : Nat → Nat → Rat} (hc : c ≤ 2097152) (h : a0o P f args H (b7K H n c e B)) : a0o P f args H (d7A H n c e B) := by
  refine (b7h h n (Nat.le_refl n)).mono ?_
  rintro r' H' ⟨β, π, S, L, lx, h1, h2, h3, rfl, h5, h6, h7, rfl⟩
  have hch : ∀ i k, ∃ x : ZI, i < n → k < c → S (π i) k = x.av ∧ x.z = ZgI n B c i k ∧ Zok (KB e + 1) x := fun i k => by
    by_cases hik : i < n ∧ k < c
    · obtain ⟨x, hx⟩ := h1.at_ i k hik.1 hik.2; exact ⟨x, fun _ _ => hx⟩
    · exact ⟨⟨false, []⟩, fun a b => absurd ⟨a, b⟩ hik⟩
  let X : Nat → Nat → ZI := fun i k => Classical.choose (hch i k)
  have hX : ∀ i k, i < n → k < c → S (π i) k = (X i k).av ∧ (X i k).z = ZgI n B c i k ∧ Zok (KB e + 1) (X i k) := fun i k => Classical.choose_spec (hch i k)
  have hrow : ∀ i, i < n → mg (mat n fun i => (List.range c).map (X i)) i = (List.range c).map (X i) := fun i hi => c8W hi
  refine ⟨β, mat n fun i => (List.range c).map (X i), lx, ⟨a0c _ _, fun i hi => ?_, fun i k hi hk => ?_, fun i hi => ?_⟩, h2, ?_, ?_, h5, h6, h7, rfl⟩
  · rw [hrow i hi]; simp
  · rw [hrow i hi, b2T (by simpa using hk)]
    simp; exact (hX i k hi hk).2.1
  · rw [hrow i hi]
    refine ⟨by simp; exact hc, fun x hx => ?_⟩
    obtain ⟨k, hk, rfl⟩ := List.mem_map.1 hx
    exact (hX i k hi (List.mem_range.1 hk)).2.2
  · rw [a1R _ _ _ _ _ _ (by omega), if_pos rfl]
    congr 2
    unfold fr mat
    rw [List.map_map]
    congr 1
    refine List.map_congr_left fun i hi => ?_
    have hin := List.mem_range.1 hi
    simp only [Function.comp, vecV]
    rw [if_pos (h1.lt i hin), List.map_map]
    congr 1
    refine List.map_congr_left fun k hk => ?_
    exact (hX i k hin (List.mem_range.1 hk)).1
  · refine ⟨(hm (hap H L) β n (fr n fun i => if π i < n then .sl 2 (fr c (S (π i))) else .mu (β + 1 + π i) 0 c (some c)) (fun j => if j < n then none else some ⟨2, fr c (S j)⟩)).drop H.length, ?_⟩
    have ht : (hm (hap H L) β n (fr n fun i => if π i < n then .sl 2 (fr c (S (π i))) else .mu (β + 1 + π i) 0 c (some c)) (fun j => if j < n then none else some ⟨2, fr c (S j)⟩)).take H.length = H := by
      apply List.ext_getElem?
      intro j
      rw [List.getElem?_take]
      have hl : (hap H L).length = H.length + L.length := by simp [hap]
      split
      · rename_i hj
        rw [a1R _ _ _ _ _ _ (by omega), if_neg (by omega), if_neg (by omega)]
        simp only [hap]
        rw [List.getElem?_append_left hj]
      · rename_i hj
        rw [List.getElem?_eq_none (by omega)]
    exact (List.take_append_drop H.length _).symm.trans (by rw [ht]; rfl)
end Go.Abs
namespace Go.Abs
theorem b9G (v : List ZI) {K : Nat} (hv : Vok K v) (hnz : Nz (zg v) v.length) (hK : K < 17592186043000) : a0f Pr a2E [vecV v] (vecV (vec v.length (a1a (zg v) v.length))) := by
  have hvl := hv.len
  have hgl : ∀ i, i ≤ v.length → a2b (zg v) i < LB ^ K := fun i hi => c9l (a2G K) fun j _ => hv.abs j
  have hg0 := c9k hnz
  have hsg := d2r hnz
  refine a0f.intro c0W c0U (Nat.le_of_ble_eq_true rfl) (a0d _) fun H hH => ?_
  refine Safe.rg rfl ?_
  simp only [b1u, E3, seval]
  refine Safe.rg rfl ?_
  simp only [b1t, E3, seval]
  refine Safe.told0 0 rfl ?_
  simp only [E3, seval]
  refine Safe.rg rfl ?_
  simp only [b1s, E3, seval]
  refine Safe.lp rfl ?_
  refine Safe.keep [0, 3, 13, 14, 15] ?_
  try simp only [E3, seval]
  refine Safe.loopN (v.length) (fun i => [(0, vecV v), (3, .loc (lid H 0) 0 0), (13, vecV v), (14, .int .i64 v.length), (15, .int .i64 i)]) (fun i => hap H [some ⟨2, [Z (a2b (zg v) i : Nat)]⟩]) rfl rfl (fun i hi ih => ?_) ?_
  · have hlt : ((i : Int) < (v.length : Int)) = True := eq_true (by omega)
    have hiw : IntKind.wrap .i64 ((i : Int) + 1) = ((i + 1 : Nat) : Int) := by rw [a0b] <;> omega
    refine Safe.inLoop ?_
    refine Safe.rg rfl ?_
    simp only [a6t, hlt, E3, seval]
    refine Safe.cd rfl ?_
    simp only [E3, seval]
    refine Safe.rg rfl ?_
    simp only [b1r, a0B _ v _ i hi, E3, seval]
    refine Safe.rg rfl ?_
    simp only [b1q, E3, seval]
    have hg := c4F (canZ (a2b (zg v) i : Nat)) v[i] K (a0z (by exact hgl i (by omega))) (hv.get hi) (by omega)
    rw [a0y, ← b2T hi] at hg
    refine hg.acall ?_
    simp only [E3, seval]
    refine Safe.rg rfl ?_
    simp only [b1p, hiw, E3, seval]
    refine Safe.keep [0, 3, 13, 14, 15] ?_
    simp only [E3, seval]
    refine Safe.drop1 hH rfl (by simp only [List.all_cons, List.all_nil, E3, seval]) (by repeat (first | exact RC.nil | refine RC.none ?_ | refine RC.mo ?_ | refine RC.io ?_ | refine RC.row ZI.cl ?_ | refine RC.cons (a0t _) ?_ | refine RC.row a0d ?_ | refine RC.emp ?_ | refine RC.zero ?_ | refine RC.one (Z_cl _) ?_ | refine RC.one (ZI.cl _) ?_ | refine RC.one (a0d _) ?_)) ?_
    exact ih
  · refine Safe.inLoop ?_
    refine Safe.rg rfl ?_
    simp only [a6t, Int.lt_irrefl, E3, seval]
    refine Safe.cd rfl ?_
    simp only [E3, seval]
    refine Safe.rg rfl ?_
    simp only [b1o, E3, seval]
    first | refine (a3f v (hv.mono (by omega))).acall ?_ | refine (a3f v (hv.mono (by omega))).dcall ?_
    try simp only [E3, seval]
    obtain ⟨i, hi, h0, h, hl, hu⟩ : ∃ i, i < v.length ∧ zg v i ≠ 0 ∧ (∀ j, j < i → zg v j = 0) ∧ b3s v = i ∧ upS v = if zg v i < 0 then -1 else 1 := by
      rcases a4R v with h | ⟨h, _, _⟩
      · exact h
      · obtain ⟨j, hj, hw⟩ := hnz
        exact absurd (h j hj) hw
    have hs := c4V hi h0 h
    have hge : ((i : Int) ≥ 0) = True := eq_true (by omega)
    refine Safe.rg rfl ?_
    simp only [b1n, hl, hge, a0B _ v _ i hi, E3, seval]
    refine (a0K v[i] ((hv.get hi).mono (by omega))).acall ?_
    rw [← b2T hi]
    have main : ∀ Q : Int, Q = sgF (zg v) v.length * (a2b (zg v) v.length : Int) → Safe ⟨Pr, fun _ _ => false, a2E, 56, [.tmp 2], H.length⟩
        [.code ((ACode.region a5o false).seq (((ACode.region a5n false).seq (.block 2 (.loop b1v))).seq ((ACode.region a5l false).seq .ret)))]
        [(0, vecV v), (3, .loc (lid H 0) 0 0)] (hap H [some ⟨2, [Z Q]⟩]) fun r' H' => r' = vecV (vec v.length (a1a (zg v) v.length)) ∧ ∃ L, H' = hap H L := by
      intro Q hQ
      have hQ0 : Q ≠ 0 := by rw [hQ]; exact hsg
      have hQk : Q.natAbs < LB ^ K := by
        have : Q.natAbs = a2b (zg v) v.length := by
          rw [hQ, Int.natAbs_mul]
          rcases c4U (zg v) v.length with h | h <;> rw [h] <;> simp
        rw [this]; exact hgl _ (Nat.le_refl _)
      refine Safe.rg rfl ?_
      simp only [a5o, E3, seval]
      refine Safe.nilrow 7 2 (by decide) (by simp only [E3, seval]) ?_
      refine Safe.rg rfl ?_
      simp only [a5n, E3, seval]
      refine Safe.lp rfl ?_
      refine Safe.keep [3, 7, 37, 38, 39] ?_
      try simp only [E3, seval]
      refine Safe.loopN (v.length) (fun i => [(3, .loc (lid H 0) 0 0), (7, .mu (lid H 1) 0 i none), (37, vecV v), (38, .int .i64 v.length), (39, .int .i64 i)]) (fun i => hap H [some ⟨2, [Z Q]⟩, some ⟨2, (vec i (a1a (zg v) v.length)).map ZI.av⟩]) rfl rfl (fun i hi ih => ?_) ?_
      · have hlt : ((i : Int) < (v.length : Int)) = True := eq_true (by omega)
        have hiw : IntKind.wrap .i64 ((i : Int) + 1) = ((i + 1 : Nat) : Int) := by rw [a0b] <;> omega
        refine Safe.inLoop ?_
        refine Safe.rg rfl ?_
        simp only [a5m, hlt, E3, seval]
        refine Safe.cd rfl ?_
        simp only [E3, seval]
        refine Safe.rg rfl ?_
        simp only [a9y, a0B _ v _ i (by omega), E3, seval]
        refine Safe.rg rfl ?_
        simp only [a9x, E3, seval]
        have hfl := a2Y v[i] (canZ Q) K (hv.get (by omega)) (a0z hQk) (by omega) (a1a (zg v) v.length i) (by rw [a0y]; exact hQ0) (by rw [a0y, hQ, ← b2T (by omega)]; exact a2S (by omega))
        refine hfl.acall ?_
        simp only [E3, seval]
        refine Safe.rg rfl ?_
        simp only [a9w, E3, seval]
        rw [a9Y hH 1 (a4h H 1) ZI.cl (vec i (a1a (zg v) v.length)) (canZ (a1a (zg v) v.length i)) (vec (i + 1) (a1a (zg v) v.length)) ?hlen ?hl ?hL ?hy ?hl2 ?hb ?hbb]
        case hlen => first | rfl | (simp only [a0a, a0c, List.length_map, List.length_take]; done) | (simp only [a0a, a0c, List.length_map, List.length_take]; omega)
        case hl => rfl
        case hL => repeat (first | exact RC.nil | refine RC.none ?_ | refine RC.mo ?_ | refine RC.io ?_ | refine RC.row ZI.cl ?_ | refine RC.cons (a0t _) ?_ | refine RC.row a0d ?_ | refine RC.emp ?_ | refine RC.zero ?_ | refine RC.one (Z_cl _) ?_ | refine RC.one (ZI.cl _) ?_ | refine RC.one (a0d _) ?_)
        case hy => rfl
        case hl2 => first | exact a4z _ _ | exact a5S _ _ | exact a4d _ (by omega) | exact a1x _ _ (by omega)
        case hb => omega
        case hbb => omega
        simp only [E3, seval]
        refine Safe.rg rfl ?_
        simp only [a9v, hiw, E3, seval]
        refine Safe.keep [3, 7, 37, 38, 39] ?_
        simp only [E3, seval]
        refine Safe.drop4 hH rfl (by simp only [List.all_cons, List.all_nil, E3, seval]) (by repeat (first | exact RC.nil | refine RC.none ?_ | refine RC.mo ?_ | refine RC.io ?_ | refine RC.row ZI.cl ?_ | refine RC.cons (a0t _) ?_ | refine RC.row a0d ?_ | refine RC.emp ?_ | refine RC.zero ?_ | refine RC.one (Z_cl _) ?_ | refine RC.one (ZI.cl _) ?_ | refine RC.one (a0d _) ?_)) ?_
        refine Safe.drop3 hH rfl (by simp only [List.all_cons, List.all_nil, E3, seval]) (by repeat (first | exact RC.nil | refine RC.none ?_ | refine RC.mo ?_ | refine RC.io ?_ | refine RC.row ZI.cl ?_ | refine RC.cons (a0t _) ?_ | refine RC.row a0d ?_ | refine RC.emp ?_ | refine RC.zero ?_ | refine RC.one (Z_cl _) ?_ | refine RC.one (ZI.cl _) ?_ | refine RC.one (a0d _) ?_)) ?_
        refine Safe.drop2 hH rfl (by simp only [List.all_cons, List.all_nil, E3, seval]) (by repeat (first | exact RC.nil | refine RC.none ?_ | refine RC.mo ?_ | refine RC.io ?_ | refine RC.row ZI.cl ?_ | refine RC.cons (a0t _) ?_ | refine RC.row a0d ?_ | refine RC.emp ?_ | refine RC.zero ?_ | refine RC.one (Z_cl _) ?_ | refine RC.one (ZI.cl _) ?_ | refine RC.one (a0d _) ?_)) ?_
        exact ih
      · refine Safe.inLoop ?_
        refine Safe.rg rfl ?_
        simp only [a5m, Int.lt_irrefl, E3, seval]
        refine Safe.cd rfl ?_
        simp only [E3, seval]
        refine Safe.freeze 1 hH rfl rfl (a1j 2 ZI.av _ ZI.cl) ?_
        refine Safe.keep [7] ?_
        simp only [a7I H 1 (vec v.length (a1a (zg v) v.length)) (v.length) (none) (by simp only [a0a, a0c]), a0X, a0E, a1p, a1V, E3, seval]
        refine Safe.rg rfl ?_
        simp only [a5l, E3, seval]
        refine Safe.rt rfl ?_
        simp only [E3, seval]
        first | exact ⟨rfl, _, rfl⟩ | exact ⟨_, rfl⟩ | exact ⟨trivial, _, rfl⟩
    by_cases hn : zg v i < 0
    · have hc : ((zg v i).sign < 0) = True := eq_true (Int.sign_neg_iff.2 hn)
      rw [if_pos hn] at hs
      simp only [hc, E3, seval]
      refine Safe.cd rfl ?_
      simp only [E3, seval]
      refine Safe.rg rfl ?_
      simp only [b1m, E3, seval]
      have hng := a8r (canZ (a2b (zg v) v.length : Nat)) ((a0z (by exact hgl _ (Nat.le_refl _))).mono (by omega))
      rw [a0y] at hng
      refine hng.acall ?_
      simp only [E3, seval]
      refine Safe.keep [0, 3] ?_
      simp only [E3, seval]
      exact main _ (by rw [hs, Int.neg_mul, Int.one_mul])
    · have hc : ((zg v i).sign < 0) = False := eq_false fun h => hn (Int.sign_neg_iff.1 h)
      rw [if_neg hn] at hs
      simp only [hc, E3, seval]
      refine Safe.cd rfl ?_
      simp only [E3, seval]
      refine Safe.keep [0, 3] ?_
      simp only [E3, seval]
      refine Safe.skip ?_
      exact main _ (by rw [hs, Int.one_mul])
end Go.Abs
namespace Go.Abs
def a0O (x : Nat → Rat) : Nat → Nat
  | 0 => 1
  | n + 1 => a0O x n * ((x n).den / Nat.gcd (a0O x n) (x n).den)
def outI (x : Nat → Rat) (c i : Nat) : Int := (x i).num * ((a0O x c / (x i).den : Nat) : Int)
theorem b5j (x : Nat → Rat) (n : Nat) : a0O x (n + 1) = Nat.lcm (a0O x n) (x n).den := by
  rw [a0O, Nat.lcm, Nat.mul_div_assoc _ (Nat.gcd_dvd_right _ _)]
theorem a5j (x : Nat → Rat) : ∀ n, 0 < a0O x n
  | 0 => Nat.one_pos
  | n + 1 => by rw [b5j]; exact Nat.lcm_pos (a5j x n) (x n).den_pos
theorem a9r {x : Nat → Rat} {M : Nat} : ∀ {n : Nat}, (∀ i, i < n → (x i).den ∣ M) → a0O x n ∣ M
  | 0, _ => Nat.one_dvd _
  | n + 1, h => by rw [b5j]; exact Nat.lcm_dvd (a9r fun i hi => h i (by omega)) (h n (by omega))
theorem c0t (x : Nat → Rat) : ∀ {n i : Nat}, i < n → (x i).den ∣ a0O x n
  | 0, _, h => absurd h (by omega)
  | n + 1, i, h => by
    rw [b5j]
    by_cases e : i = n
    · subst e; exact Nat.dvd_lcm_right _ _
    · exact Nat.dvd_trans (c0t x (by omega)) (Nat.dvd_lcm_left _ _)
/-- All of them times one number are whole, of such a size. -/
structure Sz (x : Nat → Rat) (c K : Nat) : Prop where
  ex : ∃ D : Int, D ≠ 0 ∧ D.natAbs < LB ^ K ∧ ∀ i, i < c → ∃ z : Int, (D : Rat) * x i = z ∧ z.natAbs < LB ^ K
theorem c9x {D z : Int} {q : Rat} (hD : D ≠ 0) (h : (D : Rat) * q = z) : q.den ∣ D.natAbs := by
  have hl : (D : Rat) ≠ 0 := fun e => hD (Rat.intCast_inj.1 (by rw [e]; rfl))
  have e : q = Rat.divInt z D := by
    rw [Rat.divInt_eq_div, ← h]
    generalize (D : Rat) = x at *
    grind
  rw [e, Rat.den_divInt, if_neg hD]
  exact Nat.div_dvd_of_dvd (by rw [Int.gcd]; exact Nat.gcd_dvd_left _ _)
theorem a4Y (x : Nat → Rat) {c i : Nat} (hi : i < c) : ((a0O x c : Nat) : Rat) * x i = ((outI x c i : Int) : Rat) := by
  obtain ⟨m, hm⟩ := c0t x hi
  unfold outI
  have hd := (x i).den_pos
  rw [hm, Nat.mul_div_cancel_left _ hd]
  have h1 : x i = ((x i).num : Rat) / ((x i).den : Rat) := by rw [← Rat.mkRat_eq_div, Rat.mkRat_self]
  have h2 : ((x i).den : Rat) ≠ 0 := by
    intro h
    have : ((x i).den : Nat) = 0 := by exact_mod_cast h
    omega
  rw [Rat.intCast_mul, Rat.natCast_mul]
  have h3 : (((m : Nat) : Int) : Rat) = ((m : Nat) : Rat) := rfl
  rw [h3]
  have h4 := Rat.div_mul_cancel (a := ((x i).num : Rat)) h2
  rw [← h1] at h4
  clear h1 hm
  generalize ((x i).den : Rat) = d at *
  generalize ((x i).num : Rat) = a at *
  generalize ((m : Nat) : Rat) = k
  generalize x i = y at *
  grind
section
variable {x : Nat → Rat} {c K : Nat} (h : Sz x c K)
include h
theorem e1C {n : Nat} (hn : n ≤ c) : a0O x n < LB ^ K := by
  obtain ⟨D, hD, hD1, hz⟩ := h.ex
  have hd : a0O x n ∣ D.natAbs := a9r fun i hi => by obtain ⟨z, hz, _⟩ := hz i (by omega); exact c9x hD hz
  exact Nat.lt_of_le_of_lt (Nat.le_of_dvd (by omega) hd) hD1
theorem c5j {i : Nat} (hi : i < c) : (outI x c i).natAbs < LB ^ K := by
  obtain ⟨D, hD, hD1, hz⟩ := h.ex
  have hd : a0O x c ∣ D.natAbs := a9r fun i hi => by obtain ⟨z, hz, _⟩ := hz i hi; exact c9x hD hz
  obtain ⟨z, hz, hz1⟩ := hz i hi
  obtain ⟨m, hm⟩ := Int.ofNat_dvd_left.2 hd
  have hm0 : m ≠ 0 := fun e => hD (by rw [hm, e, Int.mul_zero])
  have ho := a4Y x hi
  have : z = m * outI x c i := by
    refine Rat.intCast_inj.1 ?_
    rw [← hz, Rat.intCast_mul, ← ho, hm, Rat.intCast_mul]
    have h3 : (((a0O x c : Nat) : Int) : Rat) = ((a0O x c : Nat) : Rat) := rfl
    rw [h3]
    generalize ((a0O x c : Nat) : Rat) = l
    generalize (m : Rat) = k
    generalize x i = y
    grind
  rw [this, Int.natAbs_mul] at hz1
  exact Nat.lt_of_le_of_lt (Nat.le_mul_of_pos_left _ (by omega)) hz1
end
end Go.Abs
namespace Go.Abs
/-- One row bound anew: rows of numbers. -/
def ax (A : Heap) (β n : Nat) (X : Nat → List ZI) : Heap := hm A β 0 ((mat n X).map vecV) fun _ => none
theorem c6v (A : Heap) (β n : Nat) (X : Nat → List ZI) : (ax A β n X).length = A.length := a1B _ _ _ _ _
theorem a3A (A : Heap) (β n : Nat) (X : Nat → List ZI) (i : Nat) : lid (ax A β n X) i = lid A i := c9b _ _ _ _ _ _
theorem e0n {A : Heap} {β : Nat} {rows : List (List ZI)} (h : A[β]? = some (some ⟨1, rows.map vecV⟩)) : ax A β rows.length (mg rows) = A := by
  have e : mat rows.length (mg rows) = rows := by
    apply List.ext_getElem (a0c _ _)
    intro i h1 h2
    rw [a3H, a5A h2]
  unfold ax
  rw [e]
  exact d3O h fun j hj => absurd hj (by omega)
section
variable {A L : Heap} {β n : Nat} {X : Nat → List ZI}
theorem a1q (i : Nat) : hrow (hap (ax A β n X) L) (lid A i) = (L[i]?).join := c9i i
theorem a1U (i : Nat) (x : Option Blk) : (hap (ax A β n X) L).set (lid A i) x = hap (ax A β n X) (L.set i x) := d2u i x
theorem a2i (m i off : Nat) (v : AV) (env : Env) : a1y m (.loc (lid A i) 0 off) v env (hap (ax A β n X) L) = (L[i]?).join.bind fun b =>
    if 0 < b.xs.length ∧ v.fit = true ∧ v.cells.length = m ∧ off + m ≤ b.wd then some (.top, env, hap (ax A β n X) (L.set i (some ⟨b.wd, b.xs.set 0 (upd (b.xs.getD 0 .top) b.wd off m v)⟩))) else none := by
  simp only [a1y, a1q, a1U]
variable (hA : β < A.length)
include hA
theorem c5L : hrow (hap (ax A β n X) L) β = some ⟨1, (mat n X).map vecV⟩ := c9g (by omega)
theorem c6y {j len : Nat} (hj : j < len) (oc : Option Nat) (k : IntKind) : idxV (hap (ax A β n X) L) 1 (.mu β 0 len oc) (.int k j) = some (.loc β j 0) := by
  rw [b5r _ _ _ _ _ _ _ _ (by omega) (by omega), c5L hA]; simp
theorem X_at {j : Nat} (hj : j < n) : atV (hap (ax A β n X) L) (.loc β j 0) = some [vecV (X j)] := by
  rw [a9X, c5L hA]
  simp only [Option.bind_some, List.length_map, a0c]
  rw [if_pos hj, List.getD_eq_getElem?_getD, List.getElem?_map, List.getElem?_eq_getElem (by rw [a0c]; exact hj), a3H]; rfl
theorem X_st {j : Nat} (hj : j < n) (v : List ZI) (env : Env) : a1y 1 (.loc β j 0) (vecV v) env (hap (ax A β n X) L) = some (.top, env, hap (ax A β n fun a => if a = j then v else X a) L) := by
  simp only [a1y, c5L hA, Option.bind_some, List.length_map, a0c]
  rw [if_pos ⟨hj, rfl, rfl, by omega⟩, a2n]
  unfold ax
  rw [d2s (by omega)]
  refine congrArg (fun O => some (AV.top, env, hap (hm A β 0 O fun _ => none) L)) ?_
  apply List.ext_getElem?
  intro t
  rw [List.getElem?_set, List.length_map, a0c]
  simp only [List.getElem?_map, mat]
  rcases Nat.lt_or_ge t n with h | h
  · rw [List.getElem?_range h]
    by_cases e : j = t
    · subst e; simp [h]
    · simp [e, Ne.symm e]
  · rw [List.getElem?_eq_none (by simpa using h), if_neg (by omega)]; rfl
theorem e2F {r len : Nat} (hr : r ≤ len) (oc : Option Nat) (k k' : IntKind) : slcV (hap (ax A β n X) L) 1 (.mu β 0 len oc) none (some (.int k r)) (some (.int k' r)) = some (.mu β 0 r (some r)) := by
  simp only [slcV, c5L hA, Option.bind_some, a4l]
  rw [if_pos ⟨trivial, rfl, by omega, by omega, by omega, by omega⟩]
  simp
end
theorem e0o {A : Heap} {β n : Nat} {X X' : Nat → List ZI} (hA : β < A.length) (h : a0S (ax A β n X)) : a0S (ax A β n X') := by
  intro id b hb a ha
  have hid := a0h hb
  rw [c6v] at hid
  unfold ax at hb
  rw [a1R _ _ _ _ _ _ hid] at hb
  split at hb
  · cases hb; exact (a1j 1 vecV _ a0d a ha).ref
  · rename_i h1
    rw [if_neg (by omega)] at hb
    have := h id b (by unfold ax; rw [a1R _ _ _ _ _ _ hid, if_neg h1, if_neg (by omega)]; exact hb) a ha
    rwa [c6v] at this ⊢
theorem e2d {H L0 : Heap} {β n : Nat} {X : Nat → List ZI} (L : Heap) (hβ : H.length ≤ β) (hA : β < (hap H L0).length) : ∃ L', hap (ax (hap H L0) β n X) L = hap H L' := by
  have hl : (hap H L0).length = H.length + L0.length := by simp [hap]
  have ht : (hap (ax (hap H L0) β n X) L).take H.length = H := by
    apply List.ext_getElem?
    intro j
    rw [List.getElem?_take]
    split
    · rename_i hj
      simp only [hap]
      rw [List.getElem?_append_left (by rw [c6v]; show j < (hap H L0).length; omega)]
      unfold ax
      rw [a1R _ _ _ _ _ _ (by show j < (hap H L0).length; omega), if_neg (by omega), if_neg (by omega)]
      rw [List.getElem?_append_left hj]
    · rename_i hj
      rw [List.getElem?_eq_none (by omega)]
  exact ⟨(hap (ax (hap H L0) β n X) L).drop H.length, (List.take_append_drop H.length _).symm.trans (by rw [ht]; rfl)⟩
theorem Safe.dropX {A : Heap} {β n : Nat} {X : Nat → List ZI} {x : Cx} {todo : List AItem} {env : Env} {R : AV → Heap → Prop} (L : Heap) {o : Option Blk} (hH : a0S (ax A β n X)) (hx : x.n0 ≤ A.length)
    (he : env.all (fun p => nref (lid A L.length) p.2) = true) (hL : ∀ b, some b ∈ L → ∀ a ∈ b.flat, Cl a) (h : Safe x todo env (hap (ax A β n X) L) R) : Safe x todo env (hap (ax A β n X) (L ++ [o])) R :=
  Safe.dropG hH (by rw [c6v]; exact hx) (by rw [a3A]; exact he) (fun b hb a ha => a1o (hL b hb a ha)) h
theorem Safe.freezeX {A : Heap} {β n : Nat} {X : Nat → List ZI} {x : Cx} {todo : List AItem} {env : Env} {R : AV → Heap → Prop} (i : Nat) {L : Heap} {b : Blk} (hH : a0S (ax A β n X)) (hx : x.n0 ≤ A.length) (hl : L[i]? = some (some b)) (hcl : ∀ c ∈ b.flat, Cl c)
    (h : Safe x todo (frzE (lid A i) b env) (hap (ax A β n X) ((frzL (lid A i) b L).set i none)) R) (hpos : 0 < b.wd := by exact Nat.zero_lt_succ _) : Safe x todo env (hap (ax A β n X) L) R :=
  Safe.freezeB i hH (by rw [c6v]; exact hx) hl hcl (by rw [a3A]; exact h) hpos
theorem d7D {A : Heap} {β n : Nat} {X : Nat → List ZI} {α : Type} (hH : a0S (ax A β n X)) {L : Heap} (i : Nat) {n0 : Nat} (hn : n0 ≤ lid A i) {env : Env} {wd bytes : Nat} {f : α → AV} (hf : ∀ x, Cl (f x)) (l : List α) (x : α) (l' : List α) {y : AV} {len : Nat}
    (hlen : len = l.length) (hl : L[i]? = some (some ⟨wd, l.map f⟩)) (hL : RC L) (hy : y = f x) (hl' : l' = l ++ [x]) (hb : (len + 1) * bytes ≤ 140737488355328) (hbb : len + 1 ≤ 9223372036854775807) :
    appV n0 wd bytes false (.mu (lid A i) 0 len none) (.sl wd [y]) env (hap (ax A β n X) L) = some (.mu (lid A i) 0 (len + 1) none, scrub (lid A i) env, hap (ax A β n X) (L.set i (some ⟨wd, l'.map f⟩))) := by
  have := a9Y (H := ax A β n X) hH i (by rw [a3A]; exact hn) (env := env) (bytes := bytes) hf l x l' hlen hl hL hy hl' hb hbb
  rwa [a3A] at this
theorem d7Y (H : Heap) (cs : List Nat) (k : IntKind) {i : Nat} (h : i < cs.length) : idxV H 1 (hsV cs) (.int k i) = some (.ro (intV (cs.getD i 0)) 0) := by
  have := d2i H 1 intV cs k i h
  rw [List.getD_eq_getElem?_getD, List.getElem?_eq_getElem h]; exact this
end Go.Abs
namespace Go.Abs
def InC (j : JS) (c : Nat) (v : Nat → Rat) : Prop := ∀ k, k < c → v k = sumR (fun i => v (j.s.cs.getD i 0) * j.M i k) j.s.cs.length
theorem d9n {j : JS} {c : Nat} {u w : Nat → Rat} (hu : InC j c u) (hw : InC j c w) (a b : Rat) : InC j c (fun k => a * u k + b * w k) := by
  intro k hk
  show a * u k + b * w k = _
  rw [hu k hk, hw k hk, ← a2y]
  refine a0p fun i _ => ?_
  show _ = (a * u (j.s.cs.getD i 0) + b * w (j.s.cs.getD i 0)) * j.M i k
  grind
theorem d3J {j : JS} {c : Nat} (hcs : ∀ t, t < j.s.cs.length → j.s.cs.getD t 0 < c) {u v : Nat → Rat} {l : Rat} (hl : l ≠ 0) (h : ∀ k, k < c → u k = l * v k) (hu : InC j c u) : InC j c v := by
  intro k hk
  have h1 := hu k hk
  have e : sumR (fun i => u (j.s.cs.getD i 0) * j.M i k) j.s.cs.length = l * sumR (fun i => v (j.s.cs.getD i 0) * j.M i k) j.s.cs.length + 0 * sumR (fun i => v (j.s.cs.getD i 0) * j.M i k) j.s.cs.length := by
    rw [← a2y]
    refine a0p fun i hi => ?_
    rw [h _ (hcs i hi)]; grind
  rw [e, h k hk] at h1
  grind
/-- Row i with the a0C from m on cleared. -/
structure RowP (j : JS) (c m i : Nat) (f : Nat → Int) : Prop where
  inn : InC j c fun k => (f k : Rat)
  lo : ∀ t, t < i → f (j.s.cs.getD t 0) = 0
  hi : ∀ t, m ≤ t → t < j.s.cs.length → t ≠ i → f (j.s.cs.getD t 0) = 0
  piv : f (j.s.cs.getD i 0) ≠ 0
section
variable {j : JS} {c : Nat} (hcs : ∀ t, t < j.s.cs.length → j.s.cs.getD t 0 < c)
include hcs
theorem b2a {m i : Nat} {f : Nat → Int} (hi : i < j.s.cs.length) (h : RowP j c m i f) : Nz f c := ⟨_, hcs i hi, h.piv⟩
theorem c5b {m i : Nat} {f : Nat → Int} (hi : i < j.s.cs.length) (h : RowP j c m i f) : RowP j c m i (a1a f c) := by
  have hne := d2r (b2a hcs hi h)
  have hz : ∀ k, f k = 0 → a1a f c k = 0 := fun k hk => by unfold a1a; rw [hk]; simp
  refine ⟨d3J hcs (l := ((sgF f c * (a2b f c : Int) : Int) : Rat)) (fun h0 => hne (Rat.intCast_inj.1 (by rw [h0]; rfl))) (fun k hk => ?_) h.inn, fun t ht => hz _ (h.lo t ht), fun t h1 h2 h3 => hz _ (h.hi t h1 h2 h3), fun h0 => h.piv ?_⟩
  · show ((f k : Int) : Rat) = _ * ((a1a f c k : Int) : Rat)
    rw [← Rat.intCast_mul, ← a2S hk]
  · rw [a2S (w := f) (hcs i hi), h0, Int.mul_zero]
omit hcs in
theorem d2z {m i : Nat} {f g : Nat → Int} (him : i < m) (hm : m < j.s.cs.length) (hf : RowP j c (m + 1) i f) (hg : RowP j c (m + 1) m g) : RowP j c m i fun k => g (j.s.cs.getD m 0) * f k - f (j.s.cs.getD m 0) * g k := by
  refine ⟨?_, fun t ht => ?_, fun t h1 h2 h3 => ?_, ?_⟩
  · have h := d9n hf.inn hg.inn (g (j.s.cs.getD m 0) : Rat) (-(f (j.s.cs.getD m 0) : Rat))
    intro k hk
    have h1 := h k hk
    have e : ∀ k, ((g (j.s.cs.getD m 0) * f k - f (j.s.cs.getD m 0) * g k : Int) : Rat) = (g (j.s.cs.getD m 0) : Rat) * (f k : Rat) + -(f (j.s.cs.getD m 0) : Rat) * (g k : Rat) := fun k => by
      rw [Rat.intCast_sub, Rat.intCast_mul, Rat.intCast_mul]; grind
    simp only [e]
    exact h1
  · rw [hf.lo t ht, hg.lo t (by omega)]; simp
  · by_cases e : t = m
    · subst e; rw [Int.mul_comm]; omega
    · rw [hf.hi t (by omega) h2 h3, hg.hi t (by omega) h2 e]; simp
  · rw [hg.lo i him, Int.mul_zero, Int.sub_zero]
    exact Int.mul_ne_zero hg.piv hf.piv
omit hcs in
theorem d2y {m i : Nat} {f : Nat → Int} (him : i < m) (hf : RowP j c (m + 1) i f) (h0 : f (j.s.cs.getD m 0) = 0) : RowP j c m i f :=
  ⟨hf.inn, hf.lo, fun t h1 h2 h3 => by
    by_cases e : t = m
    · rw [e]; exact h0
    · exact hf.hi t (by omega) h2 h3, hf.piv⟩
omit hcs in
theorem d2x {m i : Nat} {f : Nat → Int} (hmi : m ≤ i) (hf : RowP j c (m + 1) i f) (him : m < i) : RowP j c m i f :=
  ⟨hf.inn, hf.lo, fun t h1 h2 h3 => by
    by_cases e : t = m
    · rw [e]; exact hf.lo m him
    · exact hf.hi t (by omega) h2 h3, hf.piv⟩
omit hcs in
theorem c5a {m : Nat} {f : Nat → Int} (hf : RowP j c (m + 1) m f) : RowP j c m m f :=
  ⟨hf.inn, hf.lo, fun t h1 h2 h3 => hf.hi t (by omega) h2 h3, hf.piv⟩
/-- Cleared everywhere it is the row of the fractions. -/
theorem c5c {m i : Nat} {f : Nat → Int} (hmi : m ≤ i) (hi : i < j.s.cs.length) (hf : RowP j c m i f) (hpr : ∀ k, k < c → a1a f c k = f k) : ∀ k, k < c → f k = a1a (outI (j.M i) c) c k := by
  intro k hk
  have hall : ∀ t, t < j.s.cs.length → t ≠ i → ((f (j.s.cs.getD t 0) : Int) : Rat) = 0 := fun t ht hne => by
    have : f (j.s.cs.getD t 0) = 0 := by
      rcases Nat.lt_or_ge t i with h | h
      · exact hf.lo t h
      · exact hf.hi t (by omega) ht hne
    rw [this]; rfl
  have hM : ∀ k, k < c → ((f k : Int) : Rat) = (f (j.s.cs.getD i 0) : Rat) * j.M i k := fun k hk => by
    have h1 := hf.inn k hk
    rw [a7i hi fun t ht hne => by show ((f (j.s.cs.getD t 0) : Int) : Rat) * j.M t k = 0; rw [hall t ht hne]; grind] at h1
    exact h1
  rw [← hpr k hk]
  have hl := a5j (j.M i) c
  refine c3s (a := (a0O (j.M i) c : Int)) (b := f (j.s.cs.getD i 0)) (by omega) hf.piv (b2a hcs hi hf) (fun t ht => ?_) hk
  refine Rat.intCast_inj.1 ?_
  rw [Rat.intCast_mul, Rat.intCast_mul, hM t ht, ← a4Y (j.M i) ht]
  have h3 : (((a0O (j.M i) c : Nat) : Int) : Rat) = ((a0O (j.M i) c : Nat) : Rat) := rfl
  rw [h3]
  generalize ((a0O (j.M i) c : Nat) : Rat) = l
  generalize (f (j.s.cs.getD i 0) : Rat) = p
  generalize j.M i t = y
  grind
end
/-- Bareiss's rows. -/
theorem b0b {n c e : Nat} {B : Nat → Nat → Rat} (hB : Bd e B) (hn : n ≤ 64) {i : Nat} (hi : i < (gproc n B c).cs.length) : RowP (a0g n B c) c (gproc n B c).cs.length i (ZgI n B c i) := by
  have hBi : ∀ i k, ∃ z : Int, B i k = z := fun i k => by obtain ⟨z, h, _⟩ := hB i k; exact ⟨z, h⟩
  have hok := a7F (n := n) hBi c
  have hs := a0J n B c
  have hrn := (a3v (n := n) hBi c).len
  have hZ : ∀ k, (ZgI n B c i k : Rat) = Zg (gproc n B c) i k := fun k => (c2W B hB hn c k (by omega)).1
  have hin := e2B hok (a := i) (by rw [hs]; exact hi)
  rw [hs] at hin
  refine ⟨fun k _ => ?_, fun t ht => ?_, fun t h1 h2 => ?_, ?_⟩
  · have := hin k
    simp only [hZ]
    exact this
  · rw [hs]
    have := d7J hok (a := i) (t := t) (by rw [hs]; exact hi) ht
    rw [hs] at this
    exact Rat.intCast_inj.1 (by rw [hZ, this]; rfl)
  · rw [hs] at h2; omega
  · rw [hs]
    have := d7I hok (a := i) (by rw [hs]; exact hi)
    rw [hs] at this
    intro h0
    exact this (by rw [← hZ, h0]; rfl)
theorem M_sz {n c e : Nat} {B : Nat → Nat → Rat} (hB : Bd e B) (hn : n ≤ 64) (i : Nat) : Sz ((a0g n B c).M i) c (KB e + 1) := by
  have hBi : ∀ i k, ∃ z : Int, B i k = z := fun i k => by obtain ⟨z, h, _⟩ := hB i k; exact ⟨z, h⟩
  have hok := a7F (n := n) hBi c
  have hBd : Bd e (a0g n B c).s.B := by rw [a0J]; exact hB.gproc c
  obtain ⟨l, hl, hl1⟩ := b7C hok (Nat.le_trans hok.g.len hn) hBd
  have hlt : LB ^ KB e < LB ^ (KB e + 1) := Nat.pow_lt_pow_right (by decide) (by omega)
  refine ⟨l, fun h0 => a4F hok.g.piv (by rw [hl, h0]; rfl), by omega, fun k _ => ?_⟩
  obtain ⟨z, hz, hz1⟩ := c3W hok (Nat.le_trans hok.g.len hn) hBd i k
  rw [hl] at hz
  exact ⟨z, hz, by omega⟩
end Go.Abs
namespace Go.Abs
def d2b (h c : Nat) (f g : Nat → Int) : Nat → Int := if f h = 0 then f else a1a (fun k => g h * f k - f h * g k) c
/-- The rows after k a0C have been cleared. -/
def Fs (cs : List Nat) (c : Nat) (F0 : Nat → Nat → Int) : Nat → Nat → Nat → Int
  | 0 => F0
  | k + 1 => fun i => if i < cs.length - (k + 1) then d2b (cs.getD (cs.length - (k + 1)) 0) c (Fs cs c F0 k i) (Fs cs c F0 k (cs.length - (k + 1))) else Fs cs c F0 k i
section
variable {n c e K : Nat} {B : Nat → Nat → Rat} (hB : Bd e B) (hn : n ≤ 64)
include hB hn
def F0s (n : Nat) (B : Nat → Nat → Rat) (c : Nat) : Nat → Nat → Int := fun i => a1a (ZgI n B c i) c
def Fk (n : Nat) (B : Nat → Nat → Rat) (c k : Nat) : Nat → Nat → Int := Fs (gproc n B c).cs c (F0s n B c) k
omit hB hn in
theorem b3x : ∀ t, t < (a0g n B c).s.cs.length → (a0g n B c).s.cs.getD t 0 < c := by
  intro t ht
  rw [a0J] at ht ⊢
  exact a1m ht
theorem e0I (i : Nat) {k : Nat} (hi : i < n) : (ZgI n B c i k).natAbs < LB ^ (KB e + 1) := by
  have h := (c2W B hB hn c k hi)
  have hlt : LB ^ KB e < LB ^ (KB e + 1) := Nat.pow_lt_pow_right (by decide) (by omega)
  omega
theorem d8l {i : Nat} (hi : i < (gproc n B c).cs.length) : RowP (a0g n B c) c (gproc n B c).cs.length i (F0s n B c i) :=
  c5b (b3x) (by rw [a0J]; exact hi) (b0b hB hn hi)
theorem e0C : ∀ i, i < (gproc n B c).cs.length → ∀ t, t < c → (F0s n B c i t).natAbs < LB ^ (KB e + 1) := fun i hi t ht =>
  Nat.lt_of_le_of_lt (b0d ht) (e0I hB hn i (Nat.lt_of_lt_of_le hi (a5k (n := n) (B := B) c).len))
structure Fok (n c K : Nat) (B : Nat → Nat → Rat) (k : Nat) : Prop where
  row : ∀ i, i < (gproc n B c).cs.length → RowP (a0g n B c) c ((gproc n B c).cs.length - k) i (Fk n B c k i)
  idem : ∀ i, i < (gproc n B c).cs.length → ∀ t, t < c → a1a (Fk n B c k i) c t = Fk n B c k i t
  sz : ∀ i, i < (gproc n B c).cs.length → ∀ t, t < c → (Fk n B c k i t).natAbs < LB ^ (K + k * (K + 1))
omit hB hn in
theorem Fok.top {k i : Nat} (h : Fok n c K B k) (hi : i < (gproc n B c).cs.length) (hk : (gproc n B c).cs.length - k ≤ i + 1) : ∀ t, t < c → Fk n B c k i t = a1a (outI ((a0g n B c).M i) c) c t := by
  have hrow : RowP (a0g n B c) c ((gproc n B c).cs.length - k) i (Fk n B c k i) := h.row i hi
  have hlen : (a0g n B c).s.cs.length = (gproc n B c).cs.length := by rw [a0J]
  by_cases e : (gproc n B c).cs.length - k ≤ i
  · exact c5c (b3x) e (by rw [hlen]; exact hi) hrow (h.idem i hi)
  · have e2 : (gproc n B c).cs.length - k = i + 1 := by omega
    rw [e2] at hrow
    exact c5c (b3x) (Nat.le_refl i) (by rw [hlen]; exact hi) (c5a hrow) (h.idem i hi)
omit hB hn in
theorem Fok.tsz (hS : ∀ i, i < (gproc n B c).cs.length → Sz ((a0g n B c).M i) c K) {k i : Nat} (h : Fok n c K B k) (hi : i < (gproc n B c).cs.length) (hk : (gproc n B c).cs.length - k ≤ i + 1) : ∀ t, t < c → (Fk n B c k i t).natAbs < LB ^ K := fun t ht => by
  rw [h.top hi hk t ht]
  exact Nat.lt_of_le_of_lt (b0d ht) (c5j (hS i hi) ht)
omit hB hn in
theorem e0c {a b p q : Int} {K L : Nat} (ha : a.natAbs < LB ^ L) (hb : b.natAbs < LB ^ K) (hp : p.natAbs < LB ^ K) (hq : q.natAbs < LB ^ L) : (a * b - p * q).natAbs < LB ^ (K + L + 1) := by
  have h1 : (a * b).natAbs < LB ^ (K + L) := by
    rw [Int.natAbs_mul, Nat.pow_add, Nat.mul_comm]
    exact Nat.mul_lt_mul'' hb ha
  have h2 : (p * q).natAbs < LB ^ (K + L) := by
    rw [Int.natAbs_mul, Nat.pow_add]
    exact Nat.mul_lt_mul'' hp hq
  rw [Nat.pow_succ]
  generalize LB ^ (K + L) = M at *
  have h3 : (a * b - p * q).natAbs ≤ (a * b).natAbs + (p * q).natAbs := by omega
  have h4 : 2 ≤ LB := by decide
  have h5 : M * 2 ≤ M * LB := Nat.mul_le_mul_left M h4
  omega
theorem d7N (h0K : ∀ i, i < (gproc n B c).cs.length → ∀ t, t < c → (F0s n B c i t).natAbs < LB ^ K) : Fok n c K B 0 := by
  have hle := (a3v (n := n) (fun i k => by obtain ⟨z, h, _⟩ := hB i k; exact ⟨z, h⟩) c).len
  have hlen : (a0g n B c).s.cs.length = (gproc n B c).cs.length := by rw [a0J]
  refine ⟨fun i hi => d8l hB hn hi, fun i hi t ht => c5h ?_ ht, fun i hi t ht => ?_⟩
  · exact b2a (b3x) (by rw [hlen]; exact hi) (b0b hB hn hi)
  · rw [Nat.zero_mul, Nat.add_zero]
    exact h0K i hi t ht
omit hB hn in
theorem c9O (hS : ∀ i, i < (gproc n B c).cs.length → Sz ((a0g n B c).M i) c K) {k i : Nat} (h : Fok n c K B k) (hk : k < (gproc n B c).cs.length) (hi : i < (gproc n B c).cs.length - (k + 1)) :
    RowP (a0g n B c) c ((gproc n B c).cs.length - (k + 1)) i (fun t => Fk n B c k ((gproc n B c).cs.length - (k + 1)) ((gproc n B c).cs.getD ((gproc n B c).cs.length - (k + 1)) 0) * Fk n B c k i t - Fk n B c k i ((gproc n B c).cs.getD ((gproc n B c).cs.length - (k + 1)) 0) * Fk n B c k ((gproc n B c).cs.length - (k + 1)) t) ∧
      ∀ t, t < c → (Fk n B c k ((gproc n B c).cs.length - (k + 1)) ((gproc n B c).cs.getD ((gproc n B c).cs.length - (k + 1)) 0) * Fk n B c k i t - Fk n B c k i ((gproc n B c).cs.getD ((gproc n B c).cs.length - (k + 1)) 0) * Fk n B c k ((gproc n B c).cs.length - (k + 1)) t).natAbs < LB ^ (K + (k + 1) * (K + 1)) := by
  have hlen : (a0g n B c).s.cs.length = (gproc n B c).cs.length := by rw [a0J]
  have hcs : (a0g n B c).s.cs = (gproc n B c).cs := by rw [a0J]
  have hm1 : (gproc n B c).cs.length - k = ((gproc n B c).cs.length - (k + 1)) + 1 := by omega
  have h1 := h.row i (by omega)
  have h2 := h.row ((gproc n B c).cs.length - (k + 1)) (by omega)
  have hhd : (gproc n B c).cs.getD ((gproc n B c).cs.length - (k + 1)) 0 < c := a1m (by omega)
  rw [hm1] at h1 h2
  refine ⟨?_, fun t ht => ?_⟩
  · have := d2z hi (by rw [hlen]; omega) h1 h2
    rw [hcs] at this
    exact this
  · have e1 : K + (k + 1) * (K + 1) = (K + k * (K + 1)) + K + 1 := by rw [Nat.succ_mul]; omega
    rw [e1]
    exact e0c (h.tsz hS (by omega) (by omega) _ hhd) (h.sz i (by omega) t ht) (h.sz i (by omega) _ hhd) (h.tsz hS (by omega) (by omega) t ht)
omit hB hn in
theorem d7O (hS : ∀ i, i < (gproc n B c).cs.length → Sz ((a0g n B c).M i) c K) {k : Nat} (h : Fok n c K B k) (hk : k < (gproc n B c).cs.length) : Fok n c K B (k + 1) := by
  have hlen : (a0g n B c).s.cs.length = (gproc n B c).cs.length := by rw [a0J]
  have hcs : (a0g n B c).s.cs = (gproc n B c).cs := by rw [a0J]
  have hm1 : (gproc n B c).cs.length - k = ((gproc n B c).cs.length - (k + 1)) + 1 := by omega
  have hs : ∀ i, Fk n B c (k + 1) i = if i < (gproc n B c).cs.length - (k + 1) then d2b ((gproc n B c).cs.getD ((gproc n B c).cs.length - (k + 1)) 0) c (Fk n B c k i) (Fk n B c k ((gproc n B c).cs.length - (k + 1))) else Fk n B c k i := fun i => rfl
  have hup : LB ^ (K + k * (K + 1)) ≤ LB ^ (K + (k + 1) * (K + 1)) := lbm (by rw [Nat.succ_mul]; omega)
  have all : ∀ i, i < (gproc n B c).cs.length → RowP (a0g n B c) c ((gproc n B c).cs.length - (k + 1)) i (Fk n B c (k + 1) i) ∧ (∀ t, t < c → a1a (Fk n B c (k + 1) i) c t = Fk n B c (k + 1) i t) ∧ ∀ t, t < c → (Fk n B c (k + 1) i t).natAbs < LB ^ (K + (k + 1) * (K + 1)) := by
    intro i hi
    have h1 := h.row i hi
    rw [hm1] at h1
    rw [hs i]
    by_cases hlt : i < (gproc n B c).cs.length - (k + 1)
    · rw [if_pos hlt]
      unfold d2b
      by_cases h0 : Fk n B c k i ((gproc n B c).cs.getD ((gproc n B c).cs.length - (k + 1)) 0) = 0
      · rw [if_pos h0]
        exact ⟨d2y hlt h1 (by rw [hcs]; exact h0), h.idem i hi, fun t ht => Nat.lt_of_lt_of_le (h.sz i hi t ht) hup⟩
      · rw [if_neg h0]
        obtain ⟨c1, c2⟩ := c9O hS h hk hlt
        exact ⟨c5b (b3x) (by rw [hlen]; exact hi) c1, fun t ht => c5h (b2a (b3x) (by rw [hlen]; exact hi) c1) ht, fun t ht => Nat.lt_of_le_of_lt (b0d ht) (c2 t ht)⟩
    · rw [if_neg hlt]
      refine ⟨?_, h.idem i hi, fun t ht => Nat.lt_of_lt_of_le (h.sz i hi t ht) hup⟩
      by_cases e2 : i = (gproc n B c).cs.length - (k + 1)
      · subst e2; exact c5a h1
      · exact d2x (by omega) h1 (by omega)
  exact ⟨fun i hi => (all i hi).1, fun i hi => (all i hi).2.1, fun i hi => (all i hi).2.2⟩
theorem c8w (hS : ∀ i, i < (gproc n B c).cs.length → Sz ((a0g n B c).M i) c K) (h0K : ∀ i, i < (gproc n B c).cs.length → ∀ t, t < c → (F0s n B c i t).natAbs < LB ^ K) : ∀ k, k ≤ (gproc n B c).cs.length → Fok n c K B k
  | 0, _ => d7N hB hn h0K
  | k + 1, h => d7O hS (c8w hS h0K k (by omega)) (by omega)
theorem e2n {i : Nat} (hi : i < (gproc n B c).cs.length) : vec c (Fk n B c (gproc n B c).cs.length i) = vec c (a1a (outI ((a0g n B c).M i) c) c) :=
  a4W fun t ht => (c8w (K := KB e + 1) hB hn (fun i _ => M_sz hB hn i) (e0C hB hn) _ (Nat.le_refl _)).top hi (by omega) t ht
end
end Go.Abs
namespace Go.Abs
theorem e2l {A L : Heap} {β n : Nat} {X : Nat → List ZI} (hA : β < A.length) (len : Nat) (oc : Option Nat) : lenV (hap (ax A β n X) L) (.mu β 0 len oc) = some (.int .i64 len) := by
  simp only [lenV, c5L hA]; rfl
def a1G (n : Nat) (B : Nat → Nat → Rat) (c : Nat) : List (List ZI) := mat (gproc n B c).cs.length fun i => vec c (a1a (outI ((a0g n B c).M i) c) c)
def Xp (X : Nat → List ZI) (n : Nat) (B : Nat → Nat → Rat) (c i : Nat) : Nat → List ZI := fun t => if t < i then vec c (F0s n B c t) else X t
def Yo (X : Nat → List ZI) (n : Nat) (B : Nat → Nat → Rat) (c k : Nat) : Nat → List ZI := fun t => if t < (gproc n B c).cs.length then vec c (Fk n B c k t) else X t
def Yi (X : Nat → List ZI) (n : Nat) (B : Nat → Nat → Rat) (c k i : Nat) : Nat → List ZI := fun t => if t < i then Yo X n B c (k + 1) t else Yo X n B c k t
section
variable (X : Nat → List ZI) (n : Nat) (B : Nat → Nat → Rat) (c : Nat)
theorem e0z : Xp X n B c 0 = X := funext fun t => if_neg (Nat.not_lt_zero t)
theorem e2E (i : Nat) : Xp X n B c i i = X i := if_neg (Nat.lt_irrefl i)
theorem e0A (i : Nat) : (fun a => if a = i then vec c (F0s n B c i) else Xp X n B c i a) = Xp X n B c (i + 1) := by
  funext a
  unfold Xp
  by_cases e : a = i
  · subst e; rw [if_pos rfl, if_pos (Nat.lt_succ_self a)]
  · rw [if_neg e]
    by_cases h : a < i
    · rw [if_pos h, if_pos (by omega)]
    · rw [if_neg h, if_neg (by omega)]
theorem e2k : Xp X n B c (gproc n B c).cs.length = Yo X n B c 0 := rfl
theorem e0w (k : Nat) : Yi X n B c k 0 = Yo X n B c k := funext fun t => if_neg (Nat.not_lt_zero t)
theorem e0y {k i t : Nat} (h : i ≤ t) (ht : t < (gproc n B c).cs.length) : Yi X n B c k i t = vec c (Fk n B c k t) := by
  unfold Yi
  rw [if_neg (by omega)]
  exact if_pos ht
theorem d4X {k i : Nat} {v : List ZI} (hi : i < (gproc n B c).cs.length) (hv : v = vec c (Fk n B c (k + 1) i)) : (fun a => if a = i then v else Yi X n B c k i a) = Yi X n B c k (i + 1) := by
  funext a
  unfold Yi
  by_cases e : a = i
  · subst e
    rw [if_pos rfl, if_pos (Nat.lt_succ_self a), hv]
    exact (if_pos hi).symm
  · rw [if_neg e]
    by_cases h : a < i
    · rw [if_pos h, if_pos (by omega)]
    · rw [if_neg h, if_neg (by omega)]
theorem e0x {k i : Nat} (hi : i < (gproc n B c).cs.length) (hv : Fk n B c (k + 1) i = Fk n B c k i) : Yi X n B c k (i + 1) = Yi X n B c k i := by
  refine (d4X X n B c hi (v := vec c (Fk n B c k i)) (by rw [hv])).symm.trans ?_
  funext a
  by_cases e : a = i
  · subst e; rw [if_pos rfl, e0y X n B c (Nat.le_refl a) hi]
  · rw [if_neg e]
theorem d5a (k i : Nat) : Fk n B c (k + 1) i = if i < (gproc n B c).cs.length - (k + 1) then d2b ((gproc n B c).cs.getD ((gproc n B c).cs.length - (k + 1)) 0) c (Fk n B c k i) (Fk n B c k ((gproc n B c).cs.length - (k + 1))) else Fk n B c k i := rfl
theorem e2j (k : Nat) : Yi X n B c k ((gproc n B c).cs.length - (k + 1)) = Yo X n B c (k + 1) := by
  funext t
  unfold Yi
  split
  · rfl
  · rename_i h
    unfold Yo
    rw [d5a, if_neg h]
end
theorem b6O (b : List (List ZI)) {e n c K : Nat} (hb : ∀ i, (h : i < b.length) → b[i].length = c) (hm : Mok e b) (hn : b.length = n) (hn64 : n ≤ 64) (hc : c ≤ 2097152) (hKB : KB e + 1 < 1099511627776) (hK : K + 1 < 100000000000) (hS : ∀ i, i < (gproc n (Bm b) c).cs.length → Sz ((a0g n (Bm b) c).M i) c K) (h0K : ∀ i, i < (gproc n (Bm b) c).cs.length → ∀ t, t < c → (F0s n (Bm b) c i t).natAbs < LB ^ K) :
    a0f Pr a2x [matV b, .int .i64 c] (.tup [matV (a1G n (Bm b) c), hsV (gproc n (Bm b) c).cs]) := by
  have hB := b5L hm
  have hrn := (a3v (n := n) (fun i k => by obtain ⟨z, h, _⟩ := hB i k; exact ⟨z, h⟩) c).len
  have hF := fun k hk => c8w (n := n) (c := c) hB hn64 hS h0K k hk
  have hF0 := fun i hi => d8l (n := n) (c := c) hB hn64 (i := i) hi
  refine a0f.intro c4g c4b (Nat.le_of_ble_eq_true rfl) (a6F (a9o _) (c5K _)) fun H hH => ?_
  refine Safe.rg rfl ?_
  simp only [b3W, E3, seval]
  refine Safe.rg rfl ?_
  simp only [b3V, E3, seval]
  refine (c6t hc (a8a b (Bm b) hb (fun _ _ => rfl) hm hB hn hn64 hc (by omega) (hap H []))).mono ?_
  rintro r' A ⟨β, rows, lx, hR, hβ, hAβ, ⟨L', hL'⟩, hHr, hlz, hlk, rfl⟩
  have hA : β < A.length := a0h hAβ
  have hax : ax A β n (mg rows) = A := by rw [← hR.len]; exact e0n hAβ
  rw [a2X] at hβ hL'
  have hHA : H.length ≤ A.length := by omega
  have hRef : ∀ X', a0S (ax A β n X') := fun X' => e0o hA (by rw [hax]; exact hHr)
  have hnb : ∀ j (L : Nat) oc, nref (lid A j) (.mu β 0 L oc) = true := fun j L oc => c3v (by unfold lid; omega)
  have hnc : ∀ j, nref j (hsV (gproc n (Bm b) c).cs) = true := fun j => a1o (c5K _)
  have hin : A = hap (ax A β n (mg rows)) [] := by rw [a2X, hax]
  rw [hin]
  clear hin
  have hlow : ∀ i, i < (gproc n (Bm b) c).cs.length → a0f Pr a2E [vecV (mg rows i)] (vecV (vec c (F0s n (Bm b) c i))) := fun i hi => by
    have hw := hR.wid i (by omega)
    have hz := hR.at_ i
    have hnz := b2a b3x (by rw [a0J]; exact hi) (b0b (c := c) hB hn64 hi)
    have := b9G (mg rows i) (hR.ok i (by omega)) (by
      obtain ⟨k, hk, hk2⟩ := hnz
      exact ⟨k, by rw [hw]; exact hk, by rw [hz k (by omega) hk]; exact hk2⟩) (by omega)
    rw [hw, a4W (g := F0s n (Bm b) c i) fun k hk => b4L (fun t ht => hz t (by omega) ht) hk] at this
    exact this
  generalize hrs : mg rows = X at *
  generalize hcsl : (gproc n (Bm b) c).cs.length = r at *
  simp only [a3A, a1q, a1U, a2i, E3, seval]
  refine Safe.keep [6, 7] ?_
  simp only [E3, seval]
  refine Safe.dropX [] (hRef _) hHA (by simp only [List.all_cons, List.all_nil, hnb, hnc, E3, seval]) (RC.nil) ?_
  refine Safe.rg rfl ?_
  simp only [b3U, a3A, a1q, a1U, a2i, c2K, hcsl, e2F hA hrn, E3, seval]
  refine Safe.rg rfl ?_
  simp only [b3T, a3A, a1q, a1U, a2i, e2l hA, E3, seval]
  refine Safe.lp rfl ?_
  refine Safe.keep [6, 7, 32, 33] ?_
  simp only [E3, seval]
  refine Safe.loopN r (fun i => [(6, .mu β 0 r (some r)), (7, hsV (gproc n (Bm b) c).cs), (32, .int .i64 r), (33, .int .i64 i)]) (fun i => hap (ax A β n (Xp X n (Bm b) c i)) []) rfl (by rw [e0z]) (fun i hi ih => ?_) ?_
  · have hlt : ((i : Int) < (r : Int)) = True := eq_true (by omega)
    have hiw : IntKind.wrap .i64 ((i : Int) + 1) = ((i + 1 : Nat) : Int) := by rw [a0b] <;> omega
    refine Safe.inLoop ?_
    refine Safe.rg rfl ?_
    simp only [a7N, hlt, E3, seval]
    refine Safe.cd rfl ?_
    simp only [E3, seval]
    refine Safe.rg rfl ?_
    simp only [b3S, E3, seval]
    refine Safe.rg rfl ?_
    simp only [b3R, a3A, a1q, a1U, a2i, c6y hA hi, X_at hA (show i < n by omega), e2E, E3, seval]
    refine (hlow i (by omega)).acall ?_
    simp only [a3A, a1q, a1U, a2i, c6y hA hi, X_st hA (show i < n by omega), e0A, E3, seval]
    refine Safe.rg rfl ?_
    simp only [b3Q, hiw, E3, seval]
    refine Safe.keep [6, 7, 32, 33] ?_
    simp only [E3, seval]
    exact ih
  · refine Safe.inLoop ?_
    refine Safe.rg rfl ?_
    simp only [a7N, Int.lt_irrefl, E3, seval]
    refine Safe.cd rfl ?_
    simp only [E3, seval]
    have hend : Xp X n (Bm b) c r = Yo X n (Bm b) c 0 := by rw [← hcsl]; exact e2k X n (Bm b) c
    rw [hend]
    have hw8 : IntKind.wrap .i64 ((r : Int) - 1) = (r : Int) - 1 - ((0 : Nat) : Int) := by rw [a0b] <;> omega
    refine Safe.rg rfl ?_
    simp only [b3P, a3A, a1q, a1U, a2i, e2l hA, hw8, E3, seval]
    refine Safe.lp rfl ?_
    refine Safe.keep [6, 7, 11] ?_
    simp only [E3, seval]
    refine Safe.loopN r (fun k => [(6, .mu β 0 r (some r)), (7, hsV (gproc n (Bm b) c).cs), (11, .int .i64 ((r : Int) - 1 - (k : Int)))]) (fun k => hap (ax A β n (Yo X n (Bm b) c k)) []) rfl rfl (fun k hk ih => ?_) ?_
    · obtain ⟨m, hm⟩ : ∃ m, m = r - (k + 1) := ⟨_, rfl⟩
      have hmr : m < r := by omega
      have hm1 : (r : Int) - 1 - (k : Int) = (m : Int) := by omega
      rw [hm1]
      have hge : ((m : Int) ≥ 0) = True := eq_true (by omega)
      have hFk := hF k (by omega)
      obtain ⟨h, hh⟩ : ∃ h, h = (gproc n (Bm b) c).cs.getD m 0 := ⟨_, rfl⟩
      have hhc : h < c := by rw [hh]; exact a1m (by omega)
      refine Safe.inLoop ?_
      refine Safe.rg rfl ?_
      simp only [a7M, hge, E3, seval]
      refine Safe.cd rfl ?_
      simp only [E3, seval]
      refine Safe.rg rfl ?_
      simp only [b1k, a3A, a1q, a1U, a2i, d7Y _ (gproc n (Bm b) c).cs .i64 (show m < (gproc n (Bm b) c).cs.length by omega), E3, seval]
      rw [← hh]
      refine Safe.rg rfl ?_
      simp only [b1j, E3, seval]
      refine Safe.lp rfl ?_
      refine Safe.keep [6, 7, 11, 12, 56, 57] ?_
      simp only [intV, E3, seval]
      refine Safe.loopN m (fun i => [(6, .mu β 0 r (some r)), (7, hsV (gproc n (Bm b) c).cs), (11, .int .i64 m), (12, .int .i64 h), (56, .int .i64 m), (57, .int .i64 i)]) (fun i => hap (ax A β n (Yi X n (Bm b) c k i)) []) rfl (by rw [e0w]) (fun i hi ihi => ?_) ?_
      · have hlt : ((i : Int) < (m : Int)) = True := eq_true (by omega)
        have hiw : IntKind.wrap .i64 ((i : Int) + 1) = ((i + 1 : Nat) : Int) := by rw [a0b] <;> omega
        have hir : i < r := by omega
        have hin : i < n := by omega
        have hmn : m < n := by omega
        have hYi := e0y X n (Bm b) c (k := k) (Nat.le_refl i) (by omega)
        have hYm := e0y X n (Bm b) c (k := k) (i := i) (t := m) (by omega) (by omega)
        have hnx := d5a n (Bm b) c k i
        rw [hcsl, ← hm, if_pos hi, ← hh] at hnx
        unfold d2b at hnx
        have hsame := e0x X n (Bm b) c (k := k) (i := i) (by omega)
        have hsucc := fun v => d4X X n (Bm b) c (k := k) (i := i) (v := v) (by omega)
        have hcl := c9O (n := n) (B := Bm b) (c := c) (by rw [hcsl]; exact hS) hFk (by omega) (i := i) (by omega)
        rw [hcsl, ← hm, ← hh] at hcl
        obtain ⟨hcr, hcz⟩ := hcl
        have hcnz := b2a b3x (by rw [a0J]; omega) hcr
        have hzi := hFk.sz i (by omega)
        have hzm := hFk.tsz (by rw [hcsl]; exact hS) (i := m) (by omega) (by omega)
        have hkk : K + k * (K + 1) ≤ 64 * (K + 1) := by
          have := Nat.mul_le_mul_right (K + 1) (show k ≤ 63 by omega)
          omega
        have hkk1 : K + (k + 1) * (K + 1) ≤ 65 * (K + 1) := by
          rw [Nat.succ_mul]; omega
        generalize hK2 : K + k * (K + 1) = K2 at *
        generalize hK3 : K + (k + 1) * (K + 1) = K3 at *
        generalize hf : Fk n (Bm b) c k i = f at *
        generalize hg : Fk n (Bm b) c k m = g at *
        have hfl : ∀ t, t < c → Zok K2 (canZ (f t)) := fun t ht => a0z (hzi t ht)
        have hgl : ∀ t, t < c → Zok (K) (canZ (g t)) := fun t ht => a0z (hzm t ht)
        refine Safe.inLoop ?_
        refine Safe.rg rfl ?_
        simp only [a6q, hlt, E3, seval]
        refine Safe.cd rfl ?_
        simp only [E3, seval]
        refine Safe.rg rfl ?_
        simp only [b1i, E3, seval]
        refine Safe.rg rfl ?_
        simp only [b1h, a3A, a1q, a1U, a2i, c6y hA hir, X_at hA hin, hYi, a0B _ (vec c f) .i64 h (by rw [a0a]; exact hhc), a1T, E3, seval]
        refine Safe.rg rfl ?_
        simp only [b1g, a3A, a1q, a1U, a2i, E3, seval]
        refine (a0K (canZ (f h)) ((hfl h hhc).mono (by omega))).acall ?_
        simp only [a0y, E3, seval]
        by_cases h0 : f h = 0
        · have hs0 : ((f h).sign = 0) = True := eq_true (by rw [h0]; rfl)
          simp only [hs0, E3, seval]
          refine Safe.cd rfl ?_
          simp only [E3, seval]
          refine Safe.rg rfl ?_
          simp only [a6o, hiw, E3, seval]
          refine Safe.keep [6, 7, 11, 12, 56, 57] ?_
          simp only [E3, seval]
          refine Safe.dropX [] (hRef _) hHA (by simp only [List.all_cons, List.all_nil, hnb, hnc, E3, seval]) (RC.nil) ?_
          rw [if_pos h0] at hnx
          rw [hsame hnx] at ihi
          exact ihi
        · have hs0 : ((f h).sign = 0) = False := eq_false (fun q => h0 (Int.sign_eq_zero_iff_zero.1 q))
          simp only [hs0, E3, seval]
          refine Safe.cd rfl ?_
          simp only [E3, seval]
          rw [if_neg h0] at hnx
          refine Safe.rg rfl ?_
          simp only [b1f, E3, seval]
          refine Safe.nilrow 15 2 (by decide) (by simp only [E3, seval]) ?_
          simp only [a3A, a1q, a1U, a2i, E3, seval]
          refine Safe.rg rfl ?_
          simp only [b1e, a3A, a1q, a1U, a2i, c6y hA hir, X_at hA hin, hYi, c3g, a0a, E3, seval]
          refine Safe.lp rfl ?_
          refine Safe.keep [6, 7, 11, 12, 13, 14, 15, 56, 57, 74, 75] ?_
          simp only [E3, seval]
          obtain ⟨G, hG⟩ : ∃ G : Nat → Int, G = fun t => g h * f t - f h * g t := ⟨_, rfl⟩
          rw [← hG] at hcr hcnz hnx
          have hGz : ∀ t, t < c → (G t).natAbs < LB ^ K3 := fun t ht => by rw [hG]; exact hcz t ht
          refine Safe.loopN c (fun t => [(6, .mu β 0 r (some r)), (7, hsV (gproc n (Bm b) c).cs), (11, .int .i64 m), (12, .int .i64 h), (13, .int .i64 i), (14, .loc (lid A 0) 0 0), (15, .mu (lid A 1) 0 t none), (56, .int .i64 m), (57, .int .i64 i), (74, .int .i64 c), (75, .int .i64 t)])
            (fun t => hap (ax A β n (Yi X n (Bm b) c k i)) [some ⟨2, [Z (f h)]⟩, some ⟨2, (vec t G).map ZI.av⟩]) rfl rfl (fun t ht iht => ?_) ?_
          · have hlt2 : ((t : Int) < (c : Int)) = True := eq_true (by omega)
            have htw : IntKind.wrap .i64 ((t : Int) + 1) = ((t + 1 : Nat) : Int) := by rw [a0b] <;> omega
            have hm1 := a2a (canZ (g h)) (canZ (f t)) _ _ (hgl h hhc) (hfl t ht) (by omega)
            have hm2 := a2a (canZ (f h)) (canZ (g t)) _ _ (hfl h hhc) (hgl t ht) (by omega)
            have hs := c8y (a := g h * f t) (b := f h * g t) (k := K + K2) (b5b (hzm h hhc) (hzi t ht)) (by rw [Nat.add_comm]; exact b5b (hzi h hhc) (hzm t ht)) (by omega)
            rw [a0y, a0y] at hm1 hm2
            have hGt : Z (g h * f t - f h * g t) = Z (G t) := by rw [hG]
            rw [hGt] at hs
            refine Safe.inLoop ?_
            refine Safe.rg rfl ?_
            simp only [a6p, hlt2, E3, seval]
            refine Safe.cd rfl ?_
            simp only [E3, seval]
            refine Safe.rg rfl ?_
            simp only [b1d, E3, seval]
            refine Safe.rg rfl ?_
            simp only [b1c, a3A, a1q, a1U, a2i, c6y hA hir, X_at hA hin, c6y hA hmr, X_at hA hmn, hYi, hYm, a0B _ (vec c f) .i64 t (by rw [a0a]; exact ht), a0B _ (vec c g) .i64 h (by rw [a0a]; exact hhc), a1T, E3, seval]
            refine hm1.dcall ?_
            simp only [a3A, a1q, a1U, a2i, c6y hA hmr, X_at hA hmn, hYm, a0B _ (vec c g) .i64 t (by rw [a0a]; exact ht), a1T, E3, seval]
            refine hm2.dcall ?_
            simp only [E3, seval]
            refine hs.dcall ?_
            simp only [E3, seval]
            rw [d7D (bytes := 32) (y := Z (G t)) (hRef _) 1 (by show H.length ≤ _; unfold lid; omega) ZI.cl (vec t G) (canZ (G t)) (vec (t + 1) G) (by rw [a0a]) rfl (RC.one (Z_cl _) (RC.row ZI.cl RC.nil)) rfl (a4z _ _) (by omega) (by omega)]
            simp only [E3, seval]
            refine Safe.rg rfl ?_
            simp only [b1b, htw, E3, seval]
            refine Safe.keep [6, 7, 11, 12, 13, 14, 15, 56, 57, 74, 75] ?_
            simp only [hnb, hnc, E3, seval]
            exact iht
          · refine Safe.inLoop ?_
            refine Safe.rg rfl ?_
            simp only [a6p, Int.lt_irrefl, E3, seval]
            refine Safe.cd rfl ?_
            simp only [E3, seval]
            have hfm : frz (lid A 1) ⟨2, (vec c G).map ZI.av⟩ (.mu (lid A 1) 0 c none) = vecV (vec c G) := a7I A 1 (vec c G) c none (by rw [a0a])
            have hfo : frz (lid A 1) ⟨2, (vec c G).map ZI.av⟩ (.mu β 0 r (some r)) = .mu β 0 r (some r) := a6j (.mu _ _ _ _ (by show β ≠ _; unfold lid; omega))
            have hfh : frz (lid A 1) ⟨2, (vec c G).map ZI.av⟩ (hsV (gproc n (Bm b) c).cs) = hsV (gproc n (Bm b) c).cs := a6X (c5K _)
            refine Safe.freezeX 1 (hRef _) hHA rfl (a1j 2 ZI.av _ ZI.cl) ?_
            refine Safe.keep [6, 7, 11, 12, 13, 15, 56, 57] ?_
            simp only [hfm, hfo, hfh, E3, seval]
            have hlowG := b9G (vec c G) (a4V hc hGz) (by
              obtain ⟨t, ht, h2⟩ := hcnz
              exact ⟨t, by rw [a0a]; exact ht, by rw [a6I ht]; exact h2⟩) (by omega)
            rw [a0a, a4W (g := a1a G c) fun t ht => b4L (fun t ht => a6I ht) ht] at hlowG
            refine Safe.rg rfl ?_
            simp only [b1a, E3, seval]
            refine hlowG.acall ?_
            simp only [a3A, a1q, a1U, a2i, c6y hA hir, X_st hA hin, hsucc _ (show vec c (a1a G c) = vec c (Fk n (Bm b) c (k + 1) i) by rw [hnx]), E3, seval]
            refine Safe.rg rfl ?_
            simp only [a6o, hiw, E3, seval]
            refine Safe.keep [6, 7, 11, 12, 56, 57] ?_
            simp only [E3, seval]
            refine Safe.dropX [some ⟨2, [Z (f h)]⟩] (hRef _) hHA (by simp only [List.all_cons, List.all_nil, hnb, hnc, E3, seval]) (RC.one (Z_cl _) RC.nil) ?_
            refine Safe.dropX [] (hRef _) hHA (by simp only [List.all_cons, List.all_nil, hnb, hnc, E3, seval]) (RC.nil) ?_
            exact ihi
      · refine Safe.inLoop ?_
        refine Safe.rg rfl ?_
        simp only [a6q, Int.lt_irrefl, E3, seval]
        refine Safe.cd rfl ?_
        simp only [E3, seval]
        have he := e2j X n (Bm b) c k
        rw [hcsl, ← hm] at he
        rw [he]
        have hw24 : IntKind.wrap .i64 ((m : Int) - 1) = (r : Int) - 1 - ((k + 1 : Nat) : Int) := by rw [a0b] <;> omega
        refine Safe.rg rfl ?_
        simp only [b0Z, hw24, E3, seval]
        refine Safe.keep [6, 7, 11] ?_
        simp only [E3, seval]
        exact ih
    · have hge : ((r : Int) - 1 - (r : Int) ≥ 0) = False := eq_false (by omega)
      refine Safe.inLoop ?_
      refine Safe.rg rfl ?_
      simp only [a7M, hge, E3, seval]
      refine Safe.cd rfl ?_
      simp only [E3, seval]
      obtain ⟨L2, hL2⟩ : ∃ L2, hap (ax A β n (Yo X n (Bm b) c r)) [] = hap H L2 := by
        rw [hL']; exact e2d [] hβ (by rw [← hL']; exact hA)
      have hlook : L2[β - H.length]? = some (some ⟨1, (mat n (Yo X n (Bm b) c r)).map vecV⟩) := by
        have h1 : (hap (ax A β n (Yo X n (Bm b) c r)) [])[β]? = some (some ⟨1, (mat n (Yo X n (Bm b) c r)).map vecV⟩) := by
          rw [a2X]; unfold ax
          rw [a1R _ _ _ _ _ _ hA, if_pos rfl]
        rw [hL2] at h1
        simp only [hap] at h1
        rwa [List.getElem?_append_right hβ] at h1
      have hid : β = lid H (β - H.length) := by unfold lid; omega
      rw [hL2]
      refine Safe.freeze (β - H.length) hH rfl hlook (a1j 1 vecV _ a0d) ?_
      have hfm : frz (lid H (β - H.length)) ⟨1, (mat n (Yo X n (Bm b) c r)).map vecV⟩ (.mu β 0 r (some r)) = matV (a1G n (Bm b) c) := by
        have := b9V H (β - H.length) ⟨1, (mat n (Yo X n (Bm b) c r)).map vecV⟩ 0 r (some r) (by show 0 + r ≤ ((mat n (Yo X n (Bm b) c r)).map vecV).length; rw [List.length_map, a0c]; omega)
        rw [← hid] at this ⊢
        rw [this]
        show AV.sl 1 ((((mat n (Yo X n (Bm b) c r)).map vecV).drop 0).take r) = .sl 1 ((a1G n (Bm b) c).map vecV)
        rw [List.drop_zero, ← List.map_take]
        congr 2
        apply List.ext_getElem
        · rw [List.length_take, a0c, a1G, a0c, hcsl]; omega
        · intro t h1 h2
          have htr : t < r := by rw [a1G, a0c, hcsl] at h2; exact h2
          have hs : (a1G n (Bm b) c)[t] = vec c (a1a (outI ((a0g n (Bm b) c).M t) c) c) := a3H h2
          rw [List.getElem_take, a3H, hs]
          have := e2n (n := n) (c := c) hB hn64 (i := t) (by omega)
          rw [hcsl] at this
          unfold Yo
          rw [if_pos (by omega), this]
      have hfh : frz (lid H (β - H.length)) ⟨1, (mat n (Yo X n (Bm b) c r)).map vecV⟩ (hsV (gproc n (Bm b) c).cs) = hsV (gproc n (Bm b) c).cs := a6X (c5K _)
      refine Safe.keep [6, 7] ?_
      simp only [hfm, hfh, E3, seval]
      refine Safe.rg rfl ?_
      simp only [b0Y, E3, seval]
      refine Safe.rt rfl ?_
      simp only [E3, seval]
      first | exact ⟨rfl, _, rfl⟩ | exact ⟨_, rfl⟩ | exact ⟨trivial, _, rfl⟩
theorem b2G (b : List (List ZI)) {e n c : Nat} (hb : ∀ i, (h : i < b.length) → b[i].length = c) (hm : Mok e b) (hn : b.length = n) (hn64 : n ≤ 64) (hc : c ≤ 2097152) (hK : KB e + 2 < 100000000000) :
    a0f Pr a2x [matV b, .int .i64 c] (.tup [matV (a1G n (Bm b) c), hsV (gproc n (Bm b) c).cs]) :=
  b6O b hb hm hn hn64 hc (by omega) (K := KB e + 1) (by omega) (fun i _ => M_sz (b5L hm) hn64 i) (e0C (b5L hm) hn64)
end Go.Abs
namespace Go.Abs
theorem c4n {b : List (List ZI)} {e n : Nat} (hm : Mok e b) (hn : n ≤ 64) : ((detI n (Bm b) : Int) : Rat) = det n (Bm b) := by
  obtain ⟨z, hz, _⟩ := e1W (b5L hm) n (.inl hn)
  have h := e1Y (n := n) (B := Bm b) fun i k => ⟨_, rfl⟩
  rw [← h]
  unfold detI
  rw [(a7m hz).1, hz]
theorem d9Y {b c : List (List ZI)} {e f n : Nat} (hb : Mok e b) (hc : Mok f c) (hn : n ≤ 64) {z : Int} (h : det n (Bm c) = (z : Rat)) : detI n (Bm c) = z := Rat.intCast_inj.1 (by rw [c4n hc hn, h])
theorem b8j (f : Nat → Int) : ∀ m, ((b0q f m : Int) : Rat) = sumR (fun j => (f j : Rat)) m
  | 0 => rfl
  | m + 1 => by rw [b0q, sumR, ← b8j f m, Rat.intCast_add]
theorem d5i : detI 3 (Bm (c4M 3)) = 1 := by
  refine d9Y (c3w 3 (by decide)) (c3w 3 (by decide)) (by decide) ?_
  rw [show ((1 : Int) : Rat) = 1 from rfl, ← b7I 3]
  refine a0D fun r c hr hc => ?_
  unfold Bm c4M oneR
  rw [c8W hr, a6I hc]
  unfold updF
  by_cases e : r = c
  · rw [if_pos e, if_pos e.symm]; rfl
  · rw [if_neg e, if_neg (Ne.symm e)]; rfl
theorem c2V : a0f Pr a8f [] (.bool true) := by
  have hu := c3w 3 (by decide)
  have h0 : sqE (c4M 3) = 0 := d8y (k := 3) (a0c _ _) (fun i hi => by
    have : (c4M 3)[i] = vec 3 (updF (fun _ => 0) i 1) := a3H hi
    rw [this, a0a]) (by decide)
  have hd := d8X (c4M 3) (hu.mono (show 1 ≤ 1048576 by decide)) b5p h0
  rw [show (c4M 3).length = 3 from a0c _ _, d5i] at hd
  refine a0f.intro c0T c0S (Nat.le_of_ble_eq_true rfl) (.bool _) fun H hH => ?_
  refine Safe.rg rfl ?_
  simp only [b0P, E3, Nat.reduceLeDiff, Nat.reduceSub, Nat.reduceAdd, Nat.reduceEqDiff, reduceCtorEq, ↓reduceIte]
  refine Safe.rg rfl ?_
  simp only [b0O, E3, Nat.reduceLeDiff, Nat.reduceSub, Nat.reduceAdd, Nat.reduceEqDiff, reduceCtorEq, ↓reduceIte]
  first | refine (c8T 3 (by decide)).acall ?_ | refine (c8T 3 (by decide)).dcall ?_
  try simp only [E3, Nat.reduceLeDiff, Nat.reduceSub, Nat.reduceAdd, Nat.reduceEqDiff, reduceCtorEq, ↓reduceIte]
  refine Safe.rg rfl ?_
  simp only [b0N, E3, Nat.reduceLeDiff, Nat.reduceSub, Nat.reduceAdd, Nat.reduceEqDiff, reduceCtorEq, ↓reduceIte]
  first | refine (hd).acall ?_ | refine (hd).dcall ?_
  try simp only [E3, Nat.reduceLeDiff, Nat.reduceSub, Nat.reduceAdd, Nat.reduceEqDiff, reduceCtorEq, ↓reduceIte]
  refine Safe.rg rfl ?_
  simp only [b0M, E3, Nat.reduceLeDiff, Nat.reduceSub, Nat.reduceAdd, Nat.reduceEqDiff, reduceCtorEq, ↓reduceIte]
  refine (a3i 1 (by decide) (by decide)).dcall ?_
  simp only [E3, Nat.reduceLeDiff, Nat.reduceSub, Nat.reduceAdd, Nat.reduceEqDiff, reduceCtorEq, ↓reduceIte]
  refine (c9t (z := 1) (k := 1) (by decide) (by decide)).dcall ?_
  simp only [E3, Nat.reduceLeDiff, Nat.reduceSub, Nat.reduceAdd, Nat.reduceEqDiff, reduceCtorEq, ↓reduceIte]
  have hl : (((limbs (Int.natAbs 1)).length : Nat) : Int) = 1 := by rw [a5i (by decide), List.length_cons, show Int.natAbs 1 / LB = 0 by decide, a0V]; rfl
  refine Safe.rt rfl ?_
  simp only [hl, E3, Nat.reduceLeDiff, Nat.reduceSub, Nat.reduceAdd, Nat.reduceEqDiff, reduceCtorEq, ↓reduceIte]
  first | exact ⟨rfl, _, rfl⟩ | exact ⟨_, rfl⟩ | exact ⟨trivial, _, rfl⟩
end Go.Abs
namespace Go.Abs
def gcdF (d : Int) (q : Nat → Int) : Nat → Nat
  | 0 => d.natAbs
  | n + 1 => Int.gcd (gcdF d q n) (q n)
def sgD (d : Int) : Int := if d < 0 then -1 else 1
theorem b3z (d : Int) (q : Nat → Int) : ∀ n, (gcdF d q n : Int) ∣ d
  | 0 => by rw [gcdF]; exact Int.natAbs_dvd.2 (Int.dvd_refl d)
  | n + 1 => Int.dvd_trans (Int.gcd_dvd_left ..) (b3z d q n)
theorem c9m (d : Int) (q : Nat → Int) : ∀ {n i : Nat}, i < n → (gcdF d q n : Int) ∣ q i
  | 0, _, h => absurd h (by omega)
  | n + 1, i, h => by
    rw [gcdF]
    by_cases e : i = n
    · subst e; exact Int.gcd_dvd_right ..
    · exact Int.dvd_trans (Int.gcd_dvd_left ..) (c9m d q (by omega))
theorem d3W {d : Int} (hd : d ≠ 0) (q : Nat → Int) (n : Nat) : gcdF d q n ≠ 0 := fun h => by
  have := b3z d q n
  rw [h] at this
  exact hd (Int.zero_dvd.1 this)
theorem d9t {d : Int} (hd : d ≠ 0) (q : Nat → Int) (n : Nat) : gcdF d q n ≤ d.natAbs := Nat.le_of_dvd (by omega) (Int.ofNat_dvd_left.1 (b3z d q n))
theorem c5Q (c d : Int) (q p : Nat → Int) : ∀ n, (∀ i, i < n → p i = c * q i) → gcdF (c * d) p n = c.natAbs * gcdF d q n
  | 0, _ => by rw [gcdF, gcdF, Int.natAbs_mul]
  | n + 1, h => by
    rw [gcdF, gcdF, c5Q c d q p n fun i hi => h i (by omega), h n (by omega)]
    rw [Int.gcd, Int.gcd, Int.natAbs_mul, Int.natAbs_natCast, Int.natAbs_natCast, Nat.gcd_mul_left]
/-- Over the least denominator nothing more can be taken out. -/
theorem d6K (x : Nat → Rat) (n : Nat) : gcdF (a0O x n) (outI x n) n = 1 := by
  have hL := a5j x n
  have hL0 : (a0O x n : Int) ≠ 0 := by omega
  have hg := d3W hL0 (outI x n) n
  obtain ⟨l, hl⟩ := b3z (a0O x n) (outI x n) n
  have hd := fun i (hi : i < n) => c9m (a0O x n) (outI x n) hi
  generalize gcdF (a0O x n) (outI x n) n = g at *
  have hl0 : l ≠ 0 := fun e => hL0 (by rw [hl, e, Int.mul_zero])
  have hdv : a0O x n ∣ l.natAbs := a9r fun i hi => by
    obtain ⟨o, ho⟩ := hd i hi
    refine c9x (z := o) hl0 ?_
    have h1 := a4Y x hi
    have h2 : ((a0O x n : Nat) : Rat) = (((a0O x n : Nat) : Int) : Rat) := rfl
    rw [ho, h2, hl, Rat.intCast_mul, Rat.intCast_mul] at h1
    have hgr : (((g : Nat) : Int) : Rat) ≠ 0 := fun e => hg (by have := Rat.intCast_inj.1 (show (((g : Nat) : Int) : Rat) = ((0 : Int) : Rat) from e); omega)
    have h3 : (((g : Nat) : Int) : Rat) * ((l : Rat) * x i - (o : Rat)) = 0 := by grind
    rcases Rat.mul_eq_zero.1 h3 with h | h
    · exact absurd h hgr
    · grind
  obtain ⟨k, hk⟩ := hdv
  have h1 : a0O x n = g * l.natAbs := by
    have := congrArg Int.natAbs hl
    rwa [Int.natAbs_natCast, Int.natAbs_mul, Int.natAbs_natCast] at this
  rw [hk] at h1
  have h2 : a0O x n * 1 = a0O x n * (g * k) := by rw [Nat.mul_one, Nat.mul_left_comm]; exact h1
  exact Nat.eq_one_of_mul_eq_one_right (Nat.eq_of_mul_eq_mul_left hL h2).symm
/-- Numbers over one denominator, brought into lowest terms. -/
theorem d1W {d : Int} (hd : d ≠ 0) {q : Nat → Int} {x : Nat → Rat} {n : Nat} (h : ∀ i, i < n → ((q i : Int) : Rat) = (d : Rat) * x i) :
    d = sgD d * (gcdF d q n : Int) * (a0O x n : Int) ∧ ∀ i, i < n → q i = sgD d * (gcdF d q n : Int) * outI x n i := by
  have hL := a5j x n
  have hdv : (a0O x n : Int) ∣ d := Int.ofNat_dvd_left.2 (a9r fun i hi => c9x hd (h i hi).symm)
  obtain ⟨c, hc⟩ := hdv
  have hq : ∀ i, i < n → q i = c * outI x n i := fun i hi => by
    refine Rat.intCast_inj.1 ?_
    rw [h i hi, hc, Rat.intCast_mul, Rat.intCast_mul, ← a4Y x hi]
    have h3 : (((a0O x n : Nat) : Int) : Rat) = ((a0O x n : Nat) : Rat) := rfl
    rw [h3]
    grind
  have hg : gcdF d q n = c.natAbs := by
    rw [hc, Int.mul_comm, c5Q c (a0O x n) (outI x n) q n hq, d6K, Nat.mul_one]
  have hs : sgD d * (c.natAbs : Int) = c := by
    unfold sgD
    by_cases hn : d < 0
    · rw [if_pos hn]
      have : c < 0 := Classical.byContradiction fun hge => by
        have := Int.mul_nonneg (show (0 : Int) ≤ (a0O x n : Int) by omega) (show 0 ≤ c by omega)
        omega
      omega
    · rw [if_neg hn]
      have : 0 ≤ c := Classical.byContradiction fun hlt => by
        have := Int.mul_neg_of_pos_of_neg (show (0 : Int) < (a0O x n : Int) by omega) (show c < 0 by omega)
        omega
      omega
  rw [hg, hs]
  exact ⟨by rw [Int.mul_comm]; exact hc, hq⟩
theorem d0d (q P : Nat → Int) (d D : Int) {n K : Nat} (hq : ∀ i, i < n → (q i).natAbs < LB ^ K) (hd : d.natAbs < LB ^ K) (hK : K < 17592186043000) (hn : n ≤ 2097152) (hd0 : d ≠ 0)
    (hD : d = sgD d * (gcdF d q n : Int) * D) (hP : ∀ i, i < n → q i = sgD d * (gcdF d q n : Int) * P i) : a0f Pr a6e [vecV (vec n q), Z d] (.tup [vecV (vec n P), Z D]) := by
  have hgl : ∀ i, gcdF d q i < LB ^ K := fun i => Nat.lt_of_le_of_lt (d9t hd0 q i) hd
  have hg0 := d3W hd0 q n
  have hvq : Vok K (vec n q) := a4V hn hq
  have hzq : ∀ i, (h : i < n) → Zok K (canZ (q i)) := fun i hi => a0z (hq i hi)
  refine a0f.intro c4a c3Y (Nat.le_of_ble_eq_true rfl) (a6F (a0d _) (Z_cl _)) fun H hH => ?_
  refine Safe.rg rfl ?_
  simp only [b3N, E3, seval]
  refine Safe.rg rfl ?_
  simp only [b3M, E3, seval]
  refine (d1M (canZ d) ((a0z hd).mono (by omega))).acall ?_
  simp only [a0y, E3, seval]
  refine Safe.rg rfl ?_
  simp only [b3L, c3g, a0a, E3, seval]
  refine Safe.lp rfl ?_
  refine Safe.keep [0, 3, 4, 5, 6, 20, 21, 22] ?_
  try simp only [E3, seval]
  refine Safe.loopN (n) (fun i => [(0, vecV (vec n q)), (3, .loc (lid H 0) 0 0), (4, .nil), (5, .loc (lid H 1) 0 0), (6, .loc (lid H 2) 0 0), (20, vecV (vec n q)), (21, .int .i64 n), (22, .int .i64 i)]) (fun i => hap H [some ⟨2, [Z d]⟩, some ⟨2, [.agg [.bool false, .nil]]⟩, some ⟨2, [Z (gcdF d q i : Nat)]⟩]) rfl rfl (fun i hi ih => ?_) ?_
  · have hlt : ((i : Int) < (n : Int)) = True := eq_true (by omega)
    have hiw : IntKind.wrap .i64 ((i : Int) + 1) = ((i + 1 : Nat) : Int) := by rw [a0b] <;> omega
    refine Safe.inLoop ?_
    refine Safe.rg rfl ?_
    simp only [a7L, hlt, E3, seval]
    refine Safe.cd rfl ?_
    simp only [E3, seval]
    refine Safe.rg rfl ?_
    simp only [b3K, a0B _ (vec n q) _ i (by rw [a0a]; exact hi), a1T, E3, seval]
    refine Safe.rg rfl ?_
    simp only [b3J, E3, seval]
    have hg := c4F (canZ (gcdF d q i : Nat)) (canZ (q i)) K (a0z (by exact hgl i)) (hzq i hi) (by omega)
    rw [a0y, a0y] at hg
    refine hg.acall ?_
    simp only [E3, seval]
    refine Safe.rg rfl ?_
    simp only [b3I, hiw, E3, seval]
    refine Safe.keep [0, 3, 4, 5, 6, 20, 21, 22] ?_
    simp only [E3, seval]
    refine Safe.drop3 hH rfl (by simp only [List.all_cons, List.all_nil, E3, seval]) (by repeat (first | exact RC.nil | refine RC.none ?_ | refine RC.mo ?_ | refine RC.io ?_ | refine RC.row ZI.cl ?_ | refine RC.cons (a0t _) ?_ | refine RC.row a0d ?_ | refine RC.emp ?_ | refine RC.zero ?_ | refine RC.one (Z_cl _) ?_ | refine RC.one (ZI.cl _) ?_ | refine RC.one (a0d _) ?_)) ?_
    exact ih
  · refine Safe.inLoop ?_
    refine Safe.rg rfl ?_
    simp only [a7L, Int.lt_irrefl, E3, seval]
    refine Safe.cd rfl ?_
    simp only [E3, seval]
    refine Safe.rg rfl ?_
    simp only [b3H, E3, seval]
    refine (a0K (canZ d) ((a0z hd).mono (by omega))).acall ?_
    simp only [a0y, E3, seval]
    have main : ∀ Q : Int, Q = sgD d * (gcdF d q n : Int) → Safe ⟨Pr, fun _ _ => false, a6e, 62, [.tmp 4, .cell 5 (some 2)], H.length⟩
        [.code ((ACode.region a7K false).seq (((ACode.region a6n false).seq (.block 2 (.loop b3O))).seq ((ACode.region a6l false).seq ((ACode.region a6k true).seq .ret))))]
        [(0, vecV (vec n q)), (3, .loc (lid H 0) 0 0), (4, .nil), (5, .loc (lid H 1) 0 0), (6, .loc (lid H 2) 0 0)] (hap H [some ⟨2, [Z d]⟩, some ⟨2, [.agg [.bool false, .nil]]⟩, some ⟨2, [Z Q]⟩]) fun r' H' => r' = .tup [vecV (vec n P), Z D] ∧ ∃ L, H' = hap H L := by
      intro Q hQ
      have hs1 : sgD d = 1 ∨ sgD d = -1 := by unfold sgD; split <;> simp
      have hQ0 : Q ≠ 0 := by rw [hQ]; exact Int.mul_ne_zero (by rcases hs1 with h | h <;> omega) (by omega)
      have hQk : Q.natAbs < LB ^ K := by
        have : Q.natAbs = gcdF d q n := by
          rw [hQ, Int.natAbs_mul]
          rcases hs1 with h | h <;> rw [h] <;> simp
        rw [this]; exact hgl _
      refine Safe.rg rfl ?_
      simp only [a7K, E3, seval]
      refine Safe.nilrow 9 2 (by decide) (by simp only [E3, seval]) ?_
      refine Safe.rg rfl ?_
      simp only [a6n, c3g, a0a, E3, seval]
      refine Safe.lp rfl ?_
      refine Safe.keep [3, 4, 5, 6, 9, 35, 36, 37] ?_
      try simp only [E3, seval]
      refine Safe.loopN (n) (fun i => [(3, .loc (lid H 0) 0 0), (4, .nil), (5, .loc (lid H 1) 0 0), (6, .loc (lid H 2) 0 0), (9, .mu (lid H 3) 0 i none), (35, vecV (vec n q)), (36, .int .i64 n), (37, .int .i64 i)]) (fun i => hap H [some ⟨2, [Z d]⟩, some ⟨2, [.agg [.bool false, .nil]]⟩, some ⟨2, [Z Q]⟩, some ⟨2, (vec i P).map ZI.av⟩]) rfl rfl (fun i hi ih => ?_) ?_
      · have hlt : ((i : Int) < (n : Int)) = True := eq_true (by omega)
        have hiw : IntKind.wrap .i64 ((i : Int) + 1) = ((i + 1 : Nat) : Int) := by rw [a0b] <;> omega
        refine Safe.inLoop ?_
        refine Safe.rg rfl ?_
        simp only [a6m, hlt, E3, seval]
        refine Safe.cd rfl ?_
        simp only [E3, seval]
        refine Safe.rg rfl ?_
        simp only [b0X, a0B _ (vec n q) _ i (by rw [a0a]; exact hi), a1T, E3, seval]
        refine Safe.rg rfl ?_
        simp only [b0W, E3, seval]
        have hfl := a2Y (canZ (q i)) (canZ Q) K (hzq i hi) (a0z hQk) (by omega) (P i) (by rw [a0y]; exact hQ0) (by rw [a0y, a0y, hQ]; exact hP i hi)
        refine hfl.acall ?_
        simp only [E3, seval]
        refine Safe.rg rfl ?_
        simp only [b0V, E3, seval]
        rw [a9Y hH 3 (a4h H 3) ZI.cl (vec i P) (canZ (P i)) (vec (i + 1) P) ?hlen ?hl ?hL ?hy ?hl2 ?hb ?hbb]
        case hlen => first | rfl | (simp only [a0a, a0c, List.length_map, List.length_take]; done) | (simp only [a0a, a0c, List.length_map, List.length_take]; omega)
        case hl => rfl
        case hL => repeat (first | exact RC.nil | refine RC.none ?_ | refine RC.mo ?_ | refine RC.io ?_ | refine RC.row ZI.cl ?_ | refine RC.cons (a0t _) ?_ | refine RC.row a0d ?_ | refine RC.emp ?_ | refine RC.zero ?_ | refine RC.one (Z_cl _) ?_ | refine RC.one (ZI.cl _) ?_ | refine RC.one (a0d _) ?_)
        case hy => rfl
        case hl2 => first | exact a4z _ _ | exact a5S _ _ | exact a4d _ (by omega) | exact a1x _ _ (by omega)
        case hb => omega
        case hbb => omega
        simp only [E3, seval]
        refine Safe.rg rfl ?_
        simp only [b0U, hiw, E3, seval]
        refine Safe.keep [3, 4, 5, 6, 9, 35, 36, 37] ?_
        simp only [E3, seval]
        refine Safe.dropC (L := [_, _, _, _, _, _]) hH rfl (by simp only [List.all_cons, List.all_nil, E3, seval]) (by repeat (first | exact RC.nil | refine RC.none ?_ | refine RC.mo ?_ | refine RC.io ?_ | refine RC.row ZI.cl ?_ | refine RC.cons (a0t _) ?_ | refine RC.row a0d ?_ | refine RC.emp ?_ | refine RC.zero ?_ | refine RC.one (Z_cl _) ?_ | refine RC.one (ZI.cl _) ?_ | refine RC.one (a0d _) ?_)) ?_
        refine Safe.dropC (L := [_, _, _, _, _]) hH rfl (by simp only [List.all_cons, List.all_nil, E3, seval]) (by repeat (first | exact RC.nil | refine RC.none ?_ | refine RC.mo ?_ | refine RC.io ?_ | refine RC.row ZI.cl ?_ | refine RC.cons (a0t _) ?_ | refine RC.row a0d ?_ | refine RC.emp ?_ | refine RC.zero ?_ | refine RC.one (Z_cl _) ?_ | refine RC.one (ZI.cl _) ?_ | refine RC.one (a0d _) ?_)) ?_
        refine Safe.drop4 hH rfl (by simp only [List.all_cons, List.all_nil, E3, seval]) (by repeat (first | exact RC.nil | refine RC.none ?_ | refine RC.mo ?_ | refine RC.io ?_ | refine RC.row ZI.cl ?_ | refine RC.cons (a0t _) ?_ | refine RC.row a0d ?_ | refine RC.emp ?_ | refine RC.zero ?_ | refine RC.one (Z_cl _) ?_ | refine RC.one (ZI.cl _) ?_ | refine RC.one (a0d _) ?_)) ?_
        exact ih
      · refine Safe.inLoop ?_
        refine Safe.rg rfl ?_
        simp only [a6m, Int.lt_irrefl, E3, seval]
        refine Safe.cd rfl ?_
        simp only [E3, seval]
        refine Safe.freeze 3 hH rfl rfl (a1j 2 ZI.av _ ZI.cl) ?_
        refine Safe.keep [3, 4, 5, 6, 9] ?_
        simp only [a7I H 3 (vec n P) (n) (none) (by simp only [a0a, a0c]), a0X, a0E, a1p, a1V, E3, seval]
        refine Safe.rg rfl ?_
        simp only [a6l, E3, seval]
        have hfl := a2Y (canZ d) (canZ Q) K (a0z hd) (a0z hQk) (by omega) D (by rw [a0y]; exact hQ0) (by rw [a0y, a0y, hQ]; exact hD)
        refine hfl.acall ?_
        simp only [E3, seval]
        refine Safe.rg rfl ?_
        simp only [a6k, E3, seval]
        refine Safe.rt rfl ?_
        simp only [E3, seval]
        first | exact ⟨rfl, _, rfl⟩ | exact ⟨_, rfl⟩ | exact ⟨trivial, _, rfl⟩
    by_cases hng : d < 0
    · have hc : (d.sign < 0) = True := eq_true (Int.sign_neg_iff.2 hng)
      simp only [hc, E3, seval]
      refine Safe.cd rfl ?_
      simp only [E3, seval]
      refine Safe.rg rfl ?_
      simp only [b3G, E3, seval]
      have hn2 := a8r (canZ (gcdF d q n : Nat)) ((a0z (by exact hgl _)).mono (by omega))
      rw [a0y] at hn2
      refine hn2.acall ?_
      simp only [E3, seval]
      refine Safe.keep [0, 3, 4, 5, 6] ?_
      simp only [E3, seval]
      exact main _ (by rw [sgD, if_pos hng, Int.neg_mul, Int.one_mul])
    · have hc : (d.sign < 0) = False := eq_false fun h => hng (Int.sign_neg_iff.1 h)
      simp only [hc, E3, seval]
      refine Safe.cd rfl ?_
      simp only [E3, seval]
      refine Safe.keep [0, 3, 4, 5, 6] ?_
      simp only [E3, seval]
      refine Safe.skip ?_
      exact main _ (by rw [sgD, if_neg hng, Int.one_mul])
end Go.Abs
namespace Go.Abs
/-- An entry as it stands. -/
def eg (v : List ZI) (i : Nat) : ZI := v.getD i ⟨false, []⟩
theorem e1V {v : List ZI} {i : Nat} (h : i < v.length) : eg v i = v[i] := by simp [eg, h]
theorem eg_z (v : List ZI) (i : Nat) : (eg v i).z = zg v i := rfl
/-- mat.Turn with its rows open: a0A of one row, each with no more room than it has entries. -/
theorem c1k (b : List (List ZI)) (p : Nat) (hb : Mok p b) (hp : p ≤ 17592186044416) (hr : Rect b) (H : Heap) : a0o Pr a7d [matV b] H fun r' H' =>
    r' = .tup [.mu (lid H 1) 0 (wid b) none, .int .i64 0] ∧ H' = hap H [some ⟨2, (vec (wid b * b.length) (colF b)).map ZI.av⟩, some ⟨1, a0A H b.length (wid b)⟩] := by
  refine a0o.introH b9B b9A (Nat.le_of_ble_eq_true rfl) fun hH => ?_
  have hbl := hb.len
  have hwl := (hb.row 0).len
  rw [show (mg b 0).length = wid b from rfl] at hwl
  have hnm : b.length * wid b ≤ 2097152 * 2097152 := Nat.mul_le_mul hbl hwl
  have hcm : wid b * b.length = b.length * wid b := Nat.mul_comm _ _
  have hmw : IntKind.wrap .i64 ((b.length : Int) * (wid b : Int)) = ((b.length * wid b : Nat) : Int) := by
    rw [← Int.natCast_mul, a0b] <;> omega
  refine Safe.rg rfl ?_
  simp only [b2D, E3, seval]
  refine Safe.rg rfl ?_
  simp only [b2C, E3, seval]
  first | refine (a2K b p hb hr).acall ?_ | refine (a2K b p hb hr).dcall ?_
  try simp only [E3, seval]
  refine Safe.rg rfl ?_
  simp only [b2B, E3, seval]
  refine Safe.cd rfl ?_
  simp only [E3, seval]
  refine Safe.rg rfl ?_
  simp only [b2A, hmw, c3z _ [] 2 32 _ _ _ (b.length * wid b) (by decide) (by omega) (by omega), E3, seval]
  refine Safe.rg rfl ?_
  simp only [b2z, E3, seval]
  refine Safe.nilrow 8 1 (by decide) (by simp only [E3, seval]) ?_
  refine Safe.rg rfl ?_
  simp only [b2y, E3, seval]
  refine Safe.lp rfl ?_
  refine Safe.keep [0, 4, 7, 8, 24, 25] ?_
  simp only [E3, seval]
  refine Safe.loopN (wid b) (fun k => [(0, matV b), (4, .int .i64 b.length), (7, .mu (lid H 0) 0 (k * b.length) (some (b.length * wid b))), (8, .mu (lid H 1) 0 k none), (24, .int .i64 (wid b)), (25, .int .i64 k)])
    (fun k => hap H [some ⟨2, (vec (k * b.length) (colF b)).map ZI.av⟩, some ⟨1, a0A H b.length k⟩]) (by simp only [Nat.zero_mul]; rfl) (by simp only [Nat.zero_mul]; rfl) (fun k hk ih => ?_) ?_
  · have hlt : (k : Int) < (wid b : Int) := by omega
    have hle : (k + 1) * b.length ≤ wid b * b.length := Nat.mul_le_mul_right _ hk
    rw [Nat.succ_mul] at hle ih
    have hiw : IntKind.wrap .i64 ((k : Int) + 1) = ((k + 1 : Nat) : Int) := by rw [a0b] <;> omega
    have hk0 : IntKind.wrap .i64 ((k : Int) * (b.length : Int)) = ((k * b.length : Nat) : Int) := by
      rw [← Int.natCast_mul, a0b] <;> omega
    have hk1 : IntKind.wrap .i64 (((k + 1 : Nat) : Int) * (b.length : Int)) = ((k * b.length + b.length : Nat) : Int) := by
      rw [← Int.natCast_mul, Nat.succ_mul, a0b] <;> omega
    refine Safe.inLoop ?_
    refine Safe.rg rfl ?_
    simp only [a5f, hlt, E3, seval]
    refine Safe.cd rfl ?_
    simp only [E3, seval]
    refine Safe.rg rfl ?_
    simp only [b2x, E3, seval]
    refine Safe.rg rfl ?_
    simp only [b2w, E3, seval]
    refine Safe.lp rfl ?_
    refine Safe.keep [0, 4, 7, 8, 9, 24, 25, 28, 29] ?_
    simp only [E3, seval]
    refine Safe.loopN b.length (fun i => [(0, matV b), (4, .int .i64 b.length), (7, .mu (lid H 0) 0 (k * b.length + i) (some (b.length * wid b))), (8, .mu (lid H 1) 0 k none), (9, .int .i64 k), (24, .int .i64 (wid b)), (25, .int .i64 k), (28, .int .i64 b.length), (29, .int .i64 i)])
      (fun i => hap H [some ⟨2, (vec (k * b.length + i) (colF b)).map ZI.av⟩, some ⟨1, a0A H b.length k⟩]) rfl rfl (fun i hi ih2 => ?_) ?_
    · have hlt2 : (i : Int) < (b.length : Int) := by omega
      have hjw : IntKind.wrap .i64 ((i : Int) + 1) = ((i + 1 : Nat) : Int) := by rw [a0b] <;> omega
      have hri := d2C hr hi
      have hf := b4B b[i][k] (((hb.get hi).get (by omega)).mono hp)
      rw [mgz hi (by omega), ← c4q b hi] at hf
      refine Safe.inLoop ?_
      refine Safe.rg rfl ?_
      simp only [a4f, hlt2, E3, seval]
      refine Safe.cd rfl ?_
      simp only [E3, seval]
      refine Safe.rg rfl ?_
      simp only [a9g, E3, seval]
      refine Safe.rg rfl ?_
      simp only [a9f, a2g _ b _ i hi, a0B _ b[i] _ k (by omega), E3, seval]
      first | refine (hf).acall ?_ | refine (hf).dcall ?_
      try simp only [E3, seval]
      rw [c4v (H := H) 0 (a4h H 0) (f := ZI.av) (vec (k * b.length + i) (colF b)) (canZ (colF b (k * b.length + i))) (vec (k * b.length + i + 1) (colF b)) ?hlen ?hl ?hy ?hl2 ?hc]
      case hlen => first | rfl | (simp only [a0a, a0c, List.length_map, List.length_take]; done) | (simp only [a0a, a0c, List.length_map, List.length_take]; omega)
      case hl => rfl
      case hy => rfl
      case hl2 => first | exact a4z _ _ | exact a5S _ _ | exact a4d _ (by omega) | exact a1x _ _ (by omega)
      case hc => omega
      simp only [E3, seval]
      refine Safe.rg rfl ?_
      simp only [a9e, hjw, E3, seval]
      refine Safe.keep [0, 4, 7, 8, 9, 24, 25, 28, 29] ?_
      simp only [E3, seval]
      exact ih2
    · refine Safe.inLoop ?_
      refine Safe.rg rfl ?_
      simp only [a4f, Int.lt_irrefl, E3, seval]
      refine Safe.cd rfl ?_
      simp only [E3, seval]
      have hsub : k * b.length + b.length - k * b.length = b.length := by omega
      have happ : ∀ env, appV H.length 1 24 false (.mu (lid H 1) 0 k none) (.mu (lid H 2) 0 1 (some 1)) env (hap H [some ⟨2, (vec (k * b.length + b.length) (colF b)).map ZI.av⟩, some ⟨1, a0A H b.length k⟩, some ⟨1, [.mu (lid H 0) (k * b.length) b.length (some b.length)]⟩]) =
          some (.mu (lid H 1) 0 (k + 1) none, scrub (lid H 1) env, hap H [some ⟨2, (vec (k * b.length + b.length) (colF b)).map ZI.av⟩, some ⟨1, a0A H b.length (k + 1)⟩, some ⟨1, [.mu (lid H 0) (k * b.length) b.length (some b.length)]⟩]) := by
        intro env
        have h01 : lid H 0 ≠ lid H 1 := by simp [lid]
        have := c4x H.length env H [some ⟨2, (vec (k * b.length + b.length) (colF b)).map ZI.av⟩, some ⟨1, a0A H b.length k⟩, some ⟨1, [.mu (lid H 0) (k * b.length) b.length (some b.length)]⟩] 1 24 false 1 k none (.mu (lid H 2) 0 1 (some 1)) (a0A H b.length k) [.mu (lid H 0) (k * b.length) b.length (some b.length)] hH rfl (by simp [a0A]) (a4h H 1)
          (c4S H _ 1 2 0 1 (some 1) [.mu (lid H 0) (k * b.length) b.length (some b.length)] rfl (Nat.le_refl _)) (by
            intro j r hj a ha
            match j with
            | 0 => cases hj; exact (a1j 2 ZI.av _ ZI.cl a ha).ref
            | 1 =>
              cases hj
              rw [show (Blk.mk 1 (a0A H b.length k)).flat = _ from b0e H b.length k] at ha
              obtain ⟨j, rfl⟩ := b3c ha
              exact .mu _ _ _ _ h01
            | 2 =>
              cases hj
              simp [Blk.flat, AV.cells] at ha
              subst ha
              exact .mu _ _ _ _ h01
            | j + 3 => simp at hj) (by
            intro a ha
            simp [AV.cells] at ha
            subst ha
            exact .mu _ _ _ _ h01) (by simp; omega) (by simp; omega) rfl
        simp only [a1Z, Option.bind_none, List.length_cons, List.length_nil, Nat.zero_add, List.set_cons_succ, List.set_cons_zero, ← c1s] at this
        exact this
      refine Safe.rg rfl ?_
      simp only [a9d, hk0, hiw, hk1, d7U (Nat.le_add_right (k * b.length) b.length) (Nat.le_refl _) (Nat.le_refl _), hsub, happ, E3, seval]
      refine Safe.rg rfl ?_
      simp only [a9c, hiw, E3, seval]
      refine Safe.keep [0, 4, 7, 8, 24, 25] ?_
      simp only [E3, seval]
      refine Safe.drop2n hH rfl (by simp only [E3, seval]) (by
        intro r hr v hv
        simp only [List.mem_cons, Option.some.injEq, List.not_mem_nil, or_false] at hr
        rcases hr with rfl | rfl
        · exact a1o (a1j 2 ZI.av _ ZI.cl v hv)
        · rw [show (Blk.mk 1 (a0A H b.length (k + 1))).flat = _ from b0e H b.length (k + 1)] at hv
          obtain ⟨j, rfl⟩ := b3c hv
          simp only [E3, seval]) ?_
      exact ih
  · refine Safe.inLoop ?_
    refine Safe.rg rfl ?_
    simp only [a5f, Int.lt_irrefl, E3, seval]
    refine Safe.cd rfl ?_
    simp only [E3, seval]
    refine Safe.keep [8] ?_
    simp only [E3, seval]
    refine Safe.rg rfl ?_
    simp only [a9b, E3, seval]
    refine Safe.rt rfl ?_
    simp only [E3, seval]
end Go.Abs
namespace Go.Abs
/-- Append behind a part that has no more room. -/
theorem d7G {G : Heap} {n0 : Nat} {env : Env} {wd bytes id off len d : Nat} {y : AV} {ys : List AV} {r : Blk} (hr : hrow G id = some r) (hwd : r.wd = wd) (hle : off + len ≤ r.xs.length) (hnf : ¬ (off = 0 ∧ free G id = true))
    (hy : a0N G wd false y = some ys) (hyl : 0 < ys.length) (hd : d < len + ys.length) (hb : (len + ys.length) * bytes ≤ 140737488355328) (h63 : len + ys.length ≤ 9223372036854775807) :
    appV n0 wd bytes false (.mu id off len (some d)) y env G = some (.mu G.length 0 (len + ys.length) none, env, G ++ [some ⟨wd, (r.xs.drop off).take len ++ ys⟩]) := by
  have ho : ((some d).any fun c => decide (len + ys.length ≤ c)) = false := by simp; omega
  have ho2 : ((some d).any fun c => decide (c < len + ys.length)) = true := by simp; omega
  simp only [appV, hy, hr, Option.bind_some]
  rw [if_neg (fun h => by rw [ho] at h; exact absurd h.2.2.2.2.2 (by decide)), if_neg (fun h => hnf ⟨h.2.1, h.2.2.2.2.1⟩), if_pos ⟨hwd, hle, hyl, ho2, hb, h63⟩]
theorem d6a {G : Heap} {id j : Nat} {r : Blk} {off len : Nat} {oc : Option Nat} (hj : j ≠ id) (h : G[j]? = some (some r)) (ha : AV.mu id off len oc ∈ r.flat) : free G id ≠ true := fun hf => by
  have := c3U.1 hf j r hj h _ ha
  cases this with
  | mu _ _ _ _ h => exact h rfl
section
variable (b : List (List ZI)) (v : List ZI)
/-- A row of the system. -/
def tR (j : Nat) : List ZI := (vec b.length fun t => zg (mg b t) j) ++ [eg v j]
/-- The rows of which i are done. -/
def pf (id : Nat) (i : Nat) : Nat → AV := fun j => if j < i then vecV (tR b v j) else .mu id (j * b.length) b.length (some b.length)
theorem c8B (j : Nat) : (tR b v j).length = b.length + 1 := by simp [tR, a0a]
theorem c8P (H : Heap) (m : Nat) : a0A H b.length m = fr m (pf b v (lid H 0) 0) := rfl
theorem e1s (id m : Nat) : fr m (pf b v id m) = (mat m (tR b v)).map vecV := by
  unfold fr mat
  rw [List.map_map]
  exact List.map_congr_left fun j hj => by
    simp only [pf, Function.comp]
    rw [if_pos (List.mem_range.1 hj)]
theorem d5J (id i j : Nat) : (pf b v id i j).cells = [pf b v id i j] := by
  unfold pf; split <;> rfl
theorem d2I (id i m : Nat) : (fr m (pf b v id i)).flatMap AV.cells = fr m (pf b v id i) := by
  unfold fr
  induction (List.range m) with
  | nil => rfl
  | cons j l ih => rw [List.map_cons, List.flatMap_cons, ih, d5J]; rfl
theorem d8W (id i j k : Nat) (h : id ≠ k) : nref k (pf b v id i j) = true := by
  unfold pf
  split
  · exact a1o (a0d _)
  · exact c3v h
theorem e1r (id i j k : Nat) (r : Blk) (h : id ≠ k) : frz k r (pf b v id i j) = pf b v id i j := by
  unfold pf
  split
  · exact a6X (a0d _)
  · exact a6j (.mu _ _ _ _ h)
theorem d5K {m i : Nat} (hi : i < m) : (((vec (m * b.length) (colF b)).map ZI.av).drop (i * b.length)).take b.length ++ [(eg v i).av] = (tR b v i).map ZI.av := by
  have hle : (i + 1) * b.length ≤ m * b.length := Nat.mul_le_mul_right _ hi
  rw [Nat.succ_mul] at hle
  unfold tR
  rw [List.map_append]
  congr 1
  apply List.ext_getElem
  · simp [a0a]; omega
  · intro t g1 g2
    have ht : t < b.length := by simpa [a0a] using g2
    simp only [List.getElem_take, List.getElem_drop, List.getElem_map, a1T, c4q b ht]
/-- The system's entries. -/
def Sm (m : Nat) : Nat → Nat → Rat := fun i k => if i < m then (if k < b.length then ((zg (mg b k) i : Int) : Rat) else if k = b.length then ((zg v i : Int) : Rat) else 0) else 0
theorem e0K (l r : List ZI) (k : Nat) : zg (l ++ r) k = if k < l.length then zg l k else zg r (k - l.length) := by
  unfold zg
  rw [List.getD_eq_getElem?_getD, List.getD_eq_getElem?_getD, List.getD_eq_getElem?_getD, List.getElem?_append]
  split <;> rfl
theorem e0J (x : ZI) (k : Nat) : zg [x] k = if k = 0 then x.z else 0 := by
  cases k <;> rfl
theorem e1A {m : Nat} {f : Nat → List ZI} {i : Nat} (h : ¬ i < m) : mg (mat m f) i = [] := by
  unfold mg; rw [List.getD_eq_getElem?_getD, List.getElem?_eq_none (by rw [a0c]; omega)]; rfl
theorem Bm_T (m : Nat) : Bm (mat m (tR b v)) = Sm b v m := by
  funext i k
  unfold Bm Sm
  by_cases hi : i < m
  · rw [if_pos hi, c8W hi, tR, e0K, a0a]
    by_cases hk : k < b.length
    · rw [if_pos hk, if_pos hk, a6I hk]
    · rw [if_neg hk, if_neg hk, e0J, eg_z]
      by_cases e : k = b.length
      · rw [if_pos e, if_pos (by omega)]
      · rw [if_neg e, if_neg (by omega)]; rfl
  · rw [if_neg hi, e1A hi]; rfl
variable {e : Nat} (hm : Mok e b) (hv : Vok e v)
include hm hv
theorem d7M (m : Nat) : Bd e (Sm b v m) := fun i k => by
  unfold Sm
  split
  · split
    · exact ⟨_, rfl, Nat.le_of_lt ((hm.row k).abs i)⟩
    · split
      · exact ⟨_, rfl, Nat.le_of_lt (hv.abs i)⟩
      · exact ⟨0, rfl, by simp⟩
  · exact ⟨0, rfl, by simp⟩
theorem T_ok {m : Nat} (hmv : m ≤ v.length) (hn : b.length ≤ 64) : Mok e (mat m (tR b v)) := c3y (by have := hv.len; omega) fun i hi => ⟨by rw [c8B]; omega, fun x hx => by
  rcases List.mem_append.1 hx with h | h
  · exact (a4V (show b.length ≤ 2097152 by omega) fun t ht => (hm.row t).abs i).el x h
  · have : x = eg v i := by simpa using h
    rw [this, e1V (by omega)]
    exact hv.get _⟩
end
end Go.Abs
namespace Go.Abs
def a3F (f : Nat → Int) : Nat → Int
  | 0 => 1
  | n + 1 => a3F f n * f n
theorem c3q {f : Nat → Int} : ∀ {n : Nat}, (∀ i, i < n → f i ≠ 0) → a3F f n ≠ 0
  | 0, _ => by simp [a3F]
  | n + 1, h => Int.mul_ne_zero (c3q fun i hi => h i (by omega)) (h n (by omega))
theorem b8s {f : Nat → Int} : ∀ {n i : Nat}, i < n → f i ∣ a3F f n
  | 0, _, h => absurd h (by omega)
  | n + 1, i, h => by
    by_cases e : i = n
    · subst e; exact Int.dvd_mul_left ..
    · exact Int.dvd_trans (b8s (by omega)) (Int.dvd_mul_right ..)
theorem c3r {f : Nat → Int} {K : Nat} : ∀ {n : Nat}, (∀ i, i < n → (f i).natAbs < LB ^ K) → (a3F f n).natAbs < LB ^ (n * K + 1)
  | 0, _ => by rw [Nat.zero_mul]; exact Nat.lt_of_lt_of_eq (show 1 < LB by decide) (Nat.pow_one LB).symm
  | n + 1, h => by
    have h1 := c3r (n := n) fun i hi => h i (by omega)
    have h2 := h n (by omega)
    rw [a3F, Int.natAbs_mul, show (n + 1) * K + 1 = (n * K + 1) + K by rw [Nat.succ_mul]; omega, Nat.pow_add]
    rcases Nat.eq_zero_or_pos (a3F f n).natAbs with h0 | h0
    · rw [h0, Nat.zero_mul]; exact Nat.mul_pos (a2G _) (a2G _)
    · exact Nat.mul_lt_mul_of_le_of_lt (Nat.le_of_lt h1) h2 (a2G _)
section
variable {n m e : Nat} {B : Nat → Nat → Rat} (hB : Bd e B) (hm : m ≤ 64)
include hB hm
/-- A column of the fractions: one number for all of them. -/
theorem e0B (c k : Nat) : Sz (fun i => (a0g m B c).M i k) m (KB e + 1) := by
  have hBi : ∀ i k, ∃ z : Int, B i k = z := fun i k => by obtain ⟨z, h, _⟩ := hB i k; exact ⟨z, h⟩
  have hok := a7F (n := m) hBi c
  have hBd : Bd e (a0g m B c).s.B := by rw [a0J]; exact hB.gproc c
  have hl := Nat.le_trans hok.g.len hm
  obtain ⟨l, hl1, hl2⟩ := b7C hok hl hBd
  have hlt : LB ^ KB e < LB ^ (KB e + 1) := Nat.pow_lt_pow_right (by decide) (by omega)
  refine ⟨l, fun h => a4F hok.g.piv (by rw [hl1, h]; rfl), by omega, fun i _ => ?_⟩
  obtain ⟨z, hz, hz1⟩ := c3W hok hl hBd i k
  exact ⟨z, by rw [← hl1]; exact hz, by omega⟩
end
/-- One number of the solution, from the whole row. -/
def wI (m : Nat) (B : Nat → Nat → Rat) (c i k : Nat) : Int := a1a (outI ((a0g m B c).M i) c) c k
section
variable {n m e : Nat} {B : Nat → Nat → Rat} (hB : Bd e B) (hm : m ≤ 64) (hfull : (gproc m B n).cs.length = n)
include hB
include hfull
omit hB in
theorem b8w : ((gproc m B (n + 1)).cs.length = n ∨ (gproc m B (n + 1)).cs.length = n + 1) ∧ (∀ i, i < n → (gproc m B (n + 1)).cs.getD i 0 = i) ∧ ((gproc m B (n + 1)).cs.length = n + 1 → (gproc m B (n + 1)).cs.getD n 0 = n) := by
  have h0 := b5t n hfull
  rcases a0v (fun p => (gproc m B n).g p n) (gproc m B n).cs.length m with ⟨p, hf, h1, h2, h3, _⟩ | ⟨hf, h4⟩
  · have e : gproc m B (n + 1) = _ := a0s hf
    rw [e]
    refine ⟨.inr (by rw [a1t, hfull]), fun i hi => ?_, fun _ => ?_⟩
    · show ((gproc m B n).cs ++ [n]).getD i 0 = i
      rw [List.getD_eq_getElem?_getD, List.getElem?_append_left (by omega), ← List.getD_eq_getElem?_getD]; exact h0 i hi
    · show ((gproc m B n).cs ++ [n]).getD n 0 = n
      rw [List.getD_eq_getElem?_getD, List.getElem?_append_right (by omega), hfull]; simp
  · have e : gproc m B (n + 1) = gproc m B n := a0L hf
    rw [e]
    exact ⟨.inl hfull, h0, fun h => by omega⟩
include hm
omit hm in
theorem c3e (hn : (gproc m B (n + 1)).cs.length = n) {i : Nat} (hi : i < n) : wI m B (n + 1) i i ≠ 0 ∧ ((wI m B (n + 1) i n : Int) : Rat) = (wI m B (n + 1) i i : Rat) * (a0g m B (n + 1)).M i n := by
  have hBi : ∀ i k, ∃ z : Int, B i k = z := fun i k => by obtain ⟨z, h, _⟩ := hB i k; exact ⟨z, h⟩
  obtain ⟨_, hcs, _⟩ := b8w hfull
  have hone : (a0g m B (n + 1)).M i i = 1 := by
    have := b5G (n := m) hBi (n + 1) i i (by omega) (by omega)
    rw [hcs i hi, if_pos rfl] at this
    exact this
  unfold wI
  have hL := a5j ((a0g m B (n + 1)).M i) (n + 1)
  have h1 := a2S (w := outI ((a0g m B (n + 1)).M i) (n + 1)) (show i < n + 1 by omega)
  have h2 := a2S (w := outI ((a0g m B (n + 1)).M i) (n + 1)) (show n < n + 1 by omega)
  have o1 := a4Y ((a0g m B (n + 1)).M i) (show i < n + 1 by omega)
  have o2 := a4Y ((a0g m B (n + 1)).M i) (show n < n + 1 by omega)
  rw [h1, hone, Rat.intCast_mul] at o1
  rw [h2, Rat.intCast_mul] at o2
  generalize sgF (outI ((a0g m B (n + 1)).M i) (n + 1)) (n + 1) * (a2b (outI ((a0g m B (n + 1)).M i) (n + 1)) (n + 1) : Int) = s at *
  generalize a1a (outI ((a0g m B (n + 1)).M i) (n + 1)) (n + 1) i = p at *
  generalize a1a (outI ((a0g m B (n + 1)).M i) (n + 1)) (n + 1) n = q at *
  have hLr : ((a0O ((a0g m B (n + 1)).M i) (n + 1) : Nat) : Rat) ≠ 0 := by
    intro h
    have : (a0O ((a0g m B (n + 1)).M i) (n + 1)) = 0 := by exact_mod_cast h
    omega
  generalize ((a0O ((a0g m B (n + 1)).M i) (n + 1) : Nat) : Rat) = l at *
  have hp : p ≠ 0 := fun h => hLr (by rw [h] at o1; have : ((0 : Int) : Rat) = 0 := rfl; rw [this] at o1; grind)
  have hs : (s : Rat) ≠ 0 := fun h => hLr (by rw [h] at o1; grind)
  refine ⟨hp, ?_⟩
  generalize (a0g m B (n + 1)).M i n = x at *
  have : (s : Rat) * ((q : Rat) - (p : Rat) * x) = 0 := by grind
  rcases Rat.mul_eq_zero.1 this with h | h
  · exact absurd h hs
  · grind
omit hfull in
theorem w_lt {i k : Nat} (hk : k < n + 1) : (wI m B (n + 1) i k).natAbs < LB ^ (KB e + 1) := Nat.lt_of_le_of_lt (b0d hk) (c5j (M_sz hB hm i) hk)
/-- The quotients over the heads' product. -/
def qI (m : Nat) (B : Nat → Nat → Rat) (n i : Nat) : Int := a3F (fun i => wI m B (n + 1) i i) n / wI m B (n + 1) i i * wI m B (n + 1) i n
omit hm in
theorem q_eq (hn : (gproc m B (n + 1)).cs.length = n) {i : Nat} (hi : i < n) : a3F (fun i => wI m B (n + 1) i i) n * wI m B (n + 1) i n = wI m B (n + 1) i i * qI m B n i := by
  obtain ⟨c, hc⟩ := b8s (f := fun i => wI m B (n + 1) i i) hi
  have h0 := (c3e hB hfull hn hi).1
  unfold qI
  rw [hc]
  show wI m B (n + 1) i i * c * wI m B (n + 1) i n = wI m B (n + 1) i i * (wI m B (n + 1) i i * c / wI m B (n + 1) i i * wI m B (n + 1) i n)
  rw [Int.mul_ediv_cancel_left _ h0, Int.mul_assoc]
omit hm in
theorem e2u (hn : (gproc m B (n + 1)).cs.length = n) {i : Nat} (hi : i < n) : ((qI m B n i : Int) : Rat) = (a3F (fun i => wI m B (n + 1) i i) n : Rat) * (a0g m B (n + 1)).M i n := by
  have h1 := congrArg (fun z : Int => (z : Rat)) (q_eq hB hfull hn hi)
  obtain ⟨h0, h2⟩ := c3e hB hfull hn hi
  simp only [Rat.intCast_mul] at h1
  rw [h2] at h1
  have h0r : ((wI m B (n + 1) i i : Int) : Rat) ≠ 0 := fun h => h0 (Rat.intCast_inj.1 (by rw [h]; rfl))
  generalize ((wI m B (n + 1) i i : Int) : Rat) = p at *
  generalize ((qI m B n i : Int) : Rat) = q at *
  generalize ((a3F (fun i => wI m B (n + 1) i i) n : Int) : Rat) = d at *
  have : p * (q - d * (a0g m B (n + 1)).M i n) = 0 := by grind
  rcases Rat.mul_eq_zero.1 this with h | h
  · exact absurd h h0r
  · grind
omit hm in
theorem d8g (hn : (gproc m B (n + 1)).cs.length = n) : a3F (fun i => wI m B (n + 1) i i) n ≠ 0 := c3q fun i hi => (c3e hB hfull hn hi).1
omit hfull in
theorem c6j {i : Nat} (hi : i ≤ n) : (a3F (fun i => wI m B (n + 1) i i) i).natAbs < LB ^ (i * (KB e + 1) + 1) := c3r fun j hj => w_lt hB hm (by omega)
omit hfull in
theorem d8K {i : Nat} : (qI m B n i).natAbs < LB ^ (n * (KB e + 1) + 1 + (KB e + 1)) := by
  unfold qI
  rw [Int.natAbs_mul, Nat.pow_add]
  have h1 := Nat.lt_of_le_of_lt (Int.natAbs_ediv_le_natAbs _ (wI m B (n + 1) i i)) (c6j hB hm (Nat.le_refl n))
  have h2 := w_lt hB hm (i := i) (Nat.lt_succ_self n)
  rcases Nat.eq_zero_or_pos (a3F (fun i => wI m B (n + 1) i i) n / wI m B (n + 1) i i).natAbs with h0 | h0
  · rw [h0, Nat.zero_mul]; exact Nat.mul_pos (a2G _) (a2G _)
  · exact Nat.mul_lt_mul_of_le_of_lt (Nat.le_of_lt h1) h2 (a2G _)
/-- The solution and its denominator. -/
def solX (m : Nat) (B : Nat → Nat → Rat) (n : Nat) : Nat → Rat := fun i => (a0g m B (n + 1)).M i n
omit hm in
theorem d2e (hn : (gproc m B (n + 1)).cs.length = n) : let d := a3F (fun i => wI m B (n + 1) i i) n
    d = sgD d * (gcdF d (qI m B n) n : Int) * (a0O (solX m B n) n : Int) ∧ ∀ i, i < n → qI m B n i = sgD d * (gcdF d (qI m B n) n : Int) * outI (solX m B n) n i :=
  d1W (d8g hB hfull hn) fun i hi => e2u hB hfull hn hi
omit hfull in
theorem e0T (hnm : n ≤ m) : Sz (solX m B n) n (KB e + 1) := by
  obtain ⟨D, h1, h2, h3⟩ := (e0B (B := B) hB hm (n + 1) n).ex
  exact ⟨D, h1, h2, fun i hi => h3 i (by omega)⟩
end
end Go.Abs
namespace Go.Abs
/-- The body as a whole: where the label stands. -/
def sScp : ACode := .seq (.region a1l false) (.seq (.seq (.region a1k false) (.cond (.t 27) (.seq (.region a7S false) (.ret)) (.skip))) (.seq (.region a1E false) (.seq (.region a1D false) (.seq (.seq (.region a1C false) (.cond (.t 31) (.seq (.seq (.region a4L false) (.cond (.t 34) (.goto 0) (.skip))) (.seq (.region a7R false) (.ret))) (.skip))) (.seq (.seq (.region a2D false) (.cond (.t 39) (.seq (.region a6z false) (.ret)) (.skip))) (.seq (.seq (.region a2P false) (.seq (.region a2O false) (.cond (.t 48) (.seq (.region a6y false) (.ret)) (.skip)))) (.seq (.region a3Z false) (.seq (.seq (.region a3Y false) (.block 0 (.loop a7V))) (.seq (.region a2N false) (.seq (.seq (.region a2M false) (.cond (.t 88) (.goto 0) (.skip))) (.seq (.region a3X false) (.seq (.seq (.region a3W false) (.block 2 (.loop a7U))) (.seq (.seq (.region a3V false) (.block 4 (.loop a7T))) (.seq (.region a3U false) (.seq (.seq (.region a3T true) (.ret)) (.seq (.label 0) (.seq (.region a2L false) (.ret))))))))))))))))))
def c7a : ACode := .seq (.region a2N false) (.seq (.seq (.region a2M false) (.cond (.t 88) (.goto 0) (.skip))) (.seq (.region a3X false) (.seq (.seq (.region a3W false) (.block 2 (.loop a7U))) (.seq (.seq (.region a3V false) (.block 4 (.loop a7T))) (.seq (.region a3U false) (.seq (.seq (.region a3T true) (.ret)) (.seq (.label 0) (.seq (.region a2L false) (.ret)))))))))
noncomputable def sCx (H : Heap) : Cx := ⟨Pr, fun _ _ => false, a0H, 145, [.tmp 4, .cell 5 (some 2), .tmp 6], H.length⟩
theorem d9o (H : Heap) (cs : List Nat) (i : Nat) (h : i < cs.length) : idxV H 1 (hsV cs) (.int .i64 i) = some (.ro (intV (cs.getD i 0)) 0) := d7Y H cs .i64 h
theorem c6Q : ∀ a ∈ (Blk.mk 2 [AV.agg [.bool false, .nil]]).flat, Cl a := fun a ha => by
  simp [Blk.flat, AV.cells] at ha
  rcases ha with rfl | rfl
  · exact .bool _
  · exact .nil
section
variable (b : List (List ZI)) (v : List ZI) {e m : Nat} (hm : Mok e b) (hv : Vok e v) (hK : 65 * (KB e + 2) < 10000000000) (hn64 : b.length ≤ 64) (hm64 : m ≤ 64) (hmv : m = v.length) (hn : 0 < b.length) (hfull : (gproc m (Sm b v m) b.length).cs.length = b.length) {H : Heap} (hH : a0S H)
include hm hv hK hn64 hm64 hmv hn hfull hH
theorem d0m (hone : (gproc m (Sm b v m) (b.length + 1)).cs.length = b.length) : Safe (sCx H) [.code c7a, .inScope sScp] [(4, .nil), (5, .loc (lid H 0) 0 0), (6, .int .i64 0), (7, .int .i64 b.length), (9, matV (mat m (tR b v)))]
    (hap H [some ⟨2, [.agg [.bool false, .nil]]⟩]) fun r' H' => r' = .tup [vecV (vec b.length (outI (solX m (Sm b v m) b.length) b.length)), Z (a0O (solX m (Sm b v m) b.length) b.length : Nat), .int .i64 0] ∧ ∃ L, H' = hap H L := by
  have hn1 : IntKind.wrap .i64 ((b.length : Int) + 1) = ((b.length + 1 : Nat) : Int) := by rw [a0b] <;> omega
  have hnm1 : IntKind.wrap .i64 ((b.length : Int) - 1) = ((b.length - 1 : Nat) : Int) := by rw [a0b] <;> omega
  have hst := b2G (mat m (tR b v)) (c := b.length + 1) (fun i hi => by
    have : (mat m (tR b v))[i] = tR b v i := a3H hi
    rw [this, c8B]) (T_ok b v hm hv (by omega) hn64) (a0c _ _) hm64 (by omega) (by omega)
  rw [Bm_T] at hst
  have hB := d7M b v hm hv m
  have hcs := b8w hfull
  have hcl := hcs.2.1 (b.length - 1) (by omega)
  have hrow : ∀ i (h : i < (a1G m (Sm b v m) (b.length + 1)).length), (a1G m (Sm b v m) (b.length + 1))[i] = vec (b.length + 1) (wI m (Sm b v m) (b.length + 1) i) := fun i h => a3H h
  have hsl : (a1G m (Sm b v m) (b.length + 1)).length = b.length := by rw [a1G, a0c, hone]
  have hwl : ∀ i k, k < b.length + 1 → Zok (KB e + 1) (canZ (wI m (Sm b v m) (b.length + 1) i k)) := fun i k hk => a0z (w_lt hB hm64 hk)
  have hw0 := fun i (hi : i < b.length) => (c3e hB hfull hone hi).1
  have hqe := fun i (hi : i < b.length) => q_eq hB hfull hone hi
  have hds := fun i (hi : i ≤ b.length) => c6j hB hm64 hi
  have hqs := fun i => d8K (n := b.length) hB hm64 (i := i)
  have hd0 := d8g hB hfull hone
  have hterm := d2e hB hfull hone
  have hkk : b.length * (KB e + 1) + 1 + (KB e + 1) ≤ 65 * (KB e + 2) := by
    have := Nat.mul_le_mul_right (KB e + 1) hn64
    omega
  have hkd : ∀ i, i ≤ b.length → Zok (65 * (KB e + 2)) (canZ (a3F (fun i => wI m (Sm b v m) (b.length + 1) i i) i)) := fun i hi => by
    refine (a0z (hds i hi)).mono ?_
    have := Nat.mul_le_mul_right (KB e + 1) hi
    omega
  have hqk : ∀ i, (qI m (Sm b v m) b.length i).natAbs < LB ^ (65 * (KB e + 2)) := fun i => Nat.lt_of_lt_of_le (hqs i) (Nat.pow_le_pow_right (by decide) hkk)
  have hdk : (a3F (fun i => wI m (Sm b v m) (b.length + 1) i i) b.length).natAbs < LB ^ (65 * (KB e + 2)) := Nat.lt_of_lt_of_le (hds _ (Nat.le_refl _)) (Nat.pow_le_pow_right (by decide) (by omega))
  unfold c7a sCx
  generalize hcsl : (gproc m (Sm b v m) (b.length + 1)).cs = cs at *
  generalize hW : a1G m (Sm b v m) (b.length + 1) = W at *
  generalize hwd : wI m (Sm b v m) (b.length + 1) = w at *
  generalize hqd : qI m (Sm b v m) b.length = q at *
  generalize solX m (Sm b v m) b.length = x at *
  generalize hK2 : 65 * (KB e + 2) = K2 at *
  refine Safe.rg rfl ?_
  simp only [a2N, hn1, E3, seval]
  first | refine (hst).acall ?_ | refine (hst).dcall ?_
  try simp only [E3, seval]
  have hne : (((b.length - 1 : Nat) : Int) = (b.length : Int)) = False := eq_false (by omega)
  refine Safe.rg rfl ?_
  simp only [a2M, c2K, hone, hnm1, d9o _ cs (b.length - 1) (by omega), intV, hcl, hne, E3, seval]
  refine Safe.cd rfl ?_
  simp only [E3, seval]
  refine Safe.keep [4, 5, 6, 7, 10] ?_
  simp only [E3, seval]
  refine Safe.rg rfl ?_
  simp only [a3X, E3, seval]
  first | refine (a3i 1 (by decide) (by decide)).acall ?_ | refine (a3i 1 (by decide) (by decide)).dcall ?_
  try simp only [E3, seval]
  refine Safe.rg rfl ?_
  simp only [a3W, b5d, hsl, E3, seval]
  refine Safe.lp rfl ?_
  refine Safe.keep [4, 5, 6, 7, 10, 91, 92] ?_
  try simp only [E3, seval]
  refine Safe.loopN (b.length) (fun i => [(4, .nil), (5, .loc (lid H 0) 0 0), (6, .int .i64 0), (7, .int .i64 b.length), (10, matV W), (91, .int .i64 b.length), (92, .int .i64 i)]) (fun i => hap H [some ⟨2, [Z (a3F (fun i => w i i) i)]⟩]) rfl rfl (fun i hi ih => ?_) ?_
  · have hlt : ((i : Int) < (b.length : Int)) = True := eq_true (by omega)
    have hiw : IntKind.wrap .i64 ((i : Int) + 1) = ((i + 1 : Nat) : Int) := by rw [a0b] <;> omega
    refine Safe.inLoop ?_
    refine Safe.rg rfl ?_
    simp only [a6w, hlt, E3, seval]
    refine Safe.cd rfl ?_
    simp only [E3, seval]
    refine Safe.rg rfl ?_
    simp only [b1K, E3, seval]
    refine Safe.rg rfl ?_
    simp only [b1J, a2g _ W .i64 i (by omega), hrow i (by omega), a0B _ (vec (b.length + 1) (w i)) .i64 i (by rw [a0a]; omega), a1T, E3, seval]
    have hmu := a2a (canZ (a3F (fun i => w i i) i)) (canZ (w i i)) K2 (KB e + 1) (hkd i (by omega)) (hwl i i (by omega)) (by omega)
    rw [a0y, a0y] at hmu
    refine hmu.dcall ?_
    simp only [E3, seval]
    refine Safe.rg rfl ?_
    simp only [b1I, hiw, E3, seval]
    refine Safe.keep [4, 5, 6, 7, 10, 91, 92] ?_
    simp only [E3, seval]
    exact ih
  · refine Safe.inLoop ?_
    refine Safe.rg rfl ?_
    simp only [a6w, Int.lt_irrefl, E3, seval]
    refine Safe.cd rfl ?_
    simp only [E3, seval]
    refine Safe.rg rfl ?_
    simp only [a3V, b5d, hsl, E3, seval]
    refine Safe.nilrow 4 2 (by decide) (by simp only [E3, seval]) ?_
    generalize hD : a3F (fun i => w i i) b.length = D at *
    refine Safe.lp rfl ?_
    refine Safe.keep [4, 5, 6, 7, 10, 106, 107] ?_
    try simp only [E3, seval]
    refine Safe.loopN (b.length) (fun i => [(4, .mu (lid H 1) 0 i none), (5, .loc (lid H 0) 0 0), (6, .int .i64 0), (7, .int .i64 b.length), (10, matV W), (106, .int .i64 b.length), (107, .int .i64 i)]) (fun i => hap H [some ⟨2, [Z D]⟩, some ⟨2, (vec i q).map ZI.av⟩]) rfl rfl (fun i hi ih => ?_) ?_
    · have hlt : ((i : Int) < (b.length : Int)) = True := eq_true (by omega)
      have hiw : IntKind.wrap .i64 ((i : Int) + 1) = ((i + 1 : Nat) : Int) := by rw [a0b] <;> omega
      refine Safe.inLoop ?_
      refine Safe.rg rfl ?_
      simp only [a6v, hlt, E3, seval]
      refine Safe.cd rfl ?_
      simp only [E3, seval]
      refine Safe.rg rfl ?_
      simp only [b1H, E3, seval]
      refine Safe.rx rfl (by simp only [b2Z, b7v, b3r, a2g _ W .i64 i (by omega), hrow i (by omega), a0B _ (vec (b.length + 1) (w i)) .i64 i (by rw [a0a]; omega), a0B _ (vec (b.length + 1) (w i)) .i64 b.length (by rw [a0a]; omega), a1T, E3, seval]) ?_
      simp only [b1G, a9F, a9E, a2g _ W .i64 i (by omega), hrow i (by omega), a0B _ (vec (b.length + 1) (w i)) .i64 i (by rw [a0a]; omega), a0B _ (vec (b.length + 1) (w i)) .i64 b.length (by rw [a0a]; omega), a1T, E3, seval]
      have hmu := a2a (canZ D) (canZ (w i b.length)) K2 (KB e + 1) (a0z hdk) (hwl i b.length (by omega)) (by omega)
      rw [a0y, a0y] at hmu
      refine hmu.dcall ?_
      have hfl := a2Y (canZ (D * w i b.length)) (canZ (w i i)) (K2 + K2) (a0z (by
        rw [Int.natAbs_mul, Nat.pow_add]
        have h1 := Nat.lt_of_lt_of_le (hwl i b.length (by omega)).abs (Nat.pow_le_pow_right (show 0 < LB by decide) (show KB e + 1 ≤ K2 by omega))
        rw [a0y] at h1
        exact Nat.mul_lt_mul'' hdk h1)) ((hwl i i (by omega)).mono (by omega)) (by omega) (q i) (by rw [a0y]; exact hw0 i hi) (by rw [a0y, a0y]; exact hqe i hi)
      simp only [a2g _ W .i64 i (by omega), hrow i (by omega), a0B _ (vec (b.length + 1) (w i)) .i64 i (by rw [a0a]; omega), a1T, E3, seval]
      refine hfl.dcall ?_
      simp only [E3, seval]
      refine ⟨?_, ?_⟩
      all_goals
        refine Safe.rg rfl ?_
        simp only [b1F, E3, seval]
        rw [a9Y hH 1 (a4h H 1) ZI.cl (vec i q) (canZ (q i)) (vec (i + 1) q) ?hlen ?hl ?hL ?hy ?hl2 ?hb ?hbb]
        case hlen => first | rfl | (simp only [a0a, a0c, List.length_map, List.length_take]; done) | (simp only [a0a, a0c, List.length_map, List.length_take]; omega)
        case hl => rfl
        case hL => repeat (first | exact RC.nil | refine RC.none ?_ | refine RC.mo ?_ | refine RC.io ?_ | refine RC.row ZI.cl ?_ | refine RC.cons (a0t _) ?_ | refine RC.row a0d ?_ | refine RC.emp ?_ | refine RC.zero ?_ | refine RC.one (Z_cl _) ?_ | refine RC.one (ZI.cl _) ?_ | refine RC.one (a0d _) ?_)
        case hy => rfl
        case hl2 => first | exact a4z _ _ | exact a5S _ _ | exact a4d _ (by omega) | exact a1x _ _ (by omega)
        case hb => omega
        case hbb => omega
        simp only [E3, seval]
        refine Safe.rg rfl ?_
        simp only [b1E, hiw, E3, seval]
        refine Safe.keep [4, 5, 6, 7, 10, 106, 107] ?_
        simp only [E3, seval]
        refine Safe.drop3 hH rfl (by simp only [List.all_cons, List.all_nil, E3, seval]) (by repeat (first | exact RC.nil | refine RC.none ?_ | refine RC.mo ?_ | refine RC.io ?_ | refine RC.row ZI.cl ?_ | refine RC.cons (a0t _) ?_ | refine RC.row a0d ?_ | refine RC.emp ?_ | refine RC.zero ?_ | refine RC.one (Z_cl _) ?_ | refine RC.one (ZI.cl _) ?_ | refine RC.one (a0d _) ?_)) ?_
        refine Safe.drop2 hH rfl (by simp only [List.all_cons, List.all_nil, E3, seval]) (by repeat (first | exact RC.nil | refine RC.none ?_ | refine RC.mo ?_ | refine RC.io ?_ | refine RC.row ZI.cl ?_ | refine RC.cons (a0t _) ?_ | refine RC.row a0d ?_ | refine RC.emp ?_ | refine RC.zero ?_ | refine RC.one (Z_cl _) ?_ | refine RC.one (ZI.cl _) ?_ | refine RC.one (a0d _) ?_)) ?_
        exact ih
    · refine Safe.inLoop ?_
      refine Safe.rg rfl ?_
      simp only [a6v, Int.lt_irrefl, E3, seval]
      refine Safe.cd rfl ?_
      simp only [E3, seval]
      refine Safe.freeze 1 hH rfl rfl (a1j 2 ZI.av _ ZI.cl) ?_
      refine Safe.keep [4, 5, 6] ?_
      simp only [a7I H 1 (vec b.length q) (b.length) (none) (by simp only [a0a, a0c]), a0X, a0E, a1p, a1V, E3, seval]
      refine Safe.rg rfl ?_
      simp only [a3U, E3, seval]
      have ht := d0d q (outI x b.length) D (a0O x b.length : Nat) (fun i _ => hqk i) hdk (by omega) (by omega) hd0 hterm.1 hterm.2
      refine ht.acall ?_
      simp only [E3, seval]
      refine Safe.rg rfl ?_
      simp only [a3T, E3, seval]
      refine Safe.rt rfl ?_
      simp only [E3, seval]
      first | exact ⟨rfl, _, rfl⟩ | exact ⟨_, rfl⟩ | exact ⟨trivial, _, rfl⟩
omit hH in
theorem d0n (hone : (gproc m (Sm b v m) (b.length + 1)).cs.length = b.length + 1) : Safe (sCx H) [.code c7a, .inScope sScp] [(4, .nil), (5, .loc (lid H 0) 0 0), (6, .int .i64 0), (7, .int .i64 b.length), (9, matV (mat m (tR b v)))]
    (hap H [some ⟨2, [.agg [.bool false, .nil]]⟩]) fun r' H' => Le r' (.tup [vecV [], Z 0, .int .i64 6]) ∧ ∃ L, H' = hap H L := by
  have hn1 : IntKind.wrap .i64 ((b.length : Int) + 1) = ((b.length + 1 : Nat) : Int) := by rw [a0b] <;> omega
  have hnm1 : IntKind.wrap .i64 (((b.length + 1 : Nat) : Int) - 1) = (b.length : Int) := by rw [a0b] <;> omega
  have hst := b2G (mat m (tR b v)) (c := b.length + 1) (fun i hi => by
    have : (mat m (tR b v))[i] = tR b v i := a3H hi
    rw [this, c8B]) (T_ok b v hm hv (by omega) hn64) (a0c _ _) hm64 (by omega) (by omega)
  rw [Bm_T] at hst
  have hcs := b8w hfull
  have hcl := hcs.2.2 hone
  unfold c7a sCx
  generalize hcsl : (gproc m (Sm b v m) (b.length + 1)).cs = cs at *
  generalize hW : a1G m (Sm b v m) (b.length + 1) = W at *
  refine Safe.rg rfl ?_
  simp only [a2N, hn1, E3, seval]
  first | refine (hst).acall ?_ | refine (hst).dcall ?_
  try simp only [E3, seval]
  refine Safe.rg rfl ?_
  simp only [a2M, c2K, hone, hnm1, d9o _ cs b.length (by omega), intV, hcl, E3, seval]
  refine Safe.cd rfl ?_
  simp only [E3, seval]
  refine Safe.rg rfl ?_
  simp only [a2L, E3, seval]
  refine Safe.rt rfl ?_
  simp only [one3, E3, seval]
  exact ⟨bad3 _, _, rfl⟩
omit hm hv hK hn64 hfull in
theorem b8m {R : AV → Heap → Prop} (hl64 : b.length ≤ 64) (h : Safe (sCx H) [.code c7a, .inScope sScp] [(4, .nil), (5, .loc (lid H 0) 0 0), (6, .int .i64 0), (7, .int .i64 b.length), (9, matV (mat m (tR b v)))] (hap H [some ⟨2, [.agg [.bool false, .nil]]⟩]) R) :
    Safe (sCx H) [.code (((ACode.region a3Y false).seq (.block 0 (.loop a7V))).seq c7a), .inScope sScp] [(1, vecV v), (4, .nil), (5, .loc (lid H 0) 0 0), (6, .int .i64 0), (7, .int .i64 b.length), (9, .mu (lid H 2) 0 m none)]
      (hap H [some ⟨2, [.agg [.bool false, .nil]]⟩, some ⟨2, (vec (m * b.length) (colF b)).map ZI.av⟩, some ⟨1, fr m (pf b v (lid H 1) 0)⟩]) R := by
  have l01 : lid H 1 ≠ lid H 0 := by simp [lid]
  have l12 : lid H 1 ≠ lid H 2 := by simp [lid]
  have l13 : lid H 1 ≠ lid H 3 := by simp [lid]
  have hnm : m * b.length ≤ 64 * 64 := Nat.mul_le_mul hm64 hl64
  generalize hRest : c7a = rest at *
  unfold sCx at *
  refine Safe.rg rfl ?_
  simp only [a3Y, d7V H [some ⟨2, [.agg [.bool false, .nil]]⟩, some ⟨2, (vec (m * b.length) (colF b)).map ZI.av⟩, some ⟨1, fr m (pf b v (lid H 1) 0)⟩] 2 0 m none rfl, E3, seval]
  refine Safe.lp rfl ?_
  refine Safe.keep [1, 4, 5, 6, 7, 9, 55, 56, 57] ?_
  try simp only [E3, seval]
  refine Safe.loopN (m) (fun i => [(1, vecV v), (4, .nil), (5, .loc (lid H 0) 0 0), (6, .int .i64 0), (7, .int .i64 b.length), (9, .mu (lid H 2) 0 m none), (55, .mu (lid H 2) 0 m none), (56, .int .i64 m), (57, .int .i64 i)]) (fun i => hap H [some ⟨2, [.agg [.bool false, .nil]]⟩, some ⟨2, (vec (m * b.length) (colF b)).map ZI.av⟩, some ⟨1, fr m (pf b v (lid H 1) i)⟩]) rfl rfl (fun i hi ih => ?_) ?_
  · have hlt : ((i : Int) < (m : Int)) = True := eq_true (by omega)
    have hiw : IntKind.wrap .i64 ((i : Int) + 1) = ((i + 1 : Nat) : Int) := by rw [a0b] <;> omega
    have hle : (i + 1) * b.length ≤ m * b.length := Nat.mul_le_mul_right _ hi
    rw [Nat.succ_mul] at hle
    refine Safe.inLoop ?_
    refine Safe.rg rfl ?_
    simp only [a6x, hlt, E3, seval]
    refine Safe.cd rfl ?_
    simp only [E3, seval]
    refine Safe.rg rfl ?_
    simp only [b1N, E3, seval]
    have hpi : pf b v (lid H 1) i i = .mu (lid H 1) (i * b.length) b.length (some b.length) := if_neg (Nat.lt_irrefl i)
    have hvi : eg v i = v[i]'(by omega) := e1V (by omega)
    have i1 := b3m H [some ⟨2, [.agg [.bool false, .nil]]⟩, some ⟨2, (vec (m * b.length) (colF b)).map ZI.av⟩, some ⟨1, fr m (pf b v (lid H 1) i)⟩] 1 2 0 m none .i64 i rfl rfl hi
    have i2 := b3m H [some ⟨2, [.agg [.bool false, .nil]]⟩, some ⟨2, (vec (m * b.length) (colF b)).map ZI.av⟩, some ⟨1, fr m (pf b v (lid H 1) i)⟩, some ⟨2, (tR b v i).map ZI.av⟩] 1 2 0 m none .i64 i rfl rfl hi
    have a1 : atV (hap H [some ⟨2, [.agg [.bool false, .nil]]⟩, some ⟨2, (vec (m * b.length) (colF b)).map ZI.av⟩, some ⟨1, fr m (pf b v (lid H 1) i)⟩]) (.loc (lid H 2) i 0) = some [.mu (lid H 1) (i * b.length) b.length (some b.length)] := by
      rw [b7B H [some ⟨2, [.agg [.bool false, .nil]]⟩, some ⟨2, (vec (m * b.length) (colF b)).map ZI.av⟩, some ⟨1, fr m (pf b v (lid H 1) i)⟩] 2 i rfl (by rw [b9W]; exact hi), d4d hi, hpi]; rfl
    have happ : ∀ env, appV H.length 2 32 false (.mu (lid H 1) (i * b.length) b.length (some b.length)) (.sl 2 [.agg [.bool (v[i]'(by omega)).neg, natV (v[i]'(by omega)).mag]]) env (hap H [some ⟨2, [.agg [.bool false, .nil]]⟩, some ⟨2, (vec (m * b.length) (colF b)).map ZI.av⟩, some ⟨1, fr m (pf b v (lid H 1) i)⟩]) =
        some (.mu (lid H 3) 0 (b.length + 1) none, env, hap H [some ⟨2, [.agg [.bool false, .nil]]⟩, some ⟨2, (vec (m * b.length) (colF b)).map ZI.av⟩, some ⟨1, fr m (pf b v (lid H 1) i)⟩, some ⟨2, (tR b v i).map ZI.av⟩]) := by
      intro env
      have hg : (hap H [some ⟨2, [.agg [.bool false, .nil]]⟩, some ⟨2, (vec (m * b.length) (colF b)).map ZI.av⟩, some ⟨1, fr m (pf b v (lid H 1) i)⟩])[lid H 2]? = some (some ⟨1, fr m (pf b v (lid H 1) i)⟩) := by
        simp only [hap, lid]; rw [List.getElem?_append_right (by omega)]; simp
      have := d7G (G := hap H [some ⟨2, [.agg [.bool false, .nil]]⟩, some ⟨2, (vec (m * b.length) (colF b)).map ZI.av⟩, some ⟨1, fr m (pf b v (lid H 1) i)⟩]) (n0 := H.length) (env := env) (wd := 2) (bytes := 32) (id := lid H 1) (off := i * b.length) (len := b.length) (d := b.length)
        (y := .sl 2 [(v[i]'(by omega)).av]) (ys := [(v[i]'(by omega)).av]) (r := ⟨2, (vec (m * b.length) (colF b)).map ZI.av⟩) (by rw [a1u]; rfl) rfl (by rw [List.length_map, a0a]; omega)
        (fun h => d6a (Ne.symm l12) hg (by
          show _ ∈ (fr m (pf b v (lid H 1) i)).flatMap AV.cells
          rw [d2I, ← hpi]
          exact List.mem_map.2 ⟨i, List.mem_range.2 hi, rfl⟩) h.2) (a8D _ 2 _) (by simp) (by simp) (by simp; omega) (by simp; omega)
      rw [← hvi, d5K b v hi] at this
      rw [← hvi]
      have e3 : (hap H [some ⟨2, [.agg [.bool false, .nil]]⟩, some ⟨2, (vec (m * b.length) (colF b)).map ZI.av⟩, some ⟨1, fr m (pf b v (lid H 1) i)⟩]).length = lid H 3 := by simp [hap, lid]
      rw [e3, b2K] at this
      exact this
    have hst : ∀ env, a1y 1 (.loc (lid H 2) i 0) (.mu (lid H 3) 0 (b.length + 1) none) env (hap H [some ⟨2, [.agg [.bool false, .nil]]⟩, some ⟨2, (vec (m * b.length) (colF b)).map ZI.av⟩, some ⟨1, fr m (pf b v (lid H 1) i)⟩, some ⟨2, (tR b v i).map ZI.av⟩]) =
        some (.top, env, hap H [some ⟨2, [.agg [.bool false, .nil]]⟩, some ⟨2, (vec (m * b.length) (colF b)).map ZI.av⟩, some ⟨1, fr m fun j => if j = i then .mu (lid H 3) 0 (b.length + 1) none else pf b v (lid H 1) i j⟩, some ⟨2, (tR b v i).map ZI.av⟩]) := by
      intro env
      rw [a3d env H [some ⟨2, [.agg [.bool false, .nil]]⟩, some ⟨2, (vec (m * b.length) (colF b)).map ZI.av⟩, some ⟨1, fr m (pf b v (lid H 1) i)⟩, some ⟨2, (tR b v i).map ZI.av⟩] 1 2 i 0 (.mu (lid H 3) 0 (b.length + 1) none) rfl (by rw [b9W]; exact hi) rfl rfl (Nat.le_refl 1)]
      rw [a2n, c9p]; rfl
    rw [Nat.zero_add] at i1 i2
    refine Safe.rg rfl ?_
    simp only [b1M, i1, i2, a1, a0B _ v .i64 i (by omega), happ, hst, E3, seval]
    have hfz : (fr m fun j => if j = i then AV.mu (lid H 3) 0 (b.length + 1) none else pf b v (lid H 1) i j).map (frz (lid H 3) ⟨2, (tR b v i).map ZI.av⟩) = fr m (pf b v (lid H 1) (i + 1)) := by
      unfold fr
      rw [List.map_map]
      refine List.map_congr_left fun j hj => ?_
      simp only [Function.comp]
      by_cases e : j = i
      · rw [if_pos e, a7I H 3 (tR b v i) _ none (by rw [c8B]), e]
        exact (if_pos (Nat.lt_succ_self i)).symm
      · rw [if_neg e, e1r b v _ _ _ _ _ l13]
        unfold pf
        by_cases h : j < i
        · rw [if_pos h, if_pos (by omega)]
        · rw [if_neg h, if_neg (by omega)]
    refine Safe.freeze 3 hH rfl rfl (a1j 2 ZI.av _ ZI.cl) ?_
    simp only [hfz, a1p, a0X, a0E, E3, seval]
    refine Safe.rg rfl ?_
    simp only [b1L, hiw, E3, seval]
    refine Safe.keep [1, 4, 5, 6, 7, 9, 55, 56, 57] ?_
    simp only [E3, seval]
    refine Safe.drop (L := [_, _, _]) hH rfl (by simp only [List.all_cons, List.all_nil, E3, seval]) (by
      intro r hr x hx
      simp only [List.mem_cons, Option.some.injEq, List.not_mem_nil, or_false] at hr
      rcases hr with rfl | rfl | rfl
      · exact a1o (c6Q x hx)
      · exact a1o (a1j 2 ZI.av _ ZI.cl x hx)
      · have hx' : x ∈ (fr m (pf b v (lid H 1) (i + 1))).flatMap AV.cells := hx
        rw [d2I] at hx'
        obtain ⟨j, _, rfl⟩ := c9q hx'
        exact d8W b v _ _ _ _ l13) ?_
    exact ih
  · refine Safe.inLoop ?_
    refine Safe.rg rfl ?_
    simp only [a6x, Int.lt_irrefl, E3, seval]
    refine Safe.cd rfl ?_
    simp only [E3, seval]
    rw [e1s]
    refine Safe.freeze 2 hH rfl rfl (a1j 1 vecV _ a0d) ?_
    refine Safe.keep [4, 5, 6, 7, 9] ?_
    simp only [c3R H 2 (mat m (tR b v)) m none (by rw [a0c]), a0E, a1p, E3, seval]
    refine Safe.drop2 hH rfl (by simp only [List.all_cons, List.all_nil, E3, seval]) (by repeat (first | exact RC.nil | refine RC.none ?_ | refine RC.mo ?_ | refine RC.io ?_ | refine RC.row ZI.cl ?_ | refine RC.cons (a0t _) ?_ | refine RC.row a0d ?_ | refine RC.emp ?_ | refine RC.zero ?_ | refine RC.one (Z_cl _) ?_ | refine RC.one (ZI.cl _) ?_ | refine RC.one (a0d _) ?_)) ?_
    refine Safe.drop1 hH rfl (by simp only [List.all_cons, List.all_nil, E3, seval]) (by repeat (first | exact RC.nil | refine RC.none ?_ | refine RC.mo ?_ | refine RC.io ?_ | refine RC.row ZI.cl ?_ | refine RC.cons (a0t _) ?_ | refine RC.row a0d ?_ | refine RC.emp ?_ | refine RC.zero ?_ | refine RC.one (Z_cl _) ?_ | refine RC.one (ZI.cl _) ?_ | refine RC.one (a0d _) ?_)) ?_
    repeat (first | refine Safe.seq ?_ | refine Safe.skip ?_ | refine Safe.inBlock ?_ | refine Safe.block ?_ | refine Safe.exit rfl ?_)
    exact h
end
section
variable (b : List (List ZI)) (v : List ZI) {e : Nat} (hm : Mok e b) (hv : Vok e v) (hK : 65 * (KB e + 2) < 10000000000)
include hm hv
omit hv in
theorem d0w (h0 : elE b ≠ 0) : a0f Pr a0H [matV b, vecV v] (.tup [vecV [], Z 0, .int .i64 (elE b)]) := by
  have hask := a1w b hm
  unfold askT at hask
  rw [if_neg h0] at hask
  have h0' : (elE b = 0) = False := eq_false h0
  refine a0f.introL a1Y a1X (Nat.le_of_ble_eq_true rfl) (cl3v _ _ _) fun H hH => ?_
  refine Safe.rg rfl ?_
  simp only [a1F, E3, seval]
  refine Safe.rg rfl ?_
  simp only [a1l, E3, seval]
  first | refine (hask).acall ?_ | refine (hask).dcall ?_
  try simp only [E3, seval]
  refine Safe.rg rfl ?_
  simp only [a1k, h0', E3, seval]
  refine Safe.cd rfl ?_
  simp only [E3, seval]
  refine Safe.rg rfl ?_
  simp only [a7S, E3, seval]
  refine Safe.rt rfl ?_
  simp only [one3, E3, seval]
  exact ⟨bad3 _, _, rfl⟩
omit hv in
theorem d0u (h0 : elE b = 0) (hn : 0 < b.length) (hl : v.length ≠ wid b) : a0f Pr a0H [matV b, vecV v] (.tup [vecV [], Z 0, .int .i64 8]) := by
  have hask := a1w b hm
  unfold askT at hask
  rw [if_pos h0] at hask
  have hn0 : ((b.length : Int) = 0) = False := eq_false (by omega)
  have hl' : ((v.length : Int) = (wid b : Int)) = False := eq_false (by omega)
  refine a0f.introL a1Y a1X (Nat.le_of_ble_eq_true rfl) (cl3v _ _ _) fun H hH => ?_
  refine Safe.rg rfl ?_
  simp only [a1F, E3, seval]
  refine Safe.rg rfl ?_
  simp only [a1l, E3, seval]
  first | refine (hask).acall ?_ | refine (hask).dcall ?_
  try simp only [E3, seval]
  refine Safe.rg rfl ?_
  simp only [a1k, E3, seval]
  refine Safe.cd rfl ?_
  simp only [E3, seval]
  refine Safe.rg rfl ?_
  simp only [a1E, E3, seval]
  refine Safe.rg rfl ?_
  simp only [a1D, E3, seval]
  refine Safe.rg rfl ?_
  simp only [a1C, hn0, E3, seval]
  refine Safe.cd rfl ?_
  simp only [E3, seval]
  refine Safe.rg rfl ?_
  simp only [a2D, hl', E3, seval]
  refine Safe.cd rfl ?_
  simp only [E3, seval]
  refine Safe.rg rfl ?_
  simp only [a6z, E3, seval]
  refine Safe.rt rfl ?_
  simp only [one3, E3, seval]
  exact ⟨bad3 _, _, rfl⟩
include hK
omit hv in
theorem d0v (h0 : elE b = 0) (hn : 0 < b.length) (hl : v.length = wid b) (hr : b0s b.length (wid b) (Bm b) < b.length) : a0f Pr a0H [matV b, vecV v] (.tup [vecV [], Z 0, .int .i64 50]) := by
  have hask := a1w b hm
  unfold askT at hask
  rw [if_pos h0] at hask
  have hn0 : ((b.length : Int) = 0) = False := eq_false (by omega)
  have hl' : ((v.length : Int) = (wid b : Int)) = True := eq_true (by omega)
  have hr' : ((b0s b.length (wid b) (Bm b) : Int) < (b.length : Int)) = True := eq_true (by omega)
  refine a0f.introL a1Y a1X (Nat.le_of_ble_eq_true rfl) (cl3v _ _ _) fun H hH => ?_
  refine Safe.rg rfl ?_
  simp only [a1F, E3, seval]
  refine Safe.rg rfl ?_
  simp only [a1l, E3, seval]
  first | refine (hask).acall ?_ | refine (hask).dcall ?_
  try simp only [E3, seval]
  refine Safe.rg rfl ?_
  simp only [a1k, E3, seval]
  refine Safe.cd rfl ?_
  simp only [E3, seval]
  refine Safe.rg rfl ?_
  simp only [a1E, E3, seval]
  refine Safe.rg rfl ?_
  simp only [a1D, E3, seval]
  refine Safe.rg rfl ?_
  simp only [a1C, hn0, E3, seval]
  refine Safe.cd rfl ?_
  simp only [E3, seval]
  refine Safe.rg rfl ?_
  simp only [a2D, hl', E3, seval]
  refine Safe.cd rfl ?_
  simp only [E3, seval]
  refine Safe.rg rfl ?_
  simp only [a2P, E3, seval]
  first | refine (b2b b hm (by omega) h0).acall ?_ | refine (b2b b hm (by omega) h0).dcall ?_
  try simp only [E3, seval]
  refine Safe.rg rfl ?_
  simp only [a2O, hr', E3, seval]
  refine Safe.cd rfl ?_
  simp only [E3, seval]
  refine Safe.rg rfl ?_
  simp only [a6y, E3, seval]
  refine Safe.rt rfl ?_
  simp only [one3, E3, seval]
  exact ⟨bad3 _, _, rfl⟩
omit hK in
theorem a8B (h0 : elE b = 0) (hn : 0 < b.length) (hl : v.length = wid b) (hr : b0s b.length (wid b) (Bm b) = b.length) : (gproc (wid b) (Sm b v (wid b)) b.length).cs.length = b.length :=
  c6V (B := Bm b) (m := wid b) (fun i k => ⟨_, rfl⟩) (fun i k => by obtain ⟨z, h, _⟩ := d7M b v hm hv (wid b) i k; exact ⟨z, h⟩) (fun i k hi hk => by
    unfold Sm Bm
    rw [if_pos hi, if_pos hk]) hr
theorem d2F (h0 : elE b = 0) (hn : 0 < b.length) (hl : v.length = wid b) (hr : b0s b.length (wid b) (Bm b) = b.length) (hone : (gproc (wid b) (Sm b v (wid b)) (b.length + 1)).cs.length = b.length) :
    a0f Pr a0H [matV b, vecV v] (.tup [vecV (vec b.length (outI (solX (wid b) (Sm b v (wid b)) b.length) b.length)), Z (a0O (solX (wid b) (Sm b v (wid b)) b.length) b.length : Nat), .int .i64 0]) := by
  have hask := a1w b hm
  unfold askT at hask
  rw [if_pos h0] at hask
  obtain ⟨hn64, hw, hrc, hrows⟩ := a2J h0
  have hn0 : ((b.length : Int) = 0) = False := eq_false (by omega)
  have hl' : ((v.length : Int) = (wid b : Int)) = True := eq_true (by omega)
  have hr' : ((b0s b.length (wid b) (Bm b) : Int) < (b.length : Int)) = False := eq_false (by omega)
  have hn1 : IntKind.wrap .i64 ((b.length : Int) + 1) = ((b.length + 1 : Nat) : Int) := by rw [a0b] <;> omega
  refine a0f.intro a1Y a1X (Nat.le_of_ble_eq_true rfl) (cl3v _ _ _) fun H hH => ?_
  refine Safe.rg rfl ?_
  simp only [a1F, E3, seval]
  refine Safe.rg rfl ?_
  simp only [a1l, E3, seval]
  first | refine (hask).acall ?_ | refine (hask).dcall ?_
  try simp only [E3, seval]
  refine Safe.rg rfl ?_
  simp only [a1k, E3, seval]
  refine Safe.cd rfl ?_
  simp only [E3, seval]
  refine Safe.rg rfl ?_
  simp only [a1E, E3, seval]
  refine Safe.rg rfl ?_
  simp only [a1D, E3, seval]
  refine Safe.rg rfl ?_
  simp only [a1C, hn0, E3, seval]
  refine Safe.cd rfl ?_
  simp only [E3, seval]
  refine Safe.rg rfl ?_
  simp only [a2D, hl', E3, seval]
  refine Safe.cd rfl ?_
  simp only [E3, seval]
  refine Safe.rg rfl ?_
  simp only [a2P, E3, seval]
  first | refine (b2b b hm (by omega) h0).acall ?_ | refine (b2b b hm (by omega) h0).dcall ?_
  try simp only [E3, seval]
  refine Safe.rg rfl ?_
  simp only [a2O, hr', E3, seval]
  refine Safe.cd rfl ?_
  simp only [E3, seval]
  refine Safe.rg rfl ?_
  simp only [a3Z, E3, seval]
  refine (c1k b e hm (by unfold KB at hK; omega) hrc _).mono ?_
  rintro r' H' ⟨rfl, rfl⟩
  simp only [E3, seval]
  refine Safe.keep [1, 4, 5, 6, 7, 9] ?_
  simp only [E3, seval]
  simp only [c8P b v, c3G, a6c, List.length_cons, List.length_nil, Nat.zero_add, Nat.reduceAdd, List.cons_append, List.nil_append]
  exact b8m b v hw hl.symm hn hH hn64 (d0m b v hm hv hK hn64 hw hl.symm hn (a8B b v hm hv h0 hn hl hr) hH hone)
theorem c7c (h0 : elE b = 0) (hn : 0 < b.length) (hl : v.length = wid b) (hr : b0s b.length (wid b) (Bm b) = b.length) (hone : (gproc (wid b) (Sm b v (wid b)) (b.length + 1)).cs.length = b.length + 1) :
    a0f Pr a0H [matV b, vecV v] (.tup [vecV [], Z 0, .int .i64 6]) := by
  have hask := a1w b hm
  unfold askT at hask
  rw [if_pos h0] at hask
  obtain ⟨hn64, hw, hrc, hrows⟩ := a2J h0
  have hn0 : ((b.length : Int) = 0) = False := eq_false (by omega)
  have hl' : ((v.length : Int) = (wid b : Int)) = True := eq_true (by omega)
  have hr' : ((b0s b.length (wid b) (Bm b) : Int) < (b.length : Int)) = False := eq_false (by omega)
  have hn1 : IntKind.wrap .i64 ((b.length : Int) + 1) = ((b.length + 1 : Nat) : Int) := by rw [a0b] <;> omega
  refine a0f.introL a1Y a1X (Nat.le_of_ble_eq_true rfl) (cl3v _ _ _) fun H hH => ?_
  refine Safe.rg rfl ?_
  simp only [a1F, E3, seval]
  refine Safe.rg rfl ?_
  simp only [a1l, E3, seval]
  first | refine (hask).acall ?_ | refine (hask).dcall ?_
  try simp only [E3, seval]
  refine Safe.rg rfl ?_
  simp only [a1k, E3, seval]
  refine Safe.cd rfl ?_
  simp only [E3, seval]
  refine Safe.rg rfl ?_
  simp only [a1E, E3, seval]
  refine Safe.rg rfl ?_
  simp only [a1D, E3, seval]
  refine Safe.rg rfl ?_
  simp only [a1C, hn0, E3, seval]
  refine Safe.cd rfl ?_
  simp only [E3, seval]
  refine Safe.rg rfl ?_
  simp only [a2D, hl', E3, seval]
  refine Safe.cd rfl ?_
  simp only [E3, seval]
  refine Safe.rg rfl ?_
  simp only [a2P, E3, seval]
  first | refine (b2b b hm (by omega) h0).acall ?_ | refine (b2b b hm (by omega) h0).dcall ?_
  try simp only [E3, seval]
  refine Safe.rg rfl ?_
  simp only [a2O, hr', E3, seval]
  refine Safe.cd rfl ?_
  simp only [E3, seval]
  refine Safe.rg rfl ?_
  simp only [a3Z, E3, seval]
  refine (c1k b e hm (by unfold KB at hK; omega) hrc _).mono ?_
  rintro r' H' ⟨rfl, rfl⟩
  simp only [E3, seval]
  refine Safe.keep [1, 4, 5, 6, 7, 9] ?_
  simp only [E3, seval]
  simp only [c8P b v, c3G, a6c, List.length_cons, List.length_nil, Nat.zero_add, Nat.reduceAdd, List.cons_append, List.nil_append]
  exact b8m b v hw hl.symm hn hH hn64 (d0n b v hm hv hK hn64 hw hl.symm hn (a8B b v hm hv h0 hn hl hr) hone)
end
end Go.Abs
namespace Go.Abs
section
variable (b : List (List ZI)) (v : List ZI) {e : Nat} (hm : Mok e b) (hv : Vok e v) (hK : 65 * (KB e + 2) < 10000000000)
theorem c2F (hn : b.length = 0) : ((gproc v.length (Sm b v v.length) (b.length + 1)).cs.length = b.length ∧ b3s v = -1) ∨ ((gproc v.length (Sm b v v.length) (b.length + 1)).cs.length = b.length + 1 ∧ b3s v ≥ 0) := by
  rw [hn]
  have hS : ∀ i, i < v.length → (gproc v.length (Sm b v v.length) 0).g i 0 = ((zg v i : Int) : Rat) := fun i hi => by
    show a1c (Sm b v v.length) [] i 0 = _
    rw [b3A]
    unfold Sm
    rw [if_pos hi, if_neg (by omega), if_pos hn.symm]
  have hcs0 : (gproc v.length (Sm b v v.length) 0).cs = [] := rfl
  rcases a0v (fun p => (gproc v.length (Sm b v v.length) 0).g p 0) (gproc v.length (Sm b v v.length) 0).cs.length v.length with ⟨p, hf, h1, h2, h3, h4⟩ | ⟨hf, h4⟩
  · have e : gproc v.length (Sm b v v.length) (0 + 1) = _ := a0s hf
    rw [e]
    refine .inr ⟨by rw [a1t, hcs0]; rfl, ?_⟩
    rcases a4R v with ⟨i, _, _, _, h, _⟩ | ⟨h, _, _⟩
    · omega
    · exact absurd (by rw [hS p h2, h p h2]; rfl) h3
  · have e : gproc v.length (Sm b v v.length) (0 + 1) = _ := a0L hf
    rw [e]
    refine .inl ⟨rfl, ?_⟩
    rcases a4R v with ⟨i, hi, h0, _, h, _⟩ | ⟨_, h, _⟩
    · refine absurd (Rat.intCast_inj.1 ?_) h0
      rw [← hS i hi]
      exact h4 i (by rw [hcs0]; exact Nat.zero_le _) hi
    · exact h
include hm hv
theorem c7b (h0 : elE b = 0) (hn : b.length = 0) (hone : (gproc v.length (Sm b v v.length) (b.length + 1)).cs.length = b.length) (he : e ≤ 17592186044416) :
    a0f Pr a0H [matV b, vecV v] (.tup [vecV (vec b.length (outI (solX v.length (Sm b v v.length) b.length) b.length)), Z (a0O (solX v.length (Sm b v v.length) b.length) b.length : Nat), .int .i64 0]) := by
  have hask := a1w b hm
  unfold askT at hask
  rw [if_pos h0] at hask
  have hld : b3s v = -1 := by
    rcases c2F b v hn with h | h
    · exact h.2
    · omega
  have hge : ((-1 : Int) ≥ 0) = False := eq_false (by omega)
  have hn0 : ((b.length : Int) = 0) = True := eq_true (by omega)
  rw [hn]
  refine a0f.introL a1Y a1X (Nat.le_of_ble_eq_true rfl) (cl3v _ _ _) fun H hH => ?_
  refine Safe.rg rfl ?_
  simp only [a1F, E3, seval]
  refine Safe.rg rfl ?_
  simp only [a1l, E3, seval]
  first | refine (hask).acall ?_ | refine (hask).dcall ?_
  try simp only [E3, seval]
  refine Safe.rg rfl ?_
  simp only [a1k, E3, seval]
  refine Safe.cd rfl ?_
  simp only [E3, seval]
  refine Safe.rg rfl ?_
  simp only [a1E, E3, seval]
  refine Safe.rg rfl ?_
  simp only [a1D, E3, seval]
  refine Safe.rg rfl ?_
  simp only [a1C, hn0, E3, seval]
  refine Safe.cd rfl ?_
  simp only [E3, seval]
  refine Safe.rg rfl ?_
  simp only [a4L, E3, seval]
  first | refine (a3f v (hv.mono he)).acall ?_ | refine (a3f v (hv.mono he)).dcall ?_
  try simp only [E3, seval]
  simp only [hld, hge, E3, seval]
  refine Safe.cd rfl ?_
  simp only [E3, seval]
  refine Safe.rg rfl ?_
  simp only [a7R, E3, seval]
  first | refine (a3i 1 (by decide) (by decide)).acall ?_ | refine (a3i 1 (by decide) (by decide)).dcall ?_
  try simp only [E3, seval]
  refine Safe.rt rfl ?_
  simp only [one3, E3, seval]
  exact ⟨Le.tup3 (Le.nil 2 (by decide)) (Le.refl _) (Le.refl _), _, rfl⟩
theorem b7k (h0 : elE b = 0) (hn : b.length = 0) (hone : (gproc v.length (Sm b v v.length) (b.length + 1)).cs.length = b.length + 1) (he : e ≤ 17592186044416) :
    a0f Pr a0H [matV b, vecV v] (.tup [vecV [], Z 0, .int .i64 6]) := by
  have hask := a1w b hm
  unfold askT at hask
  rw [if_pos h0] at hask
  have hld : b3s v ≥ 0 := by
    rcases c2F b v hn with h | h
    · omega
    · exact h.2
  have hge : (b3s v ≥ 0) = True := eq_true hld
  have hn0 : ((b.length : Int) = 0) = True := eq_true (by omega)
  refine a0f.introL a1Y a1X (Nat.le_of_ble_eq_true rfl) (cl3v _ _ _) fun H hH => ?_
  refine Safe.rg rfl ?_
  simp only [a1F, E3, seval]
  refine Safe.rg rfl ?_
  simp only [a1l, E3, seval]
  first | refine (hask).acall ?_ | refine (hask).dcall ?_
  try simp only [E3, seval]
  refine Safe.rg rfl ?_
  simp only [a1k, E3, seval]
  refine Safe.cd rfl ?_
  simp only [E3, seval]
  refine Safe.rg rfl ?_
  simp only [a1E, E3, seval]
  refine Safe.rg rfl ?_
  simp only [a1D, E3, seval]
  refine Safe.rg rfl ?_
  simp only [a1C, hn0, E3, seval]
  refine Safe.cd rfl ?_
  simp only [E3, seval]
  refine Safe.rg rfl ?_
  simp only [a4L, E3, seval]
  first | refine (a3f v (hv.mono he)).acall ?_ | refine (a3f v (hv.mono he)).dcall ?_
  try simp only [E3, seval]
  simp only [hge, E3, seval]
  refine Safe.cd rfl ?_
  simp only [E3, seval]
  refine Safe.rg rfl ?_
  simp only [a2L, E3, seval]
  refine Safe.rt rfl ?_
  simp only [one3, E3, seval]
  exact ⟨bad3 _, _, rfl⟩
end
theorem c9e : 65 * (KB 1048576 + 2) < 10000000000 := by decide
end Go.Abs
namespace Go.Abs
theorem c3f {m n : Nat} {B : Nat → Nat → Rat} (hBi : ∀ i k, ∃ z : Int, B i k = z) {i k : Nat} (hi : i < (gproc m B n).cs.length) (hk : k < n) :
    wI m B n i ((gproc m B n).cs.getD i 0) ≠ 0 ∧ ((wI m B n i k : Int) : Rat) = (wI m B n i ((gproc m B n).cs.getD i 0) : Rat) * (a0g m B n).M i k := by
  have hh : (gproc m B n).cs.getD i 0 < n := a1m hi
  have hone : (a0g m B n).M i ((gproc m B n).cs.getD i 0) = 1 := by
    have := b5G (n := m) hBi n i i hi hi
    rwa [if_pos rfl] at this
  unfold wI
  generalize (gproc m B n).cs.getD i 0 = h at *
  have hL := a5j ((a0g m B n).M i) n
  have h1 := a2S (w := outI ((a0g m B n).M i) n) hh
  have h2 := a2S (w := outI ((a0g m B n).M i) n) hk
  have o1 := a4Y ((a0g m B n).M i) hh
  have o2 := a4Y ((a0g m B n).M i) hk
  rw [h1, hone, Rat.intCast_mul] at o1
  rw [h2, Rat.intCast_mul] at o2
  generalize sgF (outI ((a0g m B n).M i) n) n * (a2b (outI ((a0g m B n).M i) n) n : Int) = s at *
  generalize a1a (outI ((a0g m B n).M i) n) n h = p at *
  generalize a1a (outI ((a0g m B n).M i) n) n k = q at *
  have hLr : ((a0O ((a0g m B n).M i) n : Nat) : Rat) ≠ 0 := by
    intro h
    have : (a0O ((a0g m B n).M i) n) = 0 := by exact_mod_cast h
    omega
  generalize ((a0O ((a0g m B n).M i) n : Nat) : Rat) = l at *
  have hp : p ≠ 0 := fun h => hLr (by rw [h] at o1; have : ((0 : Int) : Rat) = 0 := rfl; rw [this] at o1; grind)
  have hs : (s : Rat) ≠ 0 := fun h => hLr (by rw [h] at o1; grind)
  refine ⟨hp, ?_⟩
  generalize (a0g m B n).M i k = x at *
  have : (s : Rat) * ((q : Rat) - (p : Rat) * x) = 0 := by grind
  rcases Rat.mul_eq_zero.1 this with h | h
  · exact absurd h hs
  · grind
/-- Which head stands in a column. -/
def hpos (cs : List Nat) (k : Nat) : Option Nat := (List.range cs.length).find? fun i => cs.getD i 0 == k
theorem a4j {cs : List Nat} {k i : Nat} (h : hpos cs k = some i) : i < cs.length ∧ cs.getD i 0 = k := by
  have h1 := List.find?_some h
  have h2 := List.mem_of_find?_eq_some h
  exact ⟨List.mem_range.1 h2, by simpa using h1⟩
theorem a6V {cs : List Nat} {k : Nat} (h : hpos cs k = none) {i : Nat} (hi : i < cs.length) : cs.getD i 0 ≠ k := by
  have := List.find?_eq_none.1 h i (List.mem_range.2 hi)
  simpa using this
def InjL (cs : List Nat) : Prop := ∀ i j, i < cs.length → j < cs.length → cs.getD i 0 = cs.getD j 0 → i = j
theorem c7T {cs : List Nat} (hinj : InjL cs) {i : Nat} (hi : i < cs.length) : hpos cs (cs.getD i 0) = some i := by
  cases h : hpos cs (cs.getD i 0) with
  | none => exact absurd rfl (a6V h hi)
  | some j =>
    obtain ⟨h1, h2⟩ := a4j h
    rw [hinj j i h1 hi h2]
theorem c3N {m n : Nat} {B : Nat → Nat → Rat} (hBi : ∀ i k, ∃ z : Int, B i k = z) : InjL (gproc m B n).cs := by
  intro i j hi hj h
  have h1 := b5G (n := m) hBi n i i hi hi
  have h2 := b5G (n := m) hBi n i j hi hj
  rw [← h, h1, if_pos rfl] at h2
  by_cases e : i = j
  · exact e
  · rw [if_neg e] at h2; exact absurd h2 (by decide)
/-- The columns without a head. -/
def a1b (cs : List Nat) (t : Nat) : List Nat := (List.range t).filter fun k => (hpos cs k).isNone
theorem c2P {cs : List Nat} {t : Nat} (h : hpos cs t = none) : a1b cs (t + 1) = a1b cs t ++ [t] := by
  unfold a1b; rw [List.range_succ, List.filter_append]; simp [h]
theorem c5U {cs : List Nat} {t i : Nat} (h : hpos cs t = some i) : a1b cs (t + 1) = a1b cs t := by
  unfold a1b; rw [List.range_succ, List.filter_append]; simp [h]
theorem b3C (cs : List Nat) (t : Nat) : (a1b cs t).length ≤ t := by
  have := List.length_filter_le (fun k => (hpos cs k).isNone) (List.range t)
  rwa [List.length_range] at this
theorem b0j {cs : List Nat} {t k : Nat} (h : k ∈ a1b cs t) : k < t ∧ hpos cs k = none := by
  unfold a1b at h
  rw [List.mem_filter] at h
  exact ⟨List.mem_range.1 h.1, by simpa using h.2⟩
section
variable (m n : Nat) (B : Nat → Nat → Rat)
def lamI (i : Nat) : Int := wI m B n i ((gproc m B n).cs.getD i 0)
def denN (t : Nat) : Int := a3F (lamI m n B) t
/-- The heads' product. -/
def denR : Int := denN m n B (gproc m B n).cs.length
def qN (f i : Nat) : Int := denR m n B / lamI m n B i * wI m B n i f
/-- The row of a column without a head; of the a0C, those of P are there. -/
def xP (P : Nat → Bool) (f k : Nat) : Int := if k = f then denR m n B else match hpos (gproc m B n).cs k with
  | some i => if P i then -(qN m n B f i) else 0
  | none => 0
def yP (P : Nat → Bool) (f k : Nat) : Rat := if k = f then 1 else match hpos (gproc m B n).cs k with
  | some i => if P i then -((a0g m B n).M i f) else 0
  | none => 0
def yesP : Nat → Bool := fun _ => true
def b2d (t : Nat) : List (List ZI) := (a1b (gproc m B n).cs t).map fun f => vec n (xP m n B yesP f)
def a1h : Nat → Nat → Rat := fun j k => if j < (a1b (gproc m B n).cs n).length ∧ k < n then yP m n B yesP ((a1b (gproc m B n).cs n).getD j 0) k else 0
end
section
variable {m n : Nat} {B : Nat → Nat → Rat} (hBi : ∀ i k, ∃ z : Int, B i k = z)
theorem d8q (f : Nat) : xP m n B (fun _ => false) f = updF (fun _ => 0) f (denR m n B) := by
  funext k; unfold xP updF
  split
  · rfl
  · split <;> rfl
theorem d1N (f : Nat) (k : Nat) : yP m n B (fun _ => false) f k = if k = f then 1 else 0 := by
  unfold yP
  split
  · rfl
  · split <;> rfl
include hBi
theorem d8p {P Q : Nat → Bool} {f i : Nat} (hf : hpos (gproc m B n).cs f = none) (hi : i < (gproc m B n).cs.length) (hQ : ∀ j, Q j = (P j || j == i)) :
    updF (xP m n B P f) ((gproc m B n).cs.getD i 0) (-(qN m n B f i)) = xP m n B Q f := by
  have hinj := c3N (m := m) (n := n) hBi
  funext k
  unfold updF xP
  have hne := a6V hf hi
  by_cases e : k = (gproc m B n).cs.getD i 0
  · subst e
    rw [if_pos rfl, if_neg hne, c7T hinj hi]
    simp [hQ]
  · rw [if_neg e]
    by_cases e2 : k = f
    · rw [if_pos e2, if_pos e2]
    · rw [if_neg e2, if_neg e2]
      cases h : hpos (gproc m B n).cs k with
      | none => rfl
      | some j =>
        obtain ⟨h1, h2⟩ := a4j h
        have : j ≠ i := fun q => e (by rw [← h2, q])
        simp [hQ, this]
theorem d8o {P Q : Nat → Bool} {f i : Nat} (hf : hpos (gproc m B n).cs f = none) (hi : i < (gproc m B n).cs.length) (hQ : ∀ j, Q j = (P j || j == i)) (k : Nat) :
    (if k = (gproc m B n).cs.getD i 0 then -((a0g m B n).M i f) else yP m n B P f k) = yP m n B Q f k := by
  have hinj := c3N (m := m) (n := n) hBi
  unfold yP
  have hne := a6V hf hi
  by_cases e : k = (gproc m B n).cs.getD i 0
  · subst e
    rw [if_pos rfl, if_neg hne, c7T hinj hi]
    simp [hQ]
  · rw [if_neg e]
    by_cases e2 : k = f
    · rw [if_pos e2, if_pos e2]
    · rw [if_neg e2, if_neg e2]
      cases h : hpos (gproc m B n).cs k with
      | none => rfl
      | some j =>
        obtain ⟨h1, h2⟩ := a4j h
        have : j ≠ i := fun q => e (by rw [← h2, q])
        simp [hQ, this]
omit hBi in
theorem e0P {P : Nat → Bool} (f : Nat) (hP : ∀ i, i < (gproc m B n).cs.length → P i = true) : xP m n B P f = xP m n B yesP f := by
  funext k; unfold xP
  split
  · rfl
  · cases h : hpos (gproc m B n).cs k with
    | none => rfl
    | some i => simp [hP i (a4j h).1, yesP]
omit hBi in
theorem e0L {P : Nat → Bool} (f : Nat) (hP : ∀ i, i < (gproc m B n).cs.length → P i = true) (k : Nat) : yP m n B P f k = yP m n B yesP f k := by
  unfold yP
  split
  · rfl
  · cases h : hpos (gproc m B n).cs k with
    | none => rfl
    | some i => simp [hP i (a4j h).1, yesP]
theorem d3C {i : Nat} (hi : i < (gproc m B n).cs.length) : lamI m n B i ≠ 0 := (c3f hBi hi (a1m hi)).1
theorem c8l : denR m n B ≠ 0 := c3q fun i hi => d3C hBi hi
theorem e1h {f i : Nat} (hi : i < (gproc m B n).cs.length) : denR m n B * wI m B n i f = lamI m n B i * qN m n B f i := by
  obtain ⟨c, hc⟩ := b8s (f := lamI m n B) hi
  have h0 := d3C hBi hi
  unfold qN
  have hc' : denR m n B = lamI m n B i * c := hc
  rw [hc', Int.mul_ediv_cancel_left _ h0, Int.mul_assoc]
theorem e1f {f i : Nat} (hi : i < (gproc m B n).cs.length) (hf : f < n) : ((qN m n B f i : Int) : Rat) = (denR m n B : Rat) * (a0g m B n).M i f := by
  have h1 := congrArg (fun z : Int => (z : Rat)) (e1h hBi (f := f) hi)
  obtain ⟨h0, h2⟩ := c3f hBi hi hf
  simp only [Rat.intCast_mul] at h1
  rw [h2] at h1
  have h0r : ((lamI m n B i : Int) : Rat) ≠ 0 := fun h => h0 (Rat.intCast_inj.1 (by rw [← lamI, h]; rfl))
  have e : (wI m B n i ((gproc m B n).cs.getD i 0) : Rat) = (lamI m n B i : Rat) := rfl
  rw [e] at h1
  generalize ((lamI m n B i : Int) : Rat) = p at *
  generalize ((qN m n B f i : Int) : Rat) = q at *
  generalize ((denR m n B : Int) : Rat) = d at *
  have : p * (q - d * (a0g m B n).M i f) = 0 := by grind
  rcases Rat.mul_eq_zero.1 this with h | h
  · exact absurd h h0r
  · grind
theorem xy {P : Nat → Bool} {f : Nat} (hf : f < n) (k : Nat) : ((xP m n B P f k : Int) : Rat) = (denR m n B : Rat) * yP m n B P f k := by
  unfold xP yP
  split
  · grind
  · cases h : hpos (gproc m B n).cs k with
    | none => simp
    | some i =>
      simp only
      split
      · rw [Rat.intCast_neg, e1f hBi (a4j h).1 hf]; grind
      · simp
theorem c8x : Bm (b2d m n B n) = a0Z (denR m n B : Rat) (a1h m n B) := by
  funext j k
  unfold Bm a0Z a1h b2d
  by_cases hj : j < (a1b (gproc m B n).cs n).length
  · have hg : mg ((a1b (gproc m B n).cs n).map fun f => vec n (xP m n B yesP f)) j = vec n (xP m n B yesP ((a1b (gproc m B n).cs n).getD j 0)) := by
      rw [a5A (by rw [List.length_map]; exact hj), List.getElem_map, List.getD_eq_getElem?_getD, List.getElem?_eq_getElem hj]; rfl
    have hm : (a1b (gproc m B n).cs n).getD j 0 < n := by
      rw [List.getD_eq_getElem?_getD, List.getElem?_eq_getElem hj]
      exact (b0j (List.getElem_mem hj)).1
    rw [hg]
    by_cases hk : k < n
    · rw [if_pos ⟨hj, hk⟩, a6I hk, xy hBi hm]
    · rw [if_neg (fun h => hk h.2)]
      have : zg (vec n (xP m n B yesP ((a1b (gproc m B n).cs n).getD j 0))) k = 0 := by
        unfold zg; rw [List.getD_eq_getElem?_getD, List.getElem?_eq_none (by rw [a0a]; omega)]; rfl
      rw [this]; simp
  · rw [if_neg (fun h => hj h.1)]
    have : mg ((a1b (gproc m B n).cs n).map fun f => vec n (xP m n B yesP f)) j = [] := by
      unfold mg; rw [List.getD_eq_getElem?_getD, List.getElem?_eq_none (by rw [List.length_map]; omega)]; rfl
    have z0 : zg ([] : List ZI) k = 0 := rfl
    rw [this, z0]; simp
end
/-- The steps do not see a factor. -/
theorem c6Y {s : Rat} (hs : s ≠ 0) (k n : Nat) (N : Nat → Nat → Rat) : a1G k (a0Z s N) n = a1G k N n := by
  have h1 := (a1M hs k N n).1
  unfold a1G
  rw [h1]
  refine d3l fun i hi => ?_
  have : (a0g k (a0Z s N) n).M i = (a0g k N n).M i := funext fun t => by rw [c6z hs, if_pos hi]
  rw [this]
end Go.Abs
namespace Go.Abs
theorem b7g {e : Nat} {B : Nat → Nat → Rat} (hB : Bd e B) : ∀ i k, ∃ z : Int, B i k = z := fun i k => by obtain ⟨z, h, _⟩ := hB i k; exact ⟨z, h⟩
theorem a7G (l : Int) : ∀ t : Nat, ((l ^ t : Int) : Rat) = (l : Rat) ^ t
  | 0 => by simp
  | t + 1 => by rw [Int.pow_succ, Rat.pow_succ, Rat.intCast_mul, a7G l t]
theorem a4v {l : Int} (h : l ≠ 0) : (l : Rat) ≠ 0 := fun e => h (Rat.intCast_inj.1 (by rw [e]; rfl))
section
variable {m n e : Nat} {B : Nat → Nat → Rat} (hB : Bd e B) (hm : m ≤ 64) (hn : n ≤ 64)
/-- How many columns have no head. -/
def a0G (m n : Nat) (B : Nat → Nat → Rat) : Nat := (a1b (gproc m B n).cs n).length
omit hB hm hn in
theorem b3d : a0G m n B ≤ n := b3C _ _
include hB hm
theorem c3u : ∃ l : Int, l ≠ 0 ∧ l.natAbs ≤ LB ^ KB e ∧ Bd (KB e) (a0Z (l : Rat) (a1h m n B)) := by
  have hBi := b7g hB
  have hok := a7F (n := m) hBi n
  have hBd : Bd e (a0g m B n).s.B := by rw [a0J]; exact hB.gproc n
  have hl := Nat.le_trans hok.g.len hm
  obtain ⟨l, hl1, hl2⟩ := b7C hok hl hBd
  refine ⟨l, fun h => a4F hok.g.piv (by rw [hl1, h]; rfl), hl2, fun j k => ?_⟩
  have hone : 1 ≤ LB ^ KB e := Nat.one_le_iff_ne_zero.2 (by have := a2G (KB e); omega)
  unfold a0Z a1h
  by_cases hjk : j < (a1b (gproc m B n).cs n).length ∧ k < n
  · rw [if_pos hjk]
    unfold yP
    split
    · exact ⟨l, by grind, hl2⟩
    · cases h : hpos (gproc m B n).cs k with
      | none => exact ⟨0, by simp, by simp⟩
      | some i =>
        simp only [yesP, if_true]
        obtain ⟨z, hz, hz1⟩ := c3W hok hl hBd i ((a1b (gproc m B n).cs n).getD j 0)
        rw [hl1] at hz
        exact ⟨-z, by rw [Rat.intCast_neg, ← hz]; grind, by rw [Int.natAbs_neg]; exact hz1⟩
  · rw [if_neg hjk]; exact ⟨0, by simp, by simp⟩
include hn
theorem d2P {i : Nat} (hi : i < (gproc (a0G m n B) (a1h m n B) n).cs.length) : Sz ((a0g (a0G m n B) (a1h m n B) n).M i) n (KB (KB e) + 1) := by
  obtain ⟨l, h0, h1, h2⟩ := c3u (n := n) hB hm
  have hl0 := a4v h0
  have hk := b3d (m := m) (n := n) (B := B)
  have := M_sz (n := a0G m n B) (c := n) h2 (by omega) i
  have e : (a0g (a0G m n B) (a0Z (l : Rat) (a1h m n B)) n).M i = (a0g (a0G m n B) (a1h m n B) n).M i := funext fun k => by rw [c6z hl0, if_pos hi]
  rwa [e] at this
omit hn in
theorem d3D {i k : Nat} (hk : k < n) : (wI m B n i k).natAbs < LB ^ (KB e + 1) := Nat.lt_of_le_of_lt (b0d hk) (c5j (M_sz hB hm i) hk)
omit hn in
theorem d4s {t : Nat} (ht : t ≤ (gproc m B n).cs.length) : (denN m n B t).natAbs < LB ^ (t * (KB e + 1) + 1) := c3r fun j hj => d3D hB hm (a1m (by omega))
omit hB hn in
theorem e1b : (gproc m B n).cs.length ≤ 64 := Nat.le_trans (a5k (n := m) (B := B) n).len hm
omit hn in
theorem c8m : (denR m n B).natAbs < LB ^ (64 * (KB e + 1) + 1) := Nat.lt_of_lt_of_le (d4s hB hm (Nat.le_refl _)) (lbm (by have := Nat.mul_le_mul_right (KB e + 1) (e1b (n := n) (B := B) hm); omega))
omit hn in
theorem e1g {f i : Nat} (hf : f < n) : (qN m n B f i).natAbs < LB ^ (65 * (KB e + 2)) := by
  unfold qN
  have h1 := Nat.lt_of_le_of_lt (Int.natAbs_ediv_le_natAbs (denR m n B) (lamI m n B i)) (c8m hB hm)
  have h2 := d3D hB hm (i := i) hf
  have h3 : LB ^ (64 * (KB e + 1) + 1 + (KB e + 1)) ≤ LB ^ (65 * (KB e + 2)) := lbm (by omega)
  refine Nat.lt_of_lt_of_le ?_ h3
  rw [Int.natAbs_mul, Nat.pow_add]
  rcases Nat.eq_zero_or_pos (denR m n B / lamI m n B i).natAbs with h0 | h0
  · rw [h0, Nat.zero_mul]; exact Nat.mul_pos (a2G _) (a2G _)
  · exact Nat.mul_lt_mul_of_le_of_lt (Nat.le_of_lt h1) h2 (a2G _)
omit hn in
theorem e2q {P : Nat → Bool} {f : Nat} (hf : f < n) (k : Nat) : (xP m n B P f k).natAbs < LB ^ (65 * (KB e + 2)) := by
  unfold xP
  split
  · exact Nat.lt_of_lt_of_le (c8m hB hm) (lbm (by omega))
  · cases h : hpos (gproc m B n).cs k with
    | none => simp only [Int.natAbs_zero]; exact a2G _
    | some i =>
      simp only
      split
      · rw [Int.natAbs_neg]; exact e1g hB hm hf
      · simp only [Int.natAbs_zero]; exact a2G _
theorem c8R {t : Nat} (ht : t ≤ n) : Mok (65 * (KB e + 2)) (b2d m n B t) := by
  refine ⟨by rw [b2d, List.length_map]; have := b3C (gproc m B n).cs t; omega, fun v hv => ?_⟩
  obtain ⟨f, hf, rfl⟩ := List.mem_map.1 hv
  have := (b0j hf).1
  exact a4V (by omega) fun i _ => e2q hB hm (by omega) i
theorem d5Q : ∀ i, i < (gproc (a0G m n B) (Bm (b2d m n B n)) n).cs.length → ∀ t, t < n → (F0s (a0G m n B) (Bm (b2d m n B n)) n i t).natAbs < LB ^ (KB (KB e) + 1) := by
  intro i hi t ht
  obtain ⟨l, h0, h1, h2⟩ := c3u (n := n) hB hm
  have hl0 := a4v h0
  have hBi := b7g hB
  have hd0 := c8l (m := m) (n := n) hBi
  have hk := b3d (m := m) (n := n) (B := B)
  have hXb := b5L (c8R hB hm hn (Nat.le_refl n))
  have hXe := c8x (m := m) (n := n) hBi
  have hcsX := (a1M (a4v hd0) (a0G m n B) (a1h m n B) n).1
  have hcs2 := (a1M hl0 (a0G m n B) (a1h m n B) n).1
  have hil : i < (gproc (a0G m n B) (a1h m n B) n).cs.length := by rw [hXe, hcsX] at hi; exact hi
  have hir : i < a0G m n B := Nat.lt_of_lt_of_le hil (a5k (n := a0G m n B) (B := a1h m n B) n).len
  have key : ∀ k, k < n → F0s (a0G m n B) (Bm (b2d m n B n)) n i k = F0s (a0G m n B) (a0Z (l : Rat) (a1h m n B)) n i k := by
    intro k hk2
    have hz1 := fun k => (c2W _ hXb (show a0G m n B ≤ 64 by omega) n k hir).1
    have hz2 := fun k => (c2W _ h2 (show a0G m n B ≤ 64 by omega) n k hir).1
    have e1 := fun k => d4U (a4v hd0) (a0G m n B) (a1h m n B) n i k
    have e2 := fun k => d4U hl0 (a0G m n B) (a1h m n B) n i k
    generalize ((gproc (a0G m n B) (a1h m n B) n).cs.take i).length + 1 = x at *
    unfold F0s
    refine c3s (a := l ^ x) (b := denR m n B ^ x) (Int.pow_ne_zero h0) (Int.pow_ne_zero hd0) ?_ (fun j _ => ?_) hk2
    · exact b2a b3x (by rw [a0J]; exact hi) (b0b hXb (by omega) hi)
    · refine Rat.intCast_inj.1 ?_
      rw [Rat.intCast_mul, Rat.intCast_mul, hz1, hz2, hXe, e1, e2, a7G, a7G]
      generalize Zg (gproc (a0G m n B) (a1h m n B) n) i j = z
      grind
  rw [key t ht]
  exact e0C h2 (by omega) i (by rw [hcs2]; exact hil) t ht
theorem d5P : ∀ i, i < (gproc (a0G m n B) (Bm (b2d m n B n)) n).cs.length → Sz ((a0g (a0G m n B) (Bm (b2d m n B n)) n).M i) n (KB (KB e) + 1) := by
  intro i hi
  have hBi := b7g hB
  have hd0 := c8l (m := m) (n := n) hBi
  rw [c8x hBi] at hi ⊢
  have hcsX := (a1M (a4v hd0) (a0G m n B) (a1h m n B) n).1
  rw [hcsX] at hi
  have e : (a0g (a0G m n B) (a0Z (denR m n B : Rat) (a1h m n B)) n).M i = (a0g (a0G m n B) (a1h m n B) n).M i := funext fun k => by rw [c6z (a4v hd0), if_pos hi]
  rw [e]
  exact d2P hB hm hn hi
end
end Go.Abs

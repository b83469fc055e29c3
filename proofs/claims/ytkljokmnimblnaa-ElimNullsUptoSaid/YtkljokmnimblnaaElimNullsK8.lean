/- Part 8 of the proof of ElimNulls: W20, W21, W22, W24, W26, W27, W28, W29, W30, W31, W32, W33, W34, W37, W38, W39, W40, W41, W46, W47, W48, W49, W50. -/
import Derived.Test.YtkljokmnimblnaaElimNullsK7
set_option linter.unusedVariables false
set_option linter.unusedSimpArgs false
namespace Go.Abs
/-- A matrix's logical entries: whole numbers. -/
structure Lz (n c K : Nat) (π : Nat → Nat) (S : Nat → Nat → AV) (f : Nat → Nat → Int) : Prop where
  lt : ∀ a, a < n → π a < n
  inj : ∀ a b, a < n → b < n → π a = π b → a = b
  at_ : ∀ a b, a < n → b < c → ∃ x : ZI, S (π a) b = x.av ∧ x.z = f a b ∧ Zok K x
  cl : ∀ a b, Cl (S a b)
theorem Lz.swap {n c K : Nat} {π : Nat → Nat} {S : Nat → Nat → AV} {f : Nat → Nat → Int} (h : Lz n c K π S f) {p r : Nat} (hp : p < n) (hr : r < n) : Lz n c K (swp π p r) S fun a b => if a = p then f r b else if a = r then f p b else f a b := by
  have h0 : Lk n c π S fun a b => S (π a) b := ⟨h.lt, h.inj, fun _ _ _ _ => rfl, h.cl⟩
  have hs := Lk.swap (f := fun x : AV => x) h0 hp hr
  refine ⟨hs.lt, hs.inj, fun a b ha hb => ?_, h.cl⟩
  unfold swp
  split
  · exact h.at_ r b hr hb
  · split
    · exact h.at_ p b hp hb
    · exact h.at_ a b ha hb
/-- Row j from a place on told anew. -/
def a7Z (S : Nat → Nat → AV) (j : Nat) (f : Nat → AV) (t : Nat) : Nat → Nat → AV := fun a b => if a = j ∧ t ≤ b then f b else S a b
theorem c9p {S : Nat → Nat → AV} {j : Nat} {f : Nat → AV} {t b : Nat} (h : b < t) : a7Z S j f t j b = S j b := by simp [a7Z]; omega
theorem c9o {S : Nat → Nat → AV} {j a : Nat} {f : Nat → AV} {t b : Nat} (h : a ≠ j) : a7Z S j f t a b = S a b := by simp [a7Z, h]
theorem d8g (S : Nat → Nat → AV) (j : Nat) (f : Nat → AV) (t : Nat) : upd2 (a7Z S j f (t + 1)) j t (f t) = a7Z S j f t := by
  funext a b
  unfold upd2 a7Z
  by_cases h1 : a = j
  · subst h1
    by_cases h2 : b = t
    · subst h2; simp
    · by_cases h3 : t + 1 ≤ b
      · rw [if_pos rfl, if_neg h2, if_pos ⟨rfl, h3⟩, if_pos ⟨rfl, by omega⟩]
      · rw [if_pos rfl, if_neg h2, if_neg (by omega), if_neg (by omega)]
  · rw [if_neg h1, if_neg (by omega), if_neg (by omega)]
theorem d6G {S : Nat → Nat → AV} {j : Nat} {f : Nat → AV} {t : Nat} (hS : ∀ a b, Cl (S a b)) (hf : ∀ b, Cl (f b)) : ∀ a b, Cl (a7Z S j f t a b) := by
  intro a b; unfold a7Z; split
  · exact hf b
  · exact hS a b
theorem c4A {q : Rat} {z : Int} (h : q = z) : q.num = z ∧ (q.num : Rat) = q := by subst h; exact ⟨rfl, rfl⟩
section
variable {n c e K : Nat} (b : List (List ZI)) (B : Nat → Nat → Rat)
/-- The last head as a whole number. -/
def b4G (n : Nat) (B : Nat → Nat → Rat) (t : Nat) : Int := (gproc n B t).last.num
def ZgI (n : Nat) (B : Nat → Nat → Rat) (t a k : Nat) : Int := (Zg (gproc n B t) a k).num
section
variable (hB : Bd e B) (hn : n ≤ 64)
include hB hn
theorem d7h (t : Nat) : (b4G n B t : Rat) = (gproc n B t).last ∧ (b4G n B t).natAbs ≤ LB ^ KB e := by
  obtain ⟨z, hz, hz1⟩ := b3s hB t (.inl hn)
  obtain ⟨h1, h2⟩ := c4A hz
  exact ⟨h2, by unfold b4G; rw [h1]; exact hz1⟩
theorem c9e (t : Nat) {a : Nat} (k : Nat) (ha : a < n) : (ZgI n B t a k : Rat) = Zg (gproc n B t) a k ∧ (ZgI n B t a k).natAbs ≤ LB ^ KB e := by
  obtain ⟨z, hz, hz1⟩ := e5u hB hn t k ha
  obtain ⟨h1, h2⟩ := c4A hz
  exact ⟨h2, by unfold ZgI; rw [h1]; exact hz1⟩
omit hB hn in
theorem b2a (t : Nat) {a : Nat} (k : Nat) {z : Int} (h : (z : Rat) = Zg (gproc n B t) a k) : z = ZgI n B t a k := by
  unfold ZgI; rw [← h]; rfl
end
def bScp : ACode := .seq (.region a5Q false) (.seq (.region a5P false) (.seq (.region a5O false) (.seq (.label 0) (.seq (.seq (.region a5N false) (.block 0 (.loop a5R))) (.seq (.region a2V true) (.ret))))))
theorem c5Z {H X : Heap} (hH : a0F H) (hX : ∀ b, some b ∈ X → ∀ a ∈ b.flat, Cl a) : a0F (hap H X) := by
  intro id b hb a ha
  have hlen : (hap H X).length = H.length + X.length := by simp [hap]
  simp only [hap] at hb
  rcases Nat.lt_or_ge id H.length with h1 | h1
  · rw [List.getElem?_append_left h1] at hb
    exact (hH id b hb a ha).mono fun i hi => by have : i < H.length := hi; show i < _; omega
  · rw [List.getElem?_append_right h1] at hb
    exact (hX b (List.mem_of_getElem? hb) a ha).ref
/-- What bareiss hands out. -/
def c3H (H : Heap) (n c e : Nat) (B : Nat → Nat → Rat) (r' : AV) (H' : Heap) : Prop := ∃ β π S L lx, Lz n c (KB e + 1) π S (ZgI n B c) ∧ H.length ≤ β ∧ β + n < (hap H L).length ∧ H' = hM (hap H L) β n 2 c (some c) π S ∧ a0F H' ∧
      ZI.z lx = b4G n B c ∧ Zok (KB e + 1) lx ∧ r' = .tup [.mu β 0 n (some n), hsV (gproc n B c).cs, lx.av, .bool (gproc n B c).odd]
theorem d1m (hb : ∀ i, (h : i < b.length) → b[i].length = c) (hBb : ∀ a k, B a k = (zg (mg b a) k : Int)) (hm : Mok e b) (hB : Bd e B) (hn : b.length = n) (hn64 : n ≤ 64) (hc : c ≤ 2097152) (hK : KB e + 1 < 1099511627776) (H : Heap) :
    a0k Pr a4t [matV b, .int .i64 c] H (c3H H n c e B) := by
  refine a0k.introH c6o c6l (Nat.le_of_ble_eq_true rfl) fun hH => ?_
  have hBi : ∀ i k, ∃ z : Int, B i k = z := fun i k => by obtain ⟨z, h, _⟩ := hB i k; exact ⟨z, h⟩
  refine Safe.rg rfl ?_
  simp only [b1q, E3, seval]
  refine Safe.rg rfl ?_
  simp only [a5Q, E3, seval]
  refine (d4f b hb (by omega) hc (hap H [some ⟨2, [.agg [.bool false, .nil]]⟩])).mono ?_
  rintro r' H' ⟨rfl, rfl⟩
  simp only [E3, seval]
  have e0 : lid (hap H [some ⟨2, [.agg [.bool false, .nil]]⟩]) 0 = lid H 1 := by simp [hap, lid]
  rw [e0, b1Q, hn]
  have hX : ∀ x, some x ∈ [some (Blk.mk 2 [.agg [.bool false, .nil]])] → ∀ a ∈ x.flat, Cl a := RC.zero RC.nil
  have hS0 : ∀ j k, Cl (zav b j k) := fun _ _ => ZI.cl _
  have hGr : a0F (hap H ([some ⟨2, [.agg [.bool false, .nil]]⟩] ++ a0R (lid H 1) n 2 c (some c) (zav b))) := a5r hH hX fun j k _ _ => hS0 j k
  have hGm : hM (hap H ([some ⟨2, [.agg [.bool false, .nil]]⟩] ++ a0R (lid H 1) n 2 c (some c) (zav b))) (lid H 1) n 2 c (some c) (fun i => i) (zav b) = hap H ([some ⟨2, [.agg [.bool false, .nil]]⟩] ++ a0R (lid H 1) n 2 c (some c) (zav b)) := d6a H [some ⟨2, [.agg [.bool false, .nil]]⟩] n 2 c (some c) (zav b)
  have hG : lid H 1 + n < (hap H ([some ⟨2, [.agg [.bool false, .nil]]⟩] ++ a0R (lid H 1) n 2 c (some c) (zav b))).length := d0v H [some ⟨2, [.agg [.bool false, .nil]]⟩] n 2 c (some c) (zav b)
  have hbox : (hap H ([some ⟨2, [.agg [.bool false, .nil]]⟩] ++ a0R (lid H 1) n 2 c (some c) (zav b)))[lid H 0]? = some (some ⟨2, [.agg [.bool false, .nil]]⟩) := by
    simp only [hap, lid, Nat.add_zero]
    rw [List.getElem?_append_right (Nat.le_refl _)]; simp
  have hGH : ∃ L0, hap H ([some ⟨2, [.agg [.bool false, .nil]]⟩] ++ a0R (lid H 1) n 2 c (some c) (zav b)) = hap H L0 := ⟨_, rfl⟩
  rw [← hGm] at hGr
  rw [← hGm, ← a1F (hM _ _ _ _ _ _ _ _)]
  clear hGm
  generalize hap H ([some ⟨2, [.agg [.bool false, .nil]]⟩] ++ a0R (lid H 1) n 2 c (some c) (zav b)) = G at *
  have hb01 : lid H 0 < lid H 1 := by simp [lid]
  have hb0 : H.length ≤ lid H 1 := a1q H 1
  have hb00 : H.length ≤ lid H 0 := a1q H 0
  have hbl : lid H 0 = H.length := by simp [lid]
  generalize lid H 1 = β at *
  generalize lid H 0 = b0 at *
  have hHn : H.length ≤ G.length := by omega
  refine Safe.rg rfl ?_
  simp only [a5P, E3, seval]
  refine Safe.nilrow 9 1 (by decide) (by simp only [E3, seval]) ?_
  refine Safe.rg rfl ?_
  simp only [a5O, a1B, a0y, a0J, a0L, E3, seval]
  first | refine (c3o 1 (by decide) (by decide)).acall ?_ | refine (c3o 1 (by decide) (by decide)).dcall ?_
  try simp only [E3, seval]
  simp only [a1B, a0y, a0J, a0L, E3, seval]
  refine Safe.rg rfl ?_
  simp only [a5N, a1B, a0y, a0J, a0L, E3, seval]
  refine Safe.lp rfl ?_
  refine Safe.keep [6, 8, 9, 10, 11, 21, 22] ?_
  simp only [a1B, a0y, a0J, a0L, E3, seval]
  have hlast0 : b4G n B 0 = 1 := by unfold b4G; rfl
  refine Safe.loopW (α := Nat × (Nat → Nat) × (Nat → Nat → AV) × ZI) (fun s => c - s.1)
    (fun s => [(6, .loc b0 0 0), (8, .mu β 0 n (some n)), (9, .mu (lid G 0) 0 (gproc n B s.1).cs.length none), (10, .loc (lid G 1) 0 0), (11, .bool (gproc n B s.1).odd), (21, .int .i64 c), (22, .int .i64 s.1)])
    (fun s => hap (hM G β n 2 c (some c) s.2.1 s.2.2.1) [some ⟨1, (gproc n B s.1).cs.map intV⟩, some ⟨2, [s.2.2.2.av]⟩])
    (fun s => s.1 ≤ c ∧ Lz n c (KB e + 1) s.2.1 s.2.2.1 (ZgI n B s.1) ∧ s.2.2.2.z = b4G n B s.1 ∧ Zok (KB e + 1) s.2.2.2) (0, fun i => i, zav b, canZ 1) rfl rfl
    ⟨Nat.zero_le _, ⟨fun a h => h, fun _ _ _ _ h => h, fun a k ha hk => ?_, hS0⟩, by rw [hlast0]; exact a0o 1, a0l (e5H _)⟩ ?_
  · refine ⟨(mg b a).getD k ⟨false, []⟩, rfl, ?_, ?_⟩
    · refine b2a B 0 k (a := a) ?_
      show ((zg (mg b a) k : Int) : Rat) = Zg (gproc n B 0) a k
      rw [e2O k (Nat.zero_le _)]
      show ((zg (mg b a) k : Int) : Rat) = a4c B [] * a1p B [] a k
      rw [e1u, c6e, hBb]; grind
    · have hr := hm.row a
      have hl : (mg b a).length = c := by rw [a3v (by omega)]; exact hb a (by omega)
      rw [List.getD_eq_getElem?_getD, List.getElem?_eq_getElem (by omega)]
      exact (hr.get (by omega)).mono (by unfold KB; omega)
  rintro ⟨t, π, S1, lx⟩ ⟨ht, hL, hlz, hlk⟩ ih
  simp only at ht hL hlz hlk ih ⊢
  have hok := a9i (n := n) hBi t
  have hrn := hok.len
  have hHr : ∀ {K : Nat} {π' : Nat → Nat} {S' : Nat → Nat → AV} {F : Nat → Nat → Int}, Lz n c K π' S' F → a0F (hM G β n 2 c (some c) π' S') := fun h => c6a hG hGr h.lt fun a b _ _ => h.cl a b
  have htlt : t < 9223372036854775807 := by omega
  have htw : IntKind.wrap .i64 ((t : Int) + 1) = ((t + 1 : Nat) : Int) := by rw [a0a] <;> omega
  refine Safe.inLoop ?_
  by_cases htc : t < c
  · have hlt : ((t : Int) < (c : Int)) = True := eq_true (by omega)
    refine Safe.rg rfl ?_
    simp only [a5M, hlt, E3, seval]
    refine Safe.cd rfl ?_
    simp only [E3, seval]
    refine Safe.rg rfl ?_
    simp only [b1p, E3, seval]
    refine Safe.rg rfl ?_
    simp only [b1o, a1B, a0y, a0J, a0L, E3, seval]
    refine Safe.rg rfl ?_
    simp only [b1n, E3, seval]
    have entry : ∀ q, q < n → ∃ x : ZI, S1 (π q) t = x.av ∧ x.z = ZgI n B t q t ∧ Zok (KB e + 1) x := fun q hq => hL.at_ q t hq htc
    have hzg : ∀ q k, (gproc n B t).cs.length ≤ q → q < n → (ZgI n B t q k : Rat) = (gproc n B t).last * (gproc n B t).g q k := fun q k h1 h2 => by
      rw [(c9e B hB hn64 t k h2).1, e2O k h1]
    have hlne : (gproc n B t).last ≠ 0 := a9e hok.piv
    have hz0 : ∀ q, (gproc n B t).cs.length ≤ q → q < n → (ZgI n B t q t = 0 ↔ (gproc n B t).g q t = 0) := fun q h1 h2 => by
      have h := hzg q t h1 h2
      constructor
      · intro h0; rw [h0] at h
        have : (gproc n B t).last * (gproc n B t).g q t = 0 := by rw [← h]; rfl
        rcases Rat.mul_eq_zero.1 this with h | h
        · exact absurd h hlne
        · exact h
      · intro h0; rw [h0, Rat.mul_zero] at h
        exact Rat.intCast_inj.1 (by rw [h]; rfl)
    rcases a1P (fun p => (gproc n B t).g p t) (gproc n B t).cs.length n with ⟨p, hf, h1, h2, h3, h4⟩ | ⟨hf, h4⟩
    · have hcs : (gproc n B (t + 1)).cs = (gproc n B t).cs ++ [t] := by
        show (a4N n (gproc n B t) t).cs = _
        rw [a0T hf]
      have hodd : (gproc n B (t + 1)).odd = if p = (gproc n B t).cs.length then (gproc n B t).odd else !(gproc n B t).odd := by
        show (a4N n (gproc n B t) t).odd = _
        rw [a0T hf]
      have hr : (gproc n B t).cs.length < n := by omega
      obtain ⟨hlq, hlb⟩ := d7h B hB hn64 t
      obtain ⟨hlq1, hlb1⟩ := d7h B hB hn64 (t + 1)
      have hls := e1t hf h1 hok
      have hgz := d7q (n := n) hBi t
      have hgz1 := d7q (n := n) hBi (t + 1)
      have hZab : ∀ a k, a < (gproc n B t).cs.length → ZgI n B (t + 1) a k = ZgI n B t a k := fun a k ha => by unfold ZgI; rw [e5v hf h1 k ha]
      have hZhd : ∀ k, ZgI n B (t + 1) (gproc n B t).cs.length k = ZgI n B t p k := fun k => by
        refine (b2a B (t + 1) k ?_).symm
        rw [hzg p k h1 h2, e7U hf h1 k]
      have hZpt : (ZgI n B t p t : Rat) = (gproc n B t).last * (gproc n B t).g p t := hzg p t h1 h2
      have hlast1 : ZgI n B t p t = b4G n B (t + 1) := Rat.intCast_inj.1 (by rw [hZpt, hlq1, hls])
      have hl0 : b4G n B t ≠ 0 := fun h => hlne (by rw [← hlq, h]; rfl)
      -- the new rows below
      have hrows : ∀ i k, (gproc n B t).cs.length < i → i < n → ZgI n B t p t * ZgI n B t (if i = p then (gproc n B t).cs.length else i) k - ZgI n B t (if i = p then (gproc n B t).cs.length else i) t * ZgI n B t p k = b4G n B t * ZgI n B (t + 1) i k := by
        intro i k hi hin
        have hσ1 : (gproc n B t).cs.length ≤ (if i = p then (gproc n B t).cs.length else i) := by split <;> omega
        have hσ2 : (if i = p then (gproc n B t).cs.length else i) < n := by split <;> omega
        obtain ⟨z, hz1, hz2⟩ := d1l hok (fun i k => by obtain ⟨z, h, _⟩ := hB.gproc (n := n) t i k; exact ⟨z, h⟩) (p := p) (c := t) (i := i) (k := k) h1 h3 hi hlq (hzg p t h1 h2) (hzg _ k hσ1 hσ2) (hzg _ t hσ1 hσ2) (hzg p k h1 h2)
        have : z = ZgI n B (t + 1) i k := by
          refine b2a B (t + 1) k ?_
          rw [hz2, d7N hf k hi, hls]
          have e : gproc n B (t + 1) = _ := a0T hf
          rw [e]; rfl
        rw [← this]; exact hz1
      have hzero : ∀ i k, (gproc n B t).cs.length < i → i < n → k < t → ZgI n B t (if i = p then (gproc n B t).cs.length else i) k = ZgI n B (t + 1) i k := by
        intro i k hi hin hk
        have hσ1 : (gproc n B t).cs.length ≤ (if i = p then (gproc n B t).cs.length else i) := by split <;> omega
        have hσ2 : (if i = p then (gproc n B t).cs.length else i) < n := by split <;> omega
        refine b2a B (t + 1) k ?_
        rw [hzg _ k hσ1 hσ2, hgz _ k hσ1 hσ2 hk, d7N hf k hi, hgz1 i k (by rw [hcs, a1T]; omega) hin (by omega)]
        grind
      have hZb : ∀ a k, a < n → (ZgI n B (t + 1) a k).natAbs < LB ^ (KB e + 1) := fun a k ha => by
        have h1 := (c9e B hB hn64 (t + 1) k ha).2
        have : LB ^ KB e < LB ^ (KB e + 1) := Nat.pow_lt_pow_right (by decide) (by omega)
        omega
      clear hlq hlq1 hls hgz hgz1 hzg
      generalize hcsl : (gproc n B t).cs.length = r at *
      let f0 : Nat → Nat → Int := fun a k => if a = p then ZgI n B t r k else if a = r then ZgI n B t p k else ZgI n B t a k
      have hf0r : ∀ k, f0 r k = ZgI n B t p k := fun k => by
        show (if r = p then ZgI n B t r k else if r = r then ZgI n B t p k else ZgI n B t r k) = _
        split
        · rename_i h; rw [h]
        · rw [if_pos rfl]
      have hf0i : ∀ i k, r < i → f0 i k = ZgI n B t (if i = p then r else i) k := fun i k hi => by
        show (if i = p then ZgI n B t r k else if i = r then ZgI n B t p k else ZgI n B t i k) = _
        split
        · rfl
        · rw [if_neg (by omega)]
      have hf0a : ∀ a k, a < r → f0 a k = ZgI n B t a k := fun a k ha => by
        show (if a = p then ZgI n B t r k else if a = r then ZgI n B t p k else ZgI n B t a k) = _
        rw [if_neg (by omega), if_neg (by omega)]
      have main : ∀ π', Lz n c (KB e + 1) π' S1 f0 → Safe ⟨Pr, fun _ _ => false, a4t, 147, [.tmp 4, .tmp 5, .cell 6 (some 2), .tmp 7], H.length⟩
          [.code (((ACode.region a4S false).seq (.block 4 (.loop b1r))).seq ((ACode.region a4P false).seq (.region a4O false))),
            .inBlock 1, .code (.region a2W false), .inLoop a5R, .inBlock 0, .code ((ACode.region a2V true).seq .ret), .inScope bScp]
          [(6, .loc b0 0 0), (8, .mu β 0 n (some n)), (9, .mu (lid G 0) 0 r none), (10, .loc (lid G 1) 0 0), (11, .bool (gproc n B (t + 1)).odd), (12, .int .i64 t), (13, .int .i64 r), (21, .int .i64 c), (22, .int .i64 t)]
          (hap (hM G β n 2 c (some c) π' S1) [some ⟨1, (gproc n B t).cs.map intV⟩, some ⟨2, [lx.av]⟩]) (c3H H n c e B) := by
        intro π' hL'
        have hpr := hL'.lt r hr
        have hrw2 : IntKind.wrap .i64 ((r : Int) + 1) = ((r + 1 : Nat) : Int) := by rw [a0a] <;> omega
        refine Safe.rg rfl ?_
        simp only [a4S, hrw2, E3, seval]
        refine Safe.lp rfl ?_
        refine Safe.keep [6, 8, 9, 10, 11, 12, 13, 15, 21, 22] ?_
        try simp only [E3, seval]
        refine Safe.loopW (α := Nat × (Nat → Nat → AV)) (fun s => n - s.1)
          (fun s => [(6, .loc b0 0 0), (8, .mu β 0 n (some n)), (9, .mu (lid G 0) 0 r none), (10, .loc (lid G 1) 0 0), (11, .bool (gproc n B (t + 1)).odd), (12, .int .i64 t), (13, .int .i64 r), (15, .int .i64 s.1), (21, .int .i64 c), (22, .int .i64 t)])
          (fun s => hap (hM G β n 2 c (some c) π' s.2) [some ⟨1, (gproc n B t).cs.map intV⟩, some ⟨2, [lx.av]⟩])
          (fun s => r < s.1 ∧ s.1 ≤ n ∧ Lz n c (KB e + 1) π' s.2 (fun a k => if r < a ∧ a < s.1 then ZgI n B (t + 1) a k else f0 a k)) (r + 1, S1) rfl rfl
          ⟨Nat.lt_succ_self r, hr, hL'.lt, hL'.inj, fun a k ha hk => ?_, hL'.cl⟩ ?_
        · have := hL'.at_ a k ha hk
          show ∃ x : ZI, S1 (π' a) k = x.av ∧ x.z = (if r < a ∧ a < r + 1 then ZgI n B (t + 1) a k else f0 a k) ∧ Zok (KB e + 1) x
          rw [if_neg (by omega)]; exact this
        rintro ⟨i, S2⟩ ⟨hri, hin, hL2⟩ ih2
        simp only at hri hin hL2 ih2 ⊢
        refine Safe.inLoop ?_
        by_cases hi : i < n
        · have hlt2 : ((i : Int) < (n : Int)) = True := eq_true (by omega)
          have hiw : IntKind.wrap .i64 ((i : Int) + 1) = ((i + 1 : Nat) : Int) := by rw [a0a] <;> omega
          have hcw : IntKind.wrap .i64 ((c : Int) - 1) = (c : Int) - 1 := a0a (by omega) (by omega)
          have hpi := hL2.lt i hi
          have hne : π' r ≠ π' i := fun h => by have := hL2.inj _ _ hr hi h; omega
          refine Safe.rg rfl ?_
          simp only [a4R, b2c hG, hlt2, E3, seval]
          refine Safe.cd rfl ?_
          simp only [E3, seval]
          refine Safe.rg rfl ?_
          simp only [b0h, a4f hG hi, M_at hG hi, e2V hG hpi, hcw, E3, seval]
          refine Safe.lp rfl ?_
          refine Safe.keep [6, 8, 9, 10, 11, 12, 13, 15, 16, 21, 22] ?_
          try simp only [E3, seval]
          refine Safe.loopD (c - t) (fun m => [(6, .loc b0 0 0), (8, .mu β 0 n (some n)), (9, .mu (lid G 0) 0 r none), (10, .loc (lid G 1) 0 0), (11, .bool (gproc n B (t + 1)).odd), (12, .int .i64 t), (13, .int .i64 r), (15, .int .i64 i), (16, .int .i64 (((t + m : Nat) : Int) - 1)), (21, .int .i64 c), (22, .int .i64 t)])
            (fun m => hap (hM G β n 2 c (some c) π' (a7Z S2 (π' i) (fun k => Z (ZgI n B (t + 1) i k)) (t + m))) [some ⟨1, (gproc n B t).cs.map intV⟩, some ⟨2, [lx.av]⟩]) ?_ ?_ (fun m hm ihm => ?_) ?_
          · rw [show t + (c - t) = c by omega]
          · rw [show t + (c - t) = c by omega]
            refine congrArg (fun x => hap x _) (e4z fun j k hj hk => ?_)
            unfold a7Z; rw [if_neg (by omega)]
          · have hkc : t + m < c := by omega
            have e1 : (((t + (m + 1) : Nat) : Int) - 1) = ((t + m : Nat) : Int) := by omega
            rw [e1]
            have hge : (((t + m : Nat) : Int) ≥ (t : Int)) = True := eq_true (by omega)
            have hkw : IntKind.wrap .i64 (((t + m : Nat) : Int) - 1) = ((t + m : Nat) : Int) - 1 := a0a (by omega) (by omega)
            obtain ⟨x1, hx1, hz1, hk1⟩ := hL2.at_ r t hr htc
            obtain ⟨x2, hx2, hz2, hk2⟩ := hL2.at_ i (t + m) hi hkc
            obtain ⟨x3, hx3, hz3, hk3⟩ := hL2.at_ i t hi htc
            obtain ⟨x4, hx4, hz4, hk4⟩ := hL2.at_ r (t + m) hr hkc
            rw [if_neg (by omega), hf0r] at hz1 hz4
            rw [if_neg (by omega), hf0i i _ hri] at hz2 hz3
            have hex := hrows i (t + m) hri hi
            rw [← hz1, ← hz2, ← hz3, ← hz4, ← hlz] at hex
            have v1 : a7Z S2 (π' i) (fun k => Z (ZgI n B (t + 1) i k)) (t + (m + 1)) (π' r) t = x1.av := by rw [c9o hne]; exact hx1
            have v2 : a7Z S2 (π' i) (fun k => Z (ZgI n B (t + 1) i k)) (t + (m + 1)) (π' i) (t + m) = x2.av := by rw [c9p (by omega)]; exact hx2
            have v3 : a7Z S2 (π' i) (fun k => Z (ZgI n B (t + 1) i k)) (t + (m + 1)) (π' i) t = x3.av := by rw [c9p (by omega)]; exact hx3
            have v4 : a7Z S2 (π' i) (fun k => Z (ZgI n B (t + 1) i k)) (t + (m + 1)) (π' r) (t + m) = x4.av := by rw [c9o hne]; exact hx4
            have hstep := d8g S2 (π' i) (fun k => Z (ZgI n B (t + 1) i k)) (t + m)
            have hclS : ∀ a b, Cl (a7Z S2 (π' i) (fun k => Z (ZgI n B (t + 1) i k)) (t + m) a b) := d6G hL2.cl fun _ => Z_cl _
            have hm1 := a4b hk1.abs hk2.abs
            have hm2 := a4b hk3.abs hk4.abs
            have hs1 := e6g hm1 hm2
            rw [show t + (m + 1) = t + m + 1 by omega] at v1 v2 v3 v4 ⊢
            generalize a7Z S2 (π' i) (fun k => Z (ZgI n B (t + 1) i k)) (t + m + 1) = St at *
            refine Safe.inLoop ?_
            refine Safe.rg rfl ?_
            simp only [a4Q, hge, E3, seval]
            refine Safe.cd rfl ?_
            simp only [E3, seval]
            refine Safe.rg rfl ?_
            simp only [b0g, a1B, a0y, a0J, a0L, a4f hG hr, M_at hG hr, a4f hG hi, M_at hG hi, a6a hG hpr htc, E_at hG hpr htc, a6a hG hpi hkc, E_at hG hpi hkc, a6a hG hpi htc, E_at hG hpi htc, a6a hG hpr hkc, E_at hG hpr hkc, v1, v2, v3, v4, E3, seval]
            refine (a7n x1 x2 _ _ hk1 hk2 (by omega)).dcall ?_
            simp only [a1B, a0y, a0J, a0L, a4f hG hr, M_at hG hr, a4f hG hi, M_at hG hi, a6a hG hpi htc, E_at hG hpi htc, a6a hG hpr hkc, E_at hG hpr hkc, v3, v4, E3, seval]
            refine (a7n x3 x4 _ _ hk3 hk4 (by omega)).dcall ?_
            simp only [E3, seval]
            refine (d6B hm1 hm2 (by omega)).dcall ?_
            simp only [a1B, a0y, a0J, a0L, E3, seval]
            have hfl := b0m (canZ (x1.z * x2.z - x3.z * x4.z)) lx (KB e + 1 + (KB e + 1) + 1) (a0l hs1) (hlk.mono (by omega)) (by omega) (ZgI n B (t + 1) i (t + m)) (by rw [hlz]; exact hl0) (by rw [a0o]; exact hex)
            rw [a2A] at hfl
            refine Safe.rg rfl ?_
            simp only [b0f, a1B, a0y, a0J, a0L, a4f hG hi, M_at hG hi, a6a hG hpi hkc, E3, seval]
            refine hfl.dcall ?_
            simp only [a1B, a0y, a0J, a0L, a6a hG hpi hkc, E3, seval]
            simp only [E_st hG hpi hkc (e9B _) (show (Z _).cells.length = 2 from rfl), hstep, E3, seval]
            refine Safe.rg rfl ?_
            simp only [b0e, hkw, E3, seval]
            refine Safe.keep [6, 8, 9, 10, 11, 12, 13, 15, 16, 21, 22] ?_
            simp only [E3, seval]
            have hnb2 : nref (lid G 2) (.mu β 0 n (some n)) = true := a3Z (by unfold lid; omega)
            have hnb3 : nref (lid G 2) (.loc b0 0 0) = true := a0B.2 (.loc _ _ _ (by show b0 ≠ _; unfold lid; omega))
            refine Safe.dropM [some ⟨1, (gproc n B t).cs.map intV⟩, some ⟨2, [lx.av]⟩] (c6a hG hGr hL'.lt fun a b _ _ => hclS a b) (by show H.length ≤ _; exact hHn) (by simp only [List.all_cons, List.all_nil, hnb2, hnb3, E3, seval]) (RC.row a9f (RC.one (ZI.cl _) RC.nil)) ?_
            exact ihm
          · have hge : ((t : Int) - 1 ≥ (t : Int)) = False := eq_false (by omega)
            refine Safe.inLoop ?_
            refine Safe.rg rfl ?_
            simp only [a4Q, hge, E3, seval]
            refine Safe.cd rfl ?_
            simp only [E3, seval]
            refine Safe.rg rfl ?_
            simp only [b0d, hiw, E3, seval]
            refine Safe.keep [6, 8, 9, 10, 11, 12, 13, 15, 21, 22] ?_
            simp only [E3, seval]
            refine ih2 (i + 1, _) ⟨Nat.lt_succ_of_lt hri, hi, hL2.lt, hL2.inj, fun a k ha hk => ?_, d6G hL2.cl fun _ => Z_cl _⟩ (by show n - (i + 1) < n - i; omega)
            show ∃ x : ZI, a7Z S2 (π' i) (fun k => Z (ZgI n B (t + 1) i k)) t (π' a) k = x.av ∧ x.z = (if r < a ∧ a < i + 1 then ZgI n B (t + 1) a k else f0 a k) ∧ Zok (KB e + 1) x
            by_cases hai : a = i
            · subst hai
              rw [if_pos ⟨hri, Nat.lt_succ_self a⟩]
              by_cases hkt : t ≤ k
              · refine ⟨canZ (ZgI n B (t + 1) a k), ?_, a0o _, a0l (hZb a k ha)⟩
                unfold a7Z; rw [if_pos ⟨rfl, hkt⟩, a2A]
              · obtain ⟨x, hx, hz, hk'⟩ := hL2.at_ a k ha hk
                rw [if_neg (by omega), hf0i a k hri, hzero a k hri ha (by omega)] at hz
                exact ⟨x, by rw [c9p (by omega)]; exact hx, hz, hk'⟩
            · obtain ⟨x, hx, hz, hk'⟩ := hL2.at_ a k ha hk
              refine ⟨x, by rw [c9o (fun h => hai (hL2.inj _ _ ha hi h))]; exact hx, ?_, hk'⟩
              rw [hz]
              by_cases h5 : r < a ∧ a < i
              · rw [if_pos h5, if_pos ⟨h5.1, by omega⟩]
              · rw [if_neg h5, if_neg (by omega)]
        · have hin' : i = n := by omega
          subst hin'
          refine Safe.rg rfl ?_
          simp only [a4R, b2c hG, Int.lt_irrefl, E3, seval]
          refine Safe.cd rfl ?_
          simp only [E3, seval]
          have hL3 : Lz i c (KB e + 1) π' S2 (ZgI i B (t + 1)) := by
            refine ⟨hL2.lt, hL2.inj, fun a k ha hk => ?_, hL2.cl⟩
            obtain ⟨x, hx, hz, hk'⟩ := hL2.at_ a k ha hk
            refine ⟨x, hx, ?_, hk'⟩
            rw [hz]
            rcases Nat.lt_trichotomy a r with h | h | h
            · rw [if_neg (by omega), hf0a a k h, hZab a k h]
            · subst h; rw [if_neg (by omega), hf0r, hZhd]
            · rw [if_pos ⟨h, ha⟩]
          obtain ⟨x1, hx1, hz1, hk1⟩ := hL3.at_ r t hr htc
          rw [hZhd, hlast1] at hz1
          have hnb2 : nref (lid G 0) (.mu β 0 i (some i)) = true := a3Z (by unfold lid; omega)
          have hnb3 : nref (lid G 0) (.loc b0 0 0) = true := a0B.2 (.loc _ _ _ (by show b0 ≠ _; unfold lid; omega))
          refine Safe.rg rfl ?_
          simp only [a4P, a1B, a0y, a0J, a0L, a4f hG hr, M_at hG hr, a6a hG hpr htc, E_at hG hpr htc, hx1, E3, seval]
          have hRC : RC [some ⟨1, (gproc i B t).cs.map intV⟩, some ⟨2, [x1.av]⟩] := RC.row a9f (RC.one (ZI.cl _) RC.nil)
          refine Safe.rg rfl ?_
          simp only [a4O, E3, seval]
          have happ := fun env : Env => d7L (hHr hL3) (L := [some ⟨1, (gproc i B t).cs.map intV⟩, some ⟨2, [x1.av]⟩]) 0 (n0 := H.length) (Nat.le_trans hHn (a1q G 0)) (env := env) (wd := 1) (bytes := 8) (f := intV) (y := .int .i64 (t : Int)) a9f (gproc i B t).cs t hcsl.symm rfl hRC rfl (by omega) (by omega)
          simp only [ZI.av] at happ
          rw [happ]
          simp only [hnb2, hnb3, List.set_cons_succ, List.set_cons_zero, E3, seval]
          refine Safe.rg rfl ?_
          simp only [a2W, htw, E3, seval]
          refine Safe.keep [6, 8, 9, 10, 11, 21, 22] ?_
          simp only [E3, seval]
          have hfin := ih (t + 1, π', S2, x1) ⟨htc, hL3, hz1, hk1⟩ (by show c - (t + 1) < c - t; omega)
          simp only [hcs, a1T, hcsl] at hfin
          exact hfin
      -- the head's row
      refine Safe.lp rfl ?_
      refine Safe.keep [6, 8, 9, 10, 11, 12, 13, 14, 21, 22] ?_
      try simp only [E3, seval]
      refine Safe.loopN (p - r) (fun j => [(6, .loc b0 0 0), (8, .mu β 0 n (some n)), (9, .mu (lid G 0) 0 r none), (10, .loc (lid G 1) 0 0), (11, .bool (gproc n B t).odd), (12, .int .i64 t), (13, .int .i64 r), (14, .int .i64 ((r + j : Nat) : Int)), (21, .int .i64 c), (22, .int .i64 t)])
        (fun _ => hap (hM G β n 2 c (some c) π S1) [some ⟨1, (gproc n B t).cs.map intV⟩, some ⟨2, [lx.av]⟩]) rfl rfl (fun j hj2 ihj => ?_) ?_
      · have hq : r + j < n := by omega
        have hlt2 : (((r + j : Nat) : Int) < (n : Int)) = True := eq_true (by omega)
        have hpq := hL.lt (r + j) hq
        have hqw : IntKind.wrap .i64 (((r + j : Nat) : Int) + 1) = ((r + (j + 1) : Nat) : Int) := by rw [a0a] <;> omega
        obtain ⟨x, v4, hxz, hxk⟩ := entry (r + j) hq
        have hz : ZgI n B t (r + j) t = 0 := (hz0 _ (by omega) hq).2 (h4 _ (by omega) (by omega))
        rw [hz] at hxz
        refine Safe.inLoop ?_
        refine Safe.rg rfl ?_
        simp only [a2z, b2c hG, hlt2, a4f hG hq, M_at hG hq, a6a hG hpq htc, E_at hG hpq htc, v4, E3, seval]
        refine (a1J x (hxk.mono (by omega))).acall ?_
        simp only [hxz, Int.sign_zero, E3, seval]
        refine Safe.cd rfl ?_
        simp only [E3, seval]
        refine Safe.rg rfl ?_
        simp only [a4V, hqw, E3, seval]
        refine Safe.keep [6, 8, 9, 10, 11, 12, 13, 14, 21, 22] ?_
        simp only [E3, seval]
        refine Safe.inBlock ?_
        exact ihj
      · have hrp : r + (p - r) = p := by omega
        rw [hrp]
        have hlt2 : ((p : Int) < (n : Int)) = True := eq_true (by omega)
        have hpq := hL.lt p h2
        obtain ⟨x, v4, hxz, hxk⟩ := entry p h2
        have hz : (x.z.sign = 0) = False := eq_false (by rw [hxz, Int.sign_eq_zero_iff_zero, hz0 p h1 h2]; exact h3)
        have hpn : ((p : Int) = (n : Int)) = False := eq_false (by omega)
        refine Safe.inLoop ?_
        refine Safe.rg rfl ?_
        simp only [a2z, b2c hG, hlt2, a4f hG h2, M_at hG h2, a6a hG hpq htc, E_at hG hpq htc, v4, E3, seval]
        refine (a1J x (hxk.mono (by omega))).acall ?_
        simp only [hz, E3, seval]
        refine Safe.cd rfl ?_
        simp only [E3, seval]
        refine Safe.rg rfl ?_
        simp only [a4U, b2c hG, hpn, E3, seval]
        refine Safe.cd rfl ?_
        simp only [E3, seval]
        by_cases hpr : p = r
        · have hpr1 : ((p : Int) = (r : Int)) = True := eq_true (by omega)
          refine Safe.rg rfl ?_
          simp only [a4T, hpr1, E3, seval]
          refine Safe.cd rfl ?_
          simp only [E3, seval]
          refine Safe.keep [6, 8, 9, 10, 11, 12, 13, 21, 22] ?_
          simp only [E3, seval]
          have hm := main π (by
            refine ⟨hL.lt, hL.inj, fun a k ha hk => ?_, hL.cl⟩
            obtain ⟨x, hx, hz, hk'⟩ := hL.at_ a k ha hk
            refine ⟨x, hx, ?_, hk'⟩
            rw [hz]
            show _ = if a = p then ZgI n B t r k else if a = r then ZgI n B t p k else ZgI n B t a k
            split
            · rename_i h; rw [h, hpr]
            · split
              · rename_i h; omega
              · rfl)
          rw [hodd, if_pos hpr] at hm
          refine Safe.skip ?_
          exact hm
        · have hpr1 : ((p : Int) = (r : Int)) = False := eq_false (by omega)
          refine Safe.rg rfl ?_
          simp only [a4T, hpr1, E3, seval]
          refine Safe.cd rfl ?_
          simp only [E3, seval]
          refine Safe.rg rfl ?_
          simp only [b0j, a4f hG h2, M_at hG h2, a4f hG hr, M_at hG hr, E3, seval]
          simp only [M_st hG h2, a4f hG hr, M_st hG hr, e5C, E3, seval]
          refine Safe.rg rfl ?_
          simp only [b0i, E3, seval]
          refine Safe.keep [6, 8, 9, 10, 11, 12, 13, 21, 22] ?_
          simp only [E3, seval]
          have hm := main (swp π p r) (Lz.swap hL h2 hr)
          rw [hodd, if_neg hpr] at hm
          exact hm
    · -- no head in this column
      have hcs : gproc n B (t + 1) = gproc n B t := a2f hf
      generalize hcsl : (gproc n B t).cs.length = r at *
      refine Safe.lp rfl ?_
      refine Safe.keep [6, 8, 9, 10, 11, 12, 13, 14, 21, 22] ?_
      try simp only [E3, seval]
      refine Safe.loopN (n - r) (fun j => [(6, .loc b0 0 0), (8, .mu β 0 n (some n)), (9, .mu (lid G 0) 0 r none), (10, .loc (lid G 1) 0 0), (11, .bool (gproc n B t).odd), (12, .int .i64 t), (13, .int .i64 r), (14, .int .i64 ((r + j : Nat) : Int)), (21, .int .i64 c), (22, .int .i64 t)])
        (fun _ => hap (hM G β n 2 c (some c) π S1) [some ⟨1, (gproc n B t).cs.map intV⟩, some ⟨2, [lx.av]⟩]) rfl rfl (fun j hj2 ihj => ?_) ?_
      · have hq : r + j < n := by omega
        have hlt2 : (((r + j : Nat) : Int) < (n : Int)) = True := eq_true (by omega)
        have hpq := hL.lt (r + j) hq
        have hqw : IntKind.wrap .i64 (((r + j : Nat) : Int) + 1) = ((r + (j + 1) : Nat) : Int) := by rw [a0a] <;> omega
        obtain ⟨x, v4, hxz, hxk⟩ := entry (r + j) hq
        have hz : ZgI n B t (r + j) t = 0 := (hz0 _ (by omega) hq).2 (h4 _ (by omega) (by omega))
        rw [hz] at hxz
        refine Safe.inLoop ?_
        refine Safe.rg rfl ?_
        simp only [a2z, b2c hG, hlt2, a4f hG hq, M_at hG hq, a6a hG hpq htc, E_at hG hpq htc, v4, E3, seval]
        refine (a1J x (hxk.mono (by omega))).acall ?_
        simp only [hxz, Int.sign_zero, E3, seval]
        refine Safe.cd rfl ?_
        simp only [E3, seval]
        refine Safe.rg rfl ?_
        simp only [a4V, hqw, E3, seval]
        refine Safe.keep [6, 8, 9, 10, 11, 12, 13, 14, 21, 22] ?_
        simp only [E3, seval]
        refine Safe.inBlock ?_
        exact ihj
      · have hrp : r + (n - r) = n := by omega
        rw [hrp]
        refine Safe.inLoop ?_
        refine Safe.rg rfl ?_
        simp only [a2z, b2c hG, Int.lt_irrefl, E3, seval]
        refine Safe.cd rfl ?_
        simp only [E3, seval]
        refine Safe.rg rfl ?_
        simp only [a4U, b2c hG, E3, seval]
        refine Safe.cd rfl ?_
        simp only [E3, seval]
        refine Safe.rg rfl ?_
        simp only [a2W, htw, E3, seval]
        refine Safe.keep [6, 8, 9, 10, 11, 21, 22] ?_
        simp only [E3, seval]
        have hz1 : ZgI n B (t + 1) = ZgI n B t := by funext a k; unfold ZgI; rw [hcs]
        have hl1 : b4G n B (t + 1) = b4G n B t := by unfold b4G; rw [hcs]
        have hfin := ih (t + 1, π, S1, lx) ⟨htc, by rw [hz1]; exact hL, by rw [hl1]; exact hlz, hlk⟩ (by show c - (t + 1) < c - t; omega)
        simp only [hcs, hcsl] at hfin
        exact hfin
  · have htc' : t = c := by omega
    subst htc'
    refine Safe.rg rfl ?_
    simp only [a5M, Int.lt_irrefl, E3, seval]
    refine Safe.cd rfl ?_
    simp only [E3, seval]
    have hnb2 : frz (lid G 0) ⟨1, (gproc n B t).cs.map intV⟩ (.mu β 0 n (some n)) = .mu β 0 n (some n) := a7f (.mu _ _ _ _ (by show β ≠ _; unfold lid; omega))
    have hnb3 : frz (lid G 0) ⟨1, (gproc n B t).cs.map intV⟩ (.loc b0 0 0) = .loc b0 0 0 := a7f (.loc _ _ _ (by show b0 ≠ _; unfold lid; omega))
    have hcl : frz (lid G 0) ⟨1, (gproc n B t).cs.map intV⟩ (.mu (lid G 0) 0 (gproc n B t).cs.length none) = hsV (gproc n B t).cs := a5t (H := G) 0 1 intV _ none
    refine Safe.freezeM 0 (hHr hL) (by show H.length ≤ _; exact hHn) rfl (a1H 1 intV _ a9f) ?_
    refine Safe.keep [6, 8, 9, 10, 11] ?_
    simp only [hnb2, hnb3, hcl, a1O, ZI.av_frz, E3, seval]
    refine Safe.rg rfl ?_
    simp only [a2V, a1B, a0y, a0J, a0L, E3, seval]
    have hbox' : (G.set b0 (some ⟨2, [.agg [.bool lx.neg, natV lx.mag]]⟩))[b0]? = some (some ⟨2, [.agg [.bool lx.neg, natV lx.mag]]⟩) := by
      rw [List.getElem?_set]; simp; omega
    have hG' : β + n < (G.set b0 (some ⟨2, [.agg [.bool lx.neg, natV lx.mag]]⟩)).length := by rw [List.length_set]; exact hG
    simp only [e8r hG hb01 hbox (show (AV.agg [.bool lx.neg, natV lx.mag]).fit = true from rfl) (show (AV.agg [.bool lx.neg, natV lx.mag]).cells.length = 2 from rfl), E3, seval]
    refine Safe.rt rfl ?_
    simp only [e9x hG' hb01 hbox', E3, seval]
    obtain ⟨L0, hL0⟩ := hGH
    have hH1 : a0F (hM (G.set b0 (some ⟨2, [.agg [.bool lx.neg, natV lx.mag]]⟩)) β n 2 t (some t) π S1) := by
      have e := e0n (L := []) (O := orow β n t (some t) π) (R := fun j => some ⟨2, fr t (S1 j)⟩) hG hb01 (some ⟨2, [.agg [.bool lx.neg, natV lx.mag]]⟩)
      rw [a1F, a1F] at e
      unfold hM
      rw [← e]
      refine a0F.set (hHr hL) b0 fun a ha => ?_
      have := RC.one (wd := 2) (ZI.cl lx) RC.nil ⟨2, [lx.av]⟩ (by simp) a ha
      exact this.ref
    have hGs : G.set b0 (some ⟨2, [.agg [.bool lx.neg, natV lx.mag]]⟩) = hap H (L0.set 0 (some ⟨2, [.agg [.bool lx.neg, natV lx.mag]]⟩)) := by
      rw [hL0, hbl]
      simp only [hap]
      rw [List.set_append_right _ _ (Nat.le_refl _), Nat.sub_self]
    refine ⟨β, π, S1, L0.set 0 (some ⟨2, [.agg [.bool lx.neg, natV lx.mag]]⟩) ++ [none, some ⟨2, [lx.av]⟩], lx, hL, hb0, ?_, ?_, ?_, hlz, hlk, rfl⟩
    · have : G.length = H.length + L0.length := by rw [hL0]; simp [hap]
      simp [hap]; omega
    · rw [e1J _ _ _ _ _ _ _ _ _ hG', hGs, b1Q]
    · exact c5Z hH1 (RC.none (RC.one (ZI.cl _) RC.nil))
end
end Go.Abs
namespace Go.Abs
/-- A matrix's entries as fractions. -/
def Bm (b : List (List ZI)) : Nat → Nat → Rat := fun a k => (zg (mg b a) k : Int)
theorem d6A {b : List (List ZI)} {e : Nat} (h : Mok e b) : Bd e (Bm b) := fun a k => ⟨zg (mg b a) k, rfl, Nat.le_of_lt ((h.row a).abs k)⟩
theorem c8X (H : Heap) (cs : List Nat) : lenV H (hsV cs) = some (.int .i64 cs.length) := d6I H 1 intV cs
/-- The error of a matrix. -/
noncomputable def elE (b : List (List ZI)) : Int := @ite _ (Rect b) (Classical.propDecidable _) (if b.length > 64 ∨ wid b > 64 then 60 else 0) 8
theorem c6p (b : List (List ZI)) : (¬ Rect b ∧ elE b = 8) ∨ (Rect b ∧ (b.length > 64 ∨ wid b > 64) ∧ elE b = 60) ∨ (Rect b ∧ b.length ≤ 64 ∧ wid b ≤ 64 ∧ elE b = 0) := by
  unfold elE
  by_cases h : Rect b
  · by_cases h2 : b.length > 64 ∨ wid b > 64
    · exact .inr (.inl ⟨h, h2, by rw [if_pos h, if_pos h2]⟩)
    · exact .inr (.inr ⟨h, by omega, by omega, by rw [if_pos h, if_neg h2]⟩)
  · exact .inl ⟨h, by rw [if_neg h]⟩
noncomputable def askT (b : List (List ZI)) : AV := if elE b = 0 then .tup [.int .i64 b.length, .int .i64 (wid b), .int .i64 0] else .tup [.int .i64 0, .int .i64 0, .int .i64 (elE b)]
section
variable (b : List (List ZI)) {e : Nat} (hm : Mok e b)
include hm
theorem c9c : a0d Pr b1G [matV b] (askT b) := by
  have hw : wid b ≤ 2097152 := (hm.row 0).len
  rcases c6p b with ⟨hr, he⟩ | ⟨hr, h2, he⟩ | ⟨hr, h2, h3, he⟩
  · unfold askT
    rw [he, if_neg (by decide)]
    refine a0d.intro a9o a9n (Nat.le_of_ble_eq_true rfl) (cl3i _ _ _) fun H hH => ?_
    refine Safe.rg rfl ?_
    simp only [a5l, E3, seval]
    refine Safe.rg rfl ?_
    simp only [a5k, E3, seval]
    first | refine (c8L b e hm hr).acall ?_ | refine (c8L b e hm hr).dcall ?_
    try simp only [E3, seval]
    refine Safe.rg rfl ?_
    simp only [a5j, E3, seval]
    refine Safe.cd rfl ?_
    simp only [E3, seval]
    refine Safe.rg rfl ?_
    simp only [b8d, E3, seval]
    refine Safe.rt rfl ?_
    simp only [one3, E3, seval]
    first | exact ⟨rfl, _, rfl⟩ | exact ⟨_, rfl⟩ | exact ⟨trivial, _, rfl⟩
  · unfold askT
    rw [he, if_neg (by decide)]
    refine a0d.intro a9o a9n (Nat.le_of_ble_eq_true rfl) (cl3i _ _ _) fun H hH => ?_
    refine Safe.rg rfl ?_
    simp only [a5l, E3, seval]
    refine Safe.rg rfl ?_
    simp only [a5k, E3, seval]
    first | refine (a7E b e hm hr).acall ?_ | refine (a7E b e hm hr).dcall ?_
    try simp only [E3, seval]
    refine Safe.rg rfl ?_
    simp only [a5j, E3, seval]
    refine Safe.cd rfl ?_
    simp only [E3, seval]
    by_cases h : b.length > 64
    · have hc : ((b.length : Int) > 64) = True := eq_true (by omega)
      refine Safe.rg rfl ?_
      simp only [a5i, hc, E3, seval]
      refine Safe.cd rfl ?_
      simp only [E3, seval]
      refine Safe.rg rfl ?_
      simp only [a9m, E3, seval]
      refine Safe.rt rfl ?_
      simp only [one3, E3, seval]
      first | exact ⟨rfl, _, rfl⟩ | exact ⟨_, rfl⟩ | exact ⟨trivial, _, rfl⟩
    · have hc : ((b.length : Int) > 64) = False := eq_false (by omega)
      have hc2 : ((wid b : Int) > 64) = True := eq_true (by omega)
      refine Safe.rg rfl ?_
      simp only [a5i, hc, hc2, E3, seval]
      refine Safe.cd rfl ?_
      simp only [E3, seval]
      refine Safe.rg rfl ?_
      simp only [a9m, E3, seval]
      refine Safe.rt rfl ?_
      simp only [one3, E3, seval]
      first | exact ⟨rfl, _, rfl⟩ | exact ⟨_, rfl⟩ | exact ⟨trivial, _, rfl⟩
  · unfold askT
    rw [he, if_pos rfl]
    have hc : ((b.length : Int) > 64) = False := eq_false (by omega)
    have hc2 : ((wid b : Int) > 64) = False := eq_false (by omega)
    refine a0d.intro a9o a9n (Nat.le_of_ble_eq_true rfl) (cl3i _ _ _) fun H hH => ?_
    refine Safe.rg rfl ?_
    simp only [a5l, E3, seval]
    refine Safe.rg rfl ?_
    simp only [a5k, E3, seval]
    first | refine (a7E b e hm hr).acall ?_ | refine (a7E b e hm hr).dcall ?_
    try simp only [E3, seval]
    refine Safe.rg rfl ?_
    simp only [a5j, E3, seval]
    refine Safe.cd rfl ?_
    simp only [E3, seval]
    refine Safe.rg rfl ?_
    simp only [a5i, hc, hc2, E3, seval]
    refine Safe.cd rfl ?_
    simp only [E3, seval]
    refine Safe.rg rfl ?_
    simp only [b8c, E3, seval]
    refine Safe.rt rfl ?_
    simp only [one3, E3, seval]
    first | exact ⟨rfl, _, rfl⟩ | exact ⟨_, rfl⟩ | exact ⟨trivial, _, rfl⟩
theorem b1X : a0d Pr a9v [matV b] (.int .i64 (elE b)) := by
  rcases c6p b with ⟨hr, he⟩ | ⟨hr, h2, he⟩ | ⟨hr, h2, h3, he⟩
  · rw [he]
    refine a0d.intro a6V a6U (Nat.le_of_ble_eq_true rfl) (.int _ _) fun H hH => ?_
    refine Safe.rg rfl ?_
    simp only [a4o, E3, seval]
    refine Safe.rg rfl ?_
    simp only [a4n, E3, seval]
    first | refine (c7s b e hm hr).acall ?_ | refine (c7s b e hm hr).dcall ?_
    try simp only [E3, seval]
    refine Safe.rg rfl ?_
    simp only [a4m, E3, seval]
    refine Safe.cd rfl ?_
    simp only [E3, seval]
    refine Safe.rg rfl ?_
    simp only [b2M, E3, seval]
    refine Safe.rt rfl ?_
    simp only [E3, seval]
    first | exact ⟨rfl, _, rfl⟩ | exact ⟨_, rfl⟩ | exact ⟨trivial, _, rfl⟩
  · rw [he]
    refine a0d.intro a6V a6U (Nat.le_of_ble_eq_true rfl) (.int _ _) fun H hH => ?_
    refine Safe.rg rfl ?_
    simp only [a4o, E3, seval]
    refine Safe.rg rfl ?_
    simp only [a4n, E3, seval]
    first | refine (a7r b e hm hr).acall ?_ | refine (a7r b e hm hr).dcall ?_
    try simp only [E3, seval]
    refine Safe.rg rfl ?_
    simp only [a4m, E3, seval]
    refine Safe.cd rfl ?_
    simp only [E3, seval]
    by_cases h : b.length > 64
    · have hc : ((b.length : Int) > 64) = True := eq_true (by omega)
      refine Safe.rg rfl ?_
      simp only [a4l, hc, E3, seval]
      refine Safe.cd rfl ?_
      simp only [E3, seval]
      refine Safe.rg rfl ?_
      simp only [a6T, E3, seval]
      refine Safe.rt rfl ?_
      simp only [E3, seval]
      first | exact ⟨rfl, _, rfl⟩ | exact ⟨_, rfl⟩ | exact ⟨trivial, _, rfl⟩
    · have hc : ((b.length : Int) > 64) = False := eq_false (by omega)
      have hc2 : ((wid b : Int) > 64) = True := eq_true (by omega)
      refine Safe.rg rfl ?_
      simp only [a4l, hc, hc2, E3, seval]
      refine Safe.cd rfl ?_
      simp only [E3, seval]
      refine Safe.rg rfl ?_
      simp only [a6T, E3, seval]
      refine Safe.rt rfl ?_
      simp only [E3, seval]
      first | exact ⟨rfl, _, rfl⟩ | exact ⟨_, rfl⟩ | exact ⟨trivial, _, rfl⟩
  · rw [he]
    have hc : ((b.length : Int) > 64) = False := eq_false (by omega)
    have hc2 : ((wid b : Int) > 64) = False := eq_false (by omega)
    refine a0d.intro a6V a6U (Nat.le_of_ble_eq_true rfl) (.int _ _) fun H hH => ?_
    refine Safe.rg rfl ?_
    simp only [a4o, E3, seval]
    refine Safe.rg rfl ?_
    simp only [a4n, E3, seval]
    first | refine (a7r b e hm hr).acall ?_ | refine (a7r b e hm hr).dcall ?_
    try simp only [E3, seval]
    refine Safe.rg rfl ?_
    simp only [a4m, E3, seval]
    refine Safe.cd rfl ?_
    simp only [E3, seval]
    refine Safe.rg rfl ?_
    simp only [a4l, hc, hc2, E3, seval]
    refine Safe.cd rfl ?_
    simp only [E3, seval]
    refine Safe.rg rfl ?_
    simp only [b2L, E3, seval]
    refine Safe.rt rfl ?_
    simp only [E3, seval]
    first | exact ⟨rfl, _, rfl⟩ | exact ⟨_, rfl⟩ | exact ⟨trivial, _, rfl⟩
theorem d4g (hr : Rect b) : a0d Pr b1E [matV b] (.int .i64 (wid b)) := by
  refine a0d.intro c9H c9G (Nat.le_of_ble_eq_true rfl) (.int _ _) fun H hH => ?_
  refine Safe.rg rfl ?_
  simp only [b5B, E3, seval]
  refine Safe.rg rfl ?_
  simp only [b5A, E3, seval]
  first | refine (a7r b e hm hr).acall ?_ | refine (a7r b e hm hr).dcall ?_
  try simp only [E3, seval]
  refine Safe.rg rfl ?_
  simp only [b5z, E3, seval]
  refine Safe.rt rfl ?_
  simp only [E3, seval]
  first | exact ⟨rfl, _, rfl⟩ | exact ⟨_, rfl⟩ | exact ⟨trivial, _, rfl⟩
end
theorem c4z {b : List (List ZI)} (h : elE b = 0) : b.length ≤ 64 ∧ wid b ≤ 64 ∧ Rect b ∧ ∀ i, (h : i < b.length) → b[i].length = wid b := by
  rcases c6p b with ⟨_, h⟩ | ⟨_, _, h⟩ | ⟨hr, h2, h3, _⟩
  · omega
  · omega
  · refine ⟨h2, h3, hr, fun i hi => ?_⟩
    have := hr i hi
    rw [a3v hi] at this
    exact this
end Go.Abs
namespace Go.Abs
theorem d0n {B : Nat → Nat → Rat} {K n c : Nat} (hrok : ∀ t i k, t ≤ c → Rok K ((a0m n B t).M i k)) (hrdv : ∀ t, t ≤ c → Rok K (dv n B t)) (hn : n ≤ 64 ∨ c ≤ 64) (hn2 : n ≤ 2097152) (hc : c ≤ 2097152) (hK : K < 2199023255552) (A : Heap) :
    a0k Pr a1a [.mu (lid A 0) 0 n none, .int .i64 c] (hap A (a0R (lid A 0) n 4 c none fun j k => Rv (B j k))) fun r' H' => ∃ π S', Lk n c π S' (fun a b => Rv ((a0m n B c).M a b)) ∧
      H' = hM (hap A (a0R (lid A 0) n 4 c none fun j k => Rv (B j k))) (lid A 0) n 4 c none π S' ∧ r' = .tup [.mu (lid A 0) 0 (gproc n B c).cs.length none, hsV (gproc n B c).cs, Rv (dv n B c)] := by
  have h := c6V (G := hap A ([] ++ a0R (lid A 0) n 4 c none fun j k => Rv (B j k))) (β := lid A 0) (d0v A [] n 4 c none _) B hrok hrdv hn hn2 hc hK (S := fun j k => Rv (B j k)) ⟨fun a h => h, fun _ _ _ _ h => h, fun a k _ _ => rfl, fun _ _ => a5n _⟩
  have e1 := d6a A [] n 4 c none fun j k => Rv (B j k)
  simp only [List.length_nil, List.nil_append] at e1 h
  rw [e1] at h
  exact h
end Go.Abs
namespace Go.Abs
theorem Vok.take {k : Nat} {v : List ZI} (h : Vok k v) (n : Nat) : Vok k (v.take n) := ⟨by rw [List.length_take]; have := h.len; omega, fun x hx => h.el x (List.mem_of_mem_take hx)⟩
/-- The first square of a size. -/
def sub (b : List (List ZI)) (k : Nat) : List (List ZI) := mat k fun i => (mg b i).take k
end Go.Abs
namespace Go.Abs
/-- Rows of whole numbers with such values. -/
structure Rz (n c K : Nat) (rows : List (List ZI)) (f : Nat → Nat → Int) : Prop where
  len : rows.length = n
  wid : ∀ i, i < n → (mg rows i).length = c
  at_ : ∀ i k, i < n → k < c → zg (mg rows i) k = f i k
  ok : ∀ i, i < n → Vok K (mg rows i)
def e5k (H : Heap) (n c e : Nat) (B : Nat → Nat → Rat) (r' : AV) (H' : Heap) : Prop := ∃ β rows lx, Rz n c (KB e + 1) rows (ZgI n B c) ∧ H.length ≤ β ∧ H'[β]? = some (some ⟨1, rows.map vecV⟩) ∧ (∃ L', H' = hap H L') ∧ a0F H' ∧
      ZI.z lx = b4G n B c ∧ Zok (KB e + 1) lx ∧ r' = .tup [.mu β 0 n (some n), hsV (gproc n B c).cs, lx.av, .bool (gproc n B c).odd]
/-- With the first m rows told. -/
def e5l (m : Nat) (H : Heap) (n c e : Nat) (B : Nat → Nat → Rat) (r' : AV) (H' : Heap) : Prop := ∃ β π S L lx, Lz n c (KB e + 1) π S (ZgI n B c) ∧ H.length ≤ β ∧ β + n < (hap H L).length ∧
      H' = hm (hap H L) β n (fr n fun i => if π i < m then .sl 2 (fr c (S (π i))) else .mu (β + 1 + π i) 0 c (some c)) (fun j => if j < m then none else some ⟨2, fr c (S j)⟩) ∧ a0F H' ∧
      ZI.z lx = b4G n B c ∧ Zok (KB e + 1) lx ∧ r' = .tup [.mu β 0 n (some n), hsV (gproc n B c).cs, lx.av, .bool (gproc n B c).odd]
theorem c2Z {P : Program} {f : FuncId} {args : List AV} {H : Heap} {n c e : Nat} {B : Nat → Nat → Rat} (h : a0k P f args H (c3H H n c e B)) : ∀ m, m ≤ n → a0k P f args H (e5l m H n c e B)
  | 0, _ => h.mono fun r' H' ⟨β, π, S, L, lx, h1, h2, h3, h4, h5, h6, h7, h8⟩ => ⟨β, π, S, L, lx, h1, h2, h3, by
      rw [h4]
      refine a9h (a2L fun i hi => ?_) fun j hj => ?_
      · rw [if_neg (by omega)]
      · rw [if_neg (by omega)], h5, h6, h7, h8⟩
  | m + 1, hmn => by
    refine (c2Z h m (by omega)).frz ?_
    rintro hH r' H' ⟨β, π, S, L, lx, h1, h2, h3, rfl, h5, h6, h7, rfl⟩
    have hc : ∀ a ∈ (Blk.mk 2 (fr c (S m))).flat, Cl a := a4d fun k _ => h1.cl m k
    have hget : (hm (hap H L) β n (fr n fun i => if π i < m then .sl 2 (fr c (S (π i))) else .mu (β + 1 + π i) 0 c (some c)) (fun j => if j < m then none else some ⟨2, fr c (S j)⟩))[β + 1 + m]? = some (some ⟨2, fr c (S m)⟩) := by
      rw [a1R _ _ _ _ _ _ (by omega), if_neg (by omega), if_pos (by omega), show β + 1 + m - (β + 1) = m by omega, if_neg (Nat.lt_irrefl m)]
    refine ⟨β + 1 + m, ⟨2, fr c (S m)⟩, hget, ⟨Nat.zero_lt_succ _, hc⟩, ?_⟩
    have hfH : frzH (β + 1 + m) ⟨2, fr c (S m)⟩ (hap H L) = hap H ((frzL (β + 1 + m) ⟨2, fr c (S m)⟩ L).set (β + 1 + m - H.length) none) := by
      have := b1S hH (β + 1 + m - H.length) ⟨2, fr c (S m)⟩ L
      rwa [show lid H (β + 1 + m - H.length) = β + 1 + m by unfold lid; omega] at this
    refine ⟨β, π, S, (frzL (β + 1 + m) ⟨2, fr c (S m)⟩ L).set (β + 1 + m - H.length) none, lx, h1, h2, ?_, ?_, d3N h5 _ _, h6, h7, ?_⟩
    · rw [← hfH]; simp only [frzH, List.length_set, List.length_map]; exact h3
    · rw [e1R h3 (by omega), hfH]
      refine a9h ?_ fun j hj => ?_
      · unfold fr
        rw [List.map_map]
        refine List.map_congr_left fun i hi => ?_
        simp only [Function.comp]
        by_cases h : π i < m
        · rw [if_pos h, if_pos (by omega)]; simp only [frz]
        · rw [if_neg h]
          by_cases h2 : π i = m
          · rw [if_pos (by omega), h2]
            simp only [frz, if_true]
            rw [if_pos (show 0 + c ≤ (List.map (S m) (List.range c)).length by simp)]
            simp only [List.drop_zero]
            rw [List.take_of_length_le (by simp)]
          · rw [if_neg (by omega)]
            simp only [frz]
            rw [if_neg (by omega)]
      · by_cases hjm : j = m
        · rw [if_pos hjm, if_pos (by omega)]
        · rw [if_neg hjm]
          by_cases hlt : j < m
          · rw [if_pos hlt, if_pos (by omega)]; rfl
          · rw [if_neg hlt, if_neg (by omega)]
            simp only [Option.map_some, frzB]
            congr 2
            refine (List.map_congr_left (g := fun x => x) fun a ha => ?_).trans (List.map_id' _)
            obtain ⟨k, hk, rfl⟩ := d7w ha
            exact a3I (h1.cl j k)
    · simp only [frz, List.map_cons, List.map_nil]
      rw [if_neg (by omega)]
      have e1 := a3I (id := β + 1 + m) (b := ⟨2, fr c (S m)⟩) (b1c (gproc n B c).cs)
      have e2 := a3I (id := β + 1 + m) (b := ⟨2, fr c (S m)⟩) (ZI.cl lx)
      rw [e1, e2]
theorem d4o {P : Program} {f : FuncId} {args : List AV} {H : Heap} {n c e : Nat} {B : Nat → Nat → Rat} (hc : c ≤ 2097152) (h : a0k P f args H (c3H H n c e B)) : a0k P f args H (e5k H n c e B) := by
  refine (c2Z h n (Nat.le_refl n)).mono ?_
  rintro r' H' ⟨β, π, S, L, lx, h1, h2, h3, rfl, h5, h6, h7, rfl⟩
  have hch : ∀ i k, ∃ x : ZI, i < n → k < c → S (π i) k = x.av ∧ x.z = ZgI n B c i k ∧ Zok (KB e + 1) x := fun i k => by
    by_cases hik : i < n ∧ k < c
    · obtain ⟨x, hx⟩ := h1.at_ i k hik.1 hik.2; exact ⟨x, fun _ _ => hx⟩
    · exact ⟨⟨false, []⟩, fun a b => absurd ⟨a, b⟩ hik⟩
  let X : Nat → Nat → ZI := fun i k => Classical.choose (hch i k)
  have hX : ∀ i k, i < n → k < c → S (π i) k = (X i k).av ∧ (X i k).z = ZgI n B c i k ∧ Zok (KB e + 1) (X i k) := fun i k => Classical.choose_spec (hch i k)
  have hrow : ∀ i, i < n → mg (mat n fun i => (List.range c).map (X i)) i = (List.range c).map (X i) := fun i hi => e1e hi
  refine ⟨β, mat n fun i => (List.range c).map (X i), lx, ⟨a0n _ _, fun i hi => ?_, fun i k hi hk => ?_, fun i hi => ?_⟩, h2, ?_, ?_, h5, h6, h7, rfl⟩
  · rw [hrow i hi]; simp
  · rw [hrow i hi, b0k (by simpa using hk)]
    simp; exact (hX i k hi hk).2.1
  · rw [hrow i hi]
    refine ⟨by simp; exact hc, fun x hx => ?_⟩
    obtain ⟨k, hk, rfl⟩ := List.mem_map.1 hx
    exact (hX i k hi (List.mem_range.1 hk)).2.2
  · rw [a1R _ _ _ _ _ _ (by omega), if_pos rfl]
    congr 2
    unfold fr mat
    rw [List.map_map]
    congr 1
    refine List.map_congr_left fun i hi => ?_
    have hin := List.mem_range.1 hi
    simp only [Function.comp, vecV]
    rw [if_pos (h1.lt i hin), List.map_map]
    congr 1
    refine List.map_congr_left fun k hk => ?_
    exact (hX i k hin (List.mem_range.1 hk)).1
  · refine ⟨(hm (hap H L) β n (fr n fun i => if π i < n then .sl 2 (fr c (S (π i))) else .mu (β + 1 + π i) 0 c (some c)) (fun j => if j < n then none else some ⟨2, fr c (S j)⟩)).drop H.length, ?_⟩
    have ht : (hm (hap H L) β n (fr n fun i => if π i < n then .sl 2 (fr c (S (π i))) else .mu (β + 1 + π i) 0 c (some c)) (fun j => if j < n then none else some ⟨2, fr c (S j)⟩)).take H.length = H := by
      apply List.ext_getElem?
      intro j
      rw [List.getElem?_take]
      have hl : (hap H L).length = H.length + L.length := by simp [hap]
      split
      · rename_i hj
        rw [a1R _ _ _ _ _ _ (by omega), if_neg (by omega), if_neg (by omega)]
        simp only [hap]
        rw [List.getElem?_append_left hj]
      · rename_i hj
        rw [List.getElem?_eq_none (by omega)]
    exact (List.take_append_drop H.length _).symm.trans (by rw [ht]; rfl)
end Go.Abs
namespace Go.Abs
theorem e8x (v : List ZI) : sgF (zg v) v.length = upS v := by
  rcases a7G v with ⟨i, hi, h0, h, _, hu⟩ | ⟨h, _, hu⟩
  · rw [hu, c4k hi h0 h]
  · rw [hu]
    have : ∀ m, m ≤ v.length → sgF (zg v) m = 1 := by
      intro m
      induction m with
      | zero => intro _; rfl
      | succ m ih => intro hm; unfold sgF; rw [if_neg (by intro q; have := q.2; rw [h m (by omega)] at this; omega)]; exact ih (by omega)
    exact this _ (Nat.le_refl _)
theorem c5M (v : List ZI) {K : Nat} (hv : Vok K v) (hnz : Nz (zg v) v.length) (hK : K < 17592186043000) : a0d Pr a2O [vecV v] (vecV (vec v.length (a1d (zg v) v.length))) := by
  have hvl := hv.len
  have hgl : ∀ i, i ≤ v.length → a1v (zg v) i < LB ^ K := fun i hi => d0J (a7H K) fun j _ => hv.abs j
  have hg0 := d7p hnz
  have hsg := e3n hnz
  refine a0d.intro c6Z c6X (Nat.le_of_ble_eq_true rfl) (a0g _) fun H hH => ?_
  refine Safe.rg rfl ?_
  simp only [b3R, E3, seval]
  refine Safe.rg rfl ?_
  simp only [b3Q, E3, seval]
  refine Safe.told0 0 rfl ?_
  simp only [E3, seval]
  refine Safe.rg rfl ?_
  simp only [b3P, E3, seval]
  refine Safe.lp rfl ?_
  refine Safe.keep [0, 3, 13, 14, 15] ?_
  try simp only [E3, seval]
  refine Safe.loopN (v.length) (fun i => [(0, vecV v), (3, .loc (lid H 0) 0 0), (13, vecV v), (14, .int .i64 v.length), (15, .int .i64 i)]) (fun i => hap H [some ⟨2, [Z (a1v (zg v) i : Nat)]⟩]) rfl rfl (fun i hi ih => ?_) ?_
  · have hlt : ((i : Int) < (v.length : Int)) = True := eq_true (by omega)
    have hiw : IntKind.wrap .i64 ((i : Int) + 1) = ((i + 1 : Nat) : Int) := by rw [a0a] <;> omega
    refine Safe.inLoop ?_
    refine Safe.rg rfl ?_
    simp only [a7j, hlt, E3, seval]
    refine Safe.cd rfl ?_
    simp only [E3, seval]
    refine Safe.rg rfl ?_
    simp only [b3O, a1h _ v _ i hi, E3, seval]
    refine Safe.rg rfl ?_
    simp only [b3N, E3, seval]
    have hg := d9M (canZ (a1v (zg v) i : Nat)) v[i] K (a0l (by exact hgl i (by omega))) (hv.get hi) (by omega)
    rw [a0o, ← b0k hi] at hg
    refine hg.acall ?_
    simp only [E3, seval]
    refine Safe.rg rfl ?_
    simp only [b3M, hiw, E3, seval]
    refine Safe.keep [0, 3, 13, 14, 15] ?_
    simp only [E3, seval]
    refine Safe.drop1 hH rfl (by simp only [List.all_cons, List.all_nil, E3, seval]) (by repeat (first | exact RC.nil | refine RC.none ?_ | refine RC.mo ?_ | refine RC.io ?_ | refine RC.row ZI.cl ?_ | refine RC.cons (a0r _) ?_ | refine RC.row a0g ?_ | refine RC.emp ?_ | refine RC.zero ?_ | refine RC.one (Z_cl _) ?_ | refine RC.one (ZI.cl _) ?_ | refine RC.one (a0g _) ?_)) ?_
    exact ih
  · refine Safe.inLoop ?_
    refine Safe.rg rfl ?_
    simp only [a7j, Int.lt_irrefl, E3, seval]
    refine Safe.cd rfl ?_
    simp only [E3, seval]
    refine Safe.rg rfl ?_
    simp only [b3L, E3, seval]
    first | refine (c8O v (hv.mono (by omega))).acall ?_ | refine (c8O v (hv.mono (by omega))).dcall ?_
    try simp only [E3, seval]
    obtain ⟨i, hi, h0, h, hl, hu⟩ : ∃ i, i < v.length ∧ zg v i ≠ 0 ∧ (∀ j, j < i → zg v j = 0) ∧ d5L v = i ∧ upS v = if zg v i < 0 then -1 else 1 := by
      rcases a7G v with h | ⟨h, _, _⟩
      · exact h
      · obtain ⟨j, hj, hw⟩ := hnz
        exact absurd (h j hj) hw
    have hs := c4k hi h0 h
    have hge : ((i : Int) ≥ 0) = True := eq_true (by omega)
    refine Safe.rg rfl ?_
    simp only [b3K, hl, hge, a1h _ v _ i hi, E3, seval]
    refine (a1J v[i] ((hv.get hi).mono (by omega))).acall ?_
    rw [← b0k hi]
    have main : ∀ Q : Int, Q = sgF (zg v) v.length * (a1v (zg v) v.length : Int) → Safe ⟨Pr, fun _ _ => false, a2O, 56, [.tmp 2], H.length⟩
        [.code ((ACode.region a5L false).seq (((ACode.region a5K false).seq (.block 2 (.loop b3S))).seq ((ACode.region a5I false).seq .ret)))]
        [(0, vecV v), (3, .loc (lid H 0) 0 0)] (hap H [some ⟨2, [Z Q]⟩]) fun r' H' => r' = vecV (vec v.length (a1d (zg v) v.length)) ∧ ∃ L, H' = hap H L := by
      intro Q hQ
      have hQ0 : Q ≠ 0 := by rw [hQ]; exact hsg
      have hQk : Q.natAbs < LB ^ K := by
        have : Q.natAbs = a1v (zg v) v.length := by
          rw [hQ, Int.natAbs_mul]
          rcases c7q (zg v) v.length with h | h <;> rw [h] <;> simp
        rw [this]; exact hgl _ (Nat.le_refl _)
      refine Safe.rg rfl ?_
      simp only [a5L, E3, seval]
      refine Safe.nilrow 7 2 (by decide) (by simp only [E3, seval]) ?_
      refine Safe.rg rfl ?_
      simp only [a5K, E3, seval]
      refine Safe.lp rfl ?_
      refine Safe.keep [3, 7, 37, 38, 39] ?_
      try simp only [E3, seval]
      refine Safe.loopN (v.length) (fun i => [(3, .loc (lid H 0) 0 0), (7, .mu (lid H 1) 0 i none), (37, vecV v), (38, .int .i64 v.length), (39, .int .i64 i)]) (fun i => hap H [some ⟨2, [Z Q]⟩, some ⟨2, (vec i (a1d (zg v) v.length)).map ZI.av⟩]) rfl rfl (fun i hi ih => ?_) ?_
      · have hlt : ((i : Int) < (v.length : Int)) = True := eq_true (by omega)
        have hiw : IntKind.wrap .i64 ((i : Int) + 1) = ((i + 1 : Nat) : Int) := by rw [a0a] <;> omega
        refine Safe.inLoop ?_
        refine Safe.rg rfl ?_
        simp only [a5J, hlt, E3, seval]
        refine Safe.cd rfl ?_
        simp only [E3, seval]
        refine Safe.rg rfl ?_
        simp only [b1m, a1h _ v _ i (by omega), E3, seval]
        refine Safe.rg rfl ?_
        simp only [b1l, E3, seval]
        have hfl := b0m v[i] (canZ Q) K (hv.get (by omega)) (a0l hQk) (by omega) (a1d (zg v) v.length i) (by rw [a0o]; exact hQ0) (by rw [a0o, hQ, ← b0k (by omega)]; exact a4s (by omega))
        refine hfl.acall ?_
        simp only [E3, seval]
        refine Safe.rg rfl ?_
        simp only [b1k, E3, seval]
        rw [b1A hH 1 (a1q H 1) ZI.cl (vec i (a1d (zg v) v.length)) (canZ (a1d (zg v) v.length i)) (vec (i + 1) (a1d (zg v) v.length)) ?hlen ?hl ?hL ?hy ?hl2 ?hb ?hbb]
        case hlen => first | rfl | (simp only [a0f, a0n, List.length_map, List.length_take]; done) | (simp only [a0f, a0n, List.length_map, List.length_take]; omega)
        case hl => rfl
        case hL => repeat (first | exact RC.nil | refine RC.none ?_ | refine RC.mo ?_ | refine RC.io ?_ | refine RC.row ZI.cl ?_ | refine RC.cons (a0r _) ?_ | refine RC.row a0g ?_ | refine RC.emp ?_ | refine RC.zero ?_ | refine RC.one (Z_cl _) ?_ | refine RC.one (ZI.cl _) ?_ | refine RC.one (a0g _) ?_)
        case hy => rfl
        case hl2 => first | exact c3p _ _ | exact b7s _ _ | exact c4e _ (by omega) | exact a7Y _ _ (by omega)
        case hb => omega
        case hbb => omega
        simp only [E3, seval]
        refine Safe.rg rfl ?_
        simp only [b1j, hiw, E3, seval]
        refine Safe.keep [3, 7, 37, 38, 39] ?_
        simp only [E3, seval]
        refine Safe.drop4 hH rfl (by simp only [List.all_cons, List.all_nil, E3, seval]) (by repeat (first | exact RC.nil | refine RC.none ?_ | refine RC.mo ?_ | refine RC.io ?_ | refine RC.row ZI.cl ?_ | refine RC.cons (a0r _) ?_ | refine RC.row a0g ?_ | refine RC.emp ?_ | refine RC.zero ?_ | refine RC.one (Z_cl _) ?_ | refine RC.one (ZI.cl _) ?_ | refine RC.one (a0g _) ?_)) ?_
        refine Safe.drop3 hH rfl (by simp only [List.all_cons, List.all_nil, E3, seval]) (by repeat (first | exact RC.nil | refine RC.none ?_ | refine RC.mo ?_ | refine RC.io ?_ | refine RC.row ZI.cl ?_ | refine RC.cons (a0r _) ?_ | refine RC.row a0g ?_ | refine RC.emp ?_ | refine RC.zero ?_ | refine RC.one (Z_cl _) ?_ | refine RC.one (ZI.cl _) ?_ | refine RC.one (a0g _) ?_)) ?_
        refine Safe.drop2 hH rfl (by simp only [List.all_cons, List.all_nil, E3, seval]) (by repeat (first | exact RC.nil | refine RC.none ?_ | refine RC.mo ?_ | refine RC.io ?_ | refine RC.row ZI.cl ?_ | refine RC.cons (a0r _) ?_ | refine RC.row a0g ?_ | refine RC.emp ?_ | refine RC.zero ?_ | refine RC.one (Z_cl _) ?_ | refine RC.one (ZI.cl _) ?_ | refine RC.one (a0g _) ?_)) ?_
        exact ih
      · refine Safe.inLoop ?_
        refine Safe.rg rfl ?_
        simp only [a5J, Int.lt_irrefl, E3, seval]
        refine Safe.cd rfl ?_
        simp only [E3, seval]
        refine Safe.freeze 1 hH rfl rfl (a1H 2 ZI.av _ ZI.cl) ?_
        refine Safe.keep [7] ?_
        simp only [b9A H 1 (vec v.length (a1d (zg v) v.length)) (v.length) (none) (by simp only [a0f, a0n]), a2x, a1O, a8Z, a5F, E3, seval]
        refine Safe.rg rfl ?_
        simp only [a5I, E3, seval]
        refine Safe.rt rfl ?_
        simp only [E3, seval]
        first | exact ⟨rfl, _, rfl⟩ | exact ⟨_, rfl⟩ | exact ⟨trivial, _, rfl⟩
    by_cases hn : zg v i < 0
    · have hc : ((zg v i).sign < 0) = True := eq_true (Int.sign_neg_iff.2 hn)
      rw [if_pos hn] at hs
      simp only [hc, E3, seval]
      refine Safe.cd rfl ?_
      simp only [E3, seval]
      refine Safe.rg rfl ?_
      simp only [b3J, E3, seval]
      have hng := c3K (canZ (a1v (zg v) v.length : Nat)) ((a0l (by exact hgl _ (Nat.le_refl _))).mono (by omega))
      rw [a0o] at hng
      refine hng.acall ?_
      simp only [E3, seval]
      refine Safe.keep [0, 3] ?_
      simp only [E3, seval]
      exact main _ (by rw [hs, Int.neg_mul, Int.one_mul])
    · have hc : ((zg v i).sign < 0) = False := eq_false fun h => hn (Int.sign_neg_iff.1 h)
      rw [if_neg hn] at hs
      simp only [hc, E3, seval]
      refine Safe.cd rfl ?_
      simp only [E3, seval]
      refine Safe.keep [0, 3] ?_
      simp only [E3, seval]
      refine Safe.skip ?_
      exact main _ (by rw [hs, Int.one_mul])
end Go.Abs
namespace Go.Abs
def rvV (x : Nat → Rat) (c : Nat) : AV := .sl 4 (fr c fun k => Rv (x k))
def a1M (x : Nat → Rat) : Nat → Nat
  | 0 => 1
  | n + 1 => a1M x n * ((x n).den / Nat.gcd (a1M x n) (x n).den)
def outI (x : Nat → Rat) (c i : Nat) : Int := (x i).num * ((a1M x c / (x i).den : Nat) : Int)
theorem b9r (x : Nat → Rat) (n : Nat) : a1M x (n + 1) = Nat.lcm (a1M x n) (x n).den := by
  rw [a1M, Nat.lcm, Nat.mul_div_assoc _ (Nat.gcd_dvd_right _ _)]
theorem b7v (x : Nat → Rat) : ∀ n, 0 < a1M x n
  | 0 => Nat.one_pos
  | n + 1 => by rw [b9r]; exact Nat.lcm_pos (b7v x n) (x n).den_pos
theorem c5Q {x : Nat → Rat} {M : Nat} : ∀ {n : Nat}, (∀ i, i < n → (x i).den ∣ M) → a1M x n ∣ M
  | 0, _ => Nat.one_dvd _
  | n + 1, h => by rw [b9r]; exact Nat.lcm_dvd (c5Q fun i hi => h i (by omega)) (h n (by omega))
theorem c6u (x : Nat → Rat) : ∀ {n i : Nat}, i < n → (x i).den ∣ a1M x n
  | 0, _, h => absurd h (by omega)
  | n + 1, i, h => by
    rw [b9r]
    by_cases e : i = n
    · subst e; exact Nat.dvd_lcm_right _ _
    · exact Nat.dvd_trans (c6u x (by omega)) (Nat.dvd_lcm_left _ _)
/-- All of them times one number are whole, of such a size. -/
structure Sz (x : Nat → Rat) (c K : Nat) : Prop where
  ex : ∃ D : Int, D ≠ 0 ∧ D.natAbs < LB ^ K ∧ ∀ i, i < c → ∃ z : Int, (D : Rat) * x i = z ∧ z.natAbs < LB ^ K
theorem e2i {D z : Int} {q : Rat} (hD : D ≠ 0) (h : (D : Rat) * q = z) : q.den ∣ D.natAbs := by
  have hl : (D : Rat) ≠ 0 := fun e => hD (Rat.intCast_inj.1 (by rw [e]; rfl))
  have e : q = Rat.divInt z D := by
    rw [Rat.divInt_eq_div, ← h]
    generalize (D : Rat) = x at *
    grind
  rw [e, Rat.den_divInt, if_neg hD]
  exact Nat.div_dvd_of_dvd (by rw [Int.gcd]; exact Nat.gcd_dvd_left _ _)
theorem d0s (x : Nat → Rat) {c i : Nat} (hi : i < c) : ((a1M x c : Nat) : Rat) * x i = ((outI x c i : Int) : Rat) := by
  obtain ⟨m, hm⟩ := c6u x hi
  unfold outI
  have hd := (x i).den_pos
  rw [hm, Nat.mul_div_cancel_left _ hd]
  have h1 : x i = ((x i).num : Rat) / ((x i).den : Rat) := by rw [← Rat.mkRat_eq_div, Rat.mkRat_self]
  have h2 : ((x i).den : Rat) ≠ 0 := by
    intro h
    have : ((x i).den : Nat) = 0 := by exact_mod_cast h
    omega
  rw [Rat.intCast_mul, Rat.natCast_mul]
  have h3 : (((m : Nat) : Int) : Rat) = ((m : Nat) : Rat) := rfl
  rw [h3]
  have h4 := Rat.div_mul_cancel (a := ((x i).num : Rat)) h2
  rw [← h1] at h4
  clear h1 hm
  generalize ((x i).den : Rat) = d at *
  generalize ((x i).num : Rat) = a at *
  generalize ((m : Nat) : Rat) = k
  generalize x i = y at *
  grind
section
variable {x : Nat → Rat} {c K : Nat} (h : Sz x c K)
include h
theorem e8Z {n : Nat} (hn : n ≤ c) : a1M x n < LB ^ K := by
  obtain ⟨D, hD, hD1, hz⟩ := h.ex
  have hd : a1M x n ∣ D.natAbs := c5Q fun i hi => by obtain ⟨z, hz, _⟩ := hz i (by omega); exact e2i hD hz
  exact Nat.lt_of_le_of_lt (Nat.le_of_dvd (by omega) hd) hD1
theorem e9r {i : Nat} (hi : i < c) : (x i).den < LB ^ K := by
  obtain ⟨D, hD, hD1, hz⟩ := h.ex
  obtain ⟨z, hz, _⟩ := hz i hi
  exact Nat.lt_of_le_of_lt (Nat.le_of_dvd (by omega) (e2i hD hz)) hD1
theorem d6U {i : Nat} (hi : i < c) : (outI x c i).natAbs < LB ^ K := by
  obtain ⟨D, hD, hD1, hz⟩ := h.ex
  have hd : a1M x c ∣ D.natAbs := c5Q fun i hi => by obtain ⟨z, hz, _⟩ := hz i hi; exact e2i hD hz
  obtain ⟨z, hz, hz1⟩ := hz i hi
  obtain ⟨m, hm⟩ := Int.ofNat_dvd_left.2 hd
  have hm0 : m ≠ 0 := fun e => hD (by rw [hm, e, Int.mul_zero])
  have ho := d0s x hi
  have : z = m * outI x c i := by
    refine Rat.intCast_inj.1 ?_
    rw [← hz, Rat.intCast_mul, ← ho, hm, Rat.intCast_mul]
    have h3 : (((a1M x c : Nat) : Int) : Rat) = ((a1M x c : Nat) : Rat) := rfl
    rw [h3]
    generalize ((a1M x c : Nat) : Rat) = l
    generalize (m : Rat) = k
    generalize x i = y
    grind
  rw [this, Int.natAbs_mul] at hz1
  exact Nat.lt_of_le_of_lt (Nat.le_mul_of_pos_left _ (by omega)) hz1
theorem e8T {i : Nat} (hi : i < c) : (x i).num.natAbs < LB ^ K := by
  obtain ⟨D, hD, hD1, hz⟩ := h.ex
  obtain ⟨z, hz, hz1⟩ := hz i hi
  have hl : (D : Rat) ≠ 0 := fun e => hD (Rat.intCast_inj.1 (by rw [e]; rfl))
  exact Nat.lt_of_le_of_lt (b7b hl hz).1 hz1
end
section
variable (H : Heap) (x : Nat → Rat) {c i : Nat}
theorem d6O : lenV H (rvV x c) = some (.int .i64 c) := by
  have := d6I H 4 (fun k => Rv (x k)) (List.range c)
  rw [List.length_range] at this; exact this
theorem d1H (k : IntKind) (h : i < c) : idxV H 4 (rvV x c) (.int k i) = some (.ro (Rv (x i)) 0) := by
  have := d6J H 4 (fun k => Rv (x k)) (List.range c) k i (by simpa using h)
  simp only [List.getElem_range] at this; exact this
theorem e8z : Cl (rvV x c) := e4R 4 (fun k => Rv (x k)) (List.range c) fun _ => a5n _
theorem b1I (id : Nat) : nref id (rvV x c) = true := a1z (e8z x)
theorem e9G : atV H (.ro (Rv (x i)) 0) = some [.bool (decide ((x i).num < 0)), natV (limbs (x i).num.natAbs), .bool false, natV (limbs (x i).den)] := rfl
theorem e2T : atV H (.ro (Rv (x i)) 2) = some [.bool false, natV (limbs (x i).den)] := rfl
end
theorem e9N {H L : Heap} {a b : Option Blk} {n j : Nat} {f : Nat → Int} {env : Env} (z : Int) (h : j < n) : a1L 2 (.loc (lid H 2) j 0) (Z z) env (hap H (a :: b :: some ⟨2, (vec n f).map ZI.av⟩ :: L)) = some (.top, env, hap H (a :: b :: some ⟨2, (vec n (updF f j z)).map ZI.av⟩ :: L)) := by
  rw [a5q env H _ 2 2 j 0 (Z z) rfl (by rw [List.length_map, a0f]; exact h) rfl rfl (Nat.le_refl 2)]
  rw [← d9R]; rfl
theorem d8b (x : Nat → Rat) {c K : Nat} (hS : Sz x c K) (hc : c ≤ 2097152) (hK : K + K + K < 17592186043000) : a0d Pr a5o [rvV x c] (vecV (vec c (a1d (outI x c) c))) := by
  have hlc := fun n (h : n ≤ c) => e8Z hS h
  have hdl := fun i (h : i < c) => e9r hS h
  have hol := fun i (h : i < c) => d6U hS h
  have hnl := fun i (h : i < c) => e8T hS h
  have hgl : ∀ i, i ≤ c → a1v (outI x c) i < LB ^ K := fun i hi => d0J (a7H K) fun j hj => hol j (by omega)
  have hl0 := b7v x
  refine a0d.intro c6M c6I (Nat.le_of_ble_eq_true rfl) (a0g _) fun H hH => ?_
  refine Safe.rg rfl ?_
  simp only [b2q, E3, seval]
  refine Safe.rg rfl ?_
  simp only [b2p, E3, seval]
  first | refine (a0Q 1 (by decide) (by decide)).acall ?_ | refine (a0Q 1 (by decide) (by decide)).dcall ?_
  try simp only [E3, seval]
  refine Safe.rg rfl ?_
  simp only [b2o, E3, seval]
  refine Safe.lp rfl ?_
  refine Safe.keep [0, 3, 4] ?_
  try simp only [E3, seval]
  refine Safe.loopN (c) (fun i => [(0, rvV x c), (3, .loc (lid H 0) 0 0), (4, .int .i64 i)]) (fun i => hap H [some ⟨2, [Z (a1M x i : Nat)]⟩]) rfl rfl (fun i hi ih => ?_) ?_
  · have hlt : ((i : Int) < (c : Int)) = True := eq_true (by omega)
    have hiw : IntKind.wrap .i64 ((i : Int) + 1) = ((i + 1 : Nat) : Int) := by rw [a0a] <;> omega
    have hli := hlc i (by omega)
    have hdi := hdl i hi
    have hl1 := hlc (i + 1) (by omega)
    have hsucc : a1M x (i + 1) = a1M x i * ((x i).den / Nat.gcd (a1M x i) (x i).den) := rfl
    have hg0 : Nat.gcd (a1M x i) (x i).den ≠ 0 := fun h => by have := Nat.gcd_eq_zero_iff.1 h; have := hl0 i; omega
    have hgk : Nat.gcd (a1M x i) (x i).den < LB ^ K := d7o hli hdi
    refine Safe.inLoop ?_
    refine Safe.rg rfl ?_
    simp only [a6N, d6O, hlt, E3, seval]
    refine Safe.cd rfl ?_
    simp only [E3, seval]
    refine Safe.rg rfl ?_
    simp only [b2n, d1H _ x .i64 hi, e2T, E3, seval]
    have hg := c7z (canZ (a1M x i : Nat)) (dZ (x i).den) K (a0l (by exact hli)) (b9C hdi) (by omega)
    rw [a0o, dZ_z] at hg
    refine hg.dcall ?_
    simp only [E3, seval]
    have hfl := b0M (dZ (x i).den) (canZ ((Nat.gcd (a1M x i) (x i).den : Nat) : Int)) K (b9C hdi) (a0l (by exact hgk)) (by omega) (by rw [a0o]; omega)
    rw [a0o, dZ_z] at hfl
    have hq : ((x i).den : Int).fdiv ((Nat.gcd (a1M x i) (x i).den : Nat) : Int) = (((x i).den / Nat.gcd (a1M x i) (x i).den : Nat) : Int) := by
      rw [Int.fdiv_eq_ediv_of_nonneg _ (Int.natCast_nonneg _)]; rfl
    rw [hq] at hfl
    have hqk : (x i).den / Nat.gcd (a1M x i) (x i).den < LB ^ K := Nat.lt_of_le_of_lt (Nat.div_le_self _ _) hdi
    refine Safe.rx rfl (by simp only [a4w, a6k, a4A, E3, seval]) ?_
    simp only [b2m, b0v, b0u, d1H _ x .i64 hi, e2T, a0H, E3, seval]
    refine hfl.dcall ?_
    simp only [E3, seval]
    refine ⟨?_, ?_⟩
    all_goals
      refine Safe.rg rfl ?_
      simp only [b2l, E3, seval]
      have hm := c4B (a := ((a1M x i : Nat) : Int)) (b := (((x i).den / Nat.gcd (a1M x i) (x i).den : Nat) : Int)) (k := K) (l := K) (by exact hli) (by exact hqk) (by omega)
      rw [← Int.natCast_mul, ← hsucc] at hm
      refine hm.acall ?_
      simp only [E3, seval]
      refine Safe.rg rfl ?_
      simp only [b2k, hiw, E3, seval]
      refine Safe.keep [0, 3, 4] ?_
      simp only [E3, seval]
      refine Safe.drop3 hH rfl (by simp only [List.all_cons, List.all_nil, b1I, E3, seval]) (by repeat (first | exact RC.nil | refine RC.none ?_ | refine RC.mo ?_ | refine RC.io ?_ | refine RC.row ZI.cl ?_ | refine RC.cons (a0r _) ?_ | refine RC.row a0g ?_ | refine RC.emp ?_ | refine RC.zero ?_ | refine RC.one (Z_cl _) ?_ | refine RC.one (ZI.cl _) ?_ | refine RC.one (a0g _) ?_)) ?_
      refine Safe.drop2 hH rfl (by simp only [List.all_cons, List.all_nil, b1I, E3, seval]) (by repeat (first | exact RC.nil | refine RC.none ?_ | refine RC.mo ?_ | refine RC.io ?_ | refine RC.row ZI.cl ?_ | refine RC.cons (a0r _) ?_ | refine RC.row a0g ?_ | refine RC.emp ?_ | refine RC.zero ?_ | refine RC.one (Z_cl _) ?_ | refine RC.one (ZI.cl _) ?_ | refine RC.one (a0g _) ?_)) ?_
      refine Safe.drop1 hH rfl (by simp only [List.all_cons, List.all_nil, b1I, E3, seval]) (by repeat (first | exact RC.nil | refine RC.none ?_ | refine RC.mo ?_ | refine RC.io ?_ | refine RC.row ZI.cl ?_ | refine RC.cons (a0r _) ?_ | refine RC.row a0g ?_ | refine RC.emp ?_ | refine RC.zero ?_ | refine RC.one (Z_cl _) ?_ | refine RC.one (ZI.cl _) ?_ | refine RC.one (a0g _) ?_)) ?_
      exact ih
  · refine Safe.inLoop ?_
    refine Safe.rg rfl ?_
    simp only [a6N, d6O, Int.lt_irrefl, E3, seval]
    refine Safe.cd rfl ?_
    simp only [E3, seval]
    refine Safe.rg rfl ?_
    simp only [b2j, E3, seval]
    first | refine (a0Q 0 (by decide) (by decide)).acall ?_ | refine (a0Q 0 (by decide) (by decide)).dcall ?_
    try simp only [E3, seval]
    refine Safe.rg rfl ?_
    simp only [b2i, E3, seval]
    refine Safe.nilrow 9 2 (by decide) (by simp only [E3, seval]) ?_
    refine Safe.rg rfl ?_
    simp only [b0D, E3, seval]
    have hL := hlc c (Nat.le_refl c)
    have hL0 := hl0 c
    refine Safe.lp rfl ?_
    refine Safe.keep [0, 3, 8, 9, 10] ?_
    try simp only [E3, seval]
    refine Safe.loopN (c) (fun i => [(0, rvV x c), (3, .loc (lid H 0) 0 0), (8, .loc (lid H 1) 0 0), (9, .mu (lid H 2) 0 i none), (10, .int .i64 i)]) (fun i => hap H [some ⟨2, [Z (a1M x c : Nat)]⟩, some ⟨2, [Z (a1v (outI x c) i : Nat)]⟩, some ⟨2, (vec i (outI x c)).map ZI.av⟩]) rfl rfl (fun i hi ih => ?_) ?_
    · have hlt : ((i : Int) < (c : Int)) = True := eq_true (by omega)
      have hiw : IntKind.wrap .i64 ((i : Int) + 1) = ((i + 1 : Nat) : Int) := by rw [a0a] <;> omega
      have hdi := hdl i hi
      have hd0 := (x i).den_pos
      have hni := hnl i hi
      have hoi := hol i hi
      have hgi := hgl i (by omega)
      refine Safe.inLoop ?_
      refine Safe.rg rfl ?_
      simp only [a5x, d6O, hlt, E3, seval]
      refine Safe.cd rfl ?_
      simp only [E3, seval]
      have hfl := b0M (canZ ((a1M x c : Nat) : Int)) (dZ (x i).den) K (a0l (by exact hL)) (b9C hdi) (by omega) (by rw [dZ_z]; omega)
      rw [a0o, dZ_z] at hfl
      have hq : ((a1M x c : Nat) : Int).fdiv ((x i).den : Int) = ((a1M x c / (x i).den : Nat) : Int) := by
        rw [Int.fdiv_eq_ediv_of_nonneg _ (Int.natCast_nonneg _)]; rfl
      rw [hq] at hfl
      have hqk : a1M x c / (x i).den < LB ^ K := Nat.lt_of_le_of_lt (Nat.div_le_self _ _) hL
      refine Safe.rx rfl (by simp only [a4w, a6k, a4A, E3, seval]) ?_
      simp only [b0C, a9G, a9F, d1H _ x .i64 hi, e2T, a0H, E3, seval]
      refine hfl.dcall ?_
      simp only [E3, seval]
      refine ⟨?_, ?_⟩
      all_goals
        refine Safe.rg rfl ?_
        simp only [b0B, d1H _ x .i64 hi, e9G, a0H, E3, seval]
        have hm := c4B (a := (x i).num) (b := ((a1M x c / (x i).den : Nat) : Int)) (k := K) (l := K) hni (by exact hqk) (by omega)
        refine hm.dcall ?_
        simp only [E3, seval]
        rw [b1A hH 2 (a1q H 2) ZI.cl (vec i (outI x c)) (canZ (outI x c i)) (vec (i + 1) (outI x c)) ?hlen ?hl ?hL ?hy ?hl2 ?hb ?hbb]
        case hlen => first | rfl | (simp only [a0f, a0n, List.length_map, List.length_take]; done) | (simp only [a0f, a0n, List.length_map, List.length_take]; omega)
        case hl => rfl
        case hL => repeat (first | exact RC.nil | refine RC.none ?_ | refine RC.mo ?_ | refine RC.io ?_ | refine RC.row ZI.cl ?_ | refine RC.cons (a0r _) ?_ | refine RC.row a0g ?_ | refine RC.emp ?_ | refine RC.zero ?_ | refine RC.one (Z_cl _) ?_ | refine RC.one (ZI.cl _) ?_ | refine RC.one (a0g _) ?_)
        case hy => rfl
        case hl2 => first | exact c3p _ _ | exact b7s _ _ | exact c4e _ (by omega) | exact a7Y _ _ (by omega)
        case hb => omega
        case hbb => omega
        simp only [b1I, E3, seval]
        have hg := c7z (canZ (a1v (outI x c) i : Nat)) (canZ (outI x c i)) K (a0l (by exact hgi)) (a0l hoi) (by omega)
        rw [a0o, a0o] at hg
        refine Safe.rg rfl ?_
        simp only [b0A, e1E (Nat.lt_succ_self i), e9w (Nat.lt_succ_self i), E3, seval]
        refine hg.dcall ?_
        simp only [E3, seval]
        refine Safe.rg rfl ?_
        simp only [b0z, hiw, E3, seval]
        refine Safe.keep [0, 3, 8, 9, 10] ?_
        simp only [E3, seval]
        refine Safe.drop4 hH rfl (by simp only [List.all_cons, List.all_nil, b1I, E3, seval]) (by repeat (first | exact RC.nil | refine RC.none ?_ | refine RC.mo ?_ | refine RC.io ?_ | refine RC.row ZI.cl ?_ | refine RC.cons (a0r _) ?_ | refine RC.row a0g ?_ | refine RC.emp ?_ | refine RC.zero ?_ | refine RC.one (Z_cl _) ?_ | refine RC.one (ZI.cl _) ?_ | refine RC.one (a0g _) ?_)) ?_
        refine Safe.drop3 hH rfl (by simp only [List.all_cons, List.all_nil, b1I, E3, seval]) (by repeat (first | exact RC.nil | refine RC.none ?_ | refine RC.mo ?_ | refine RC.io ?_ | refine RC.row ZI.cl ?_ | refine RC.cons (a0r _) ?_ | refine RC.row a0g ?_ | refine RC.emp ?_ | refine RC.zero ?_ | refine RC.one (Z_cl _) ?_ | refine RC.one (ZI.cl _) ?_ | refine RC.one (a0g _) ?_)) ?_
        exact ih
    · refine Safe.inLoop ?_
      refine Safe.rg rfl ?_
      simp only [a5x, d6O, Int.lt_irrefl, E3, seval]
      refine Safe.cd rfl ?_
      simp only [E3, seval]
      refine Safe.rg rfl ?_
      simp only [b0y, E3, seval]
      have hgc := hgl c (Nat.le_refl c)
      generalize hG : a1v (outI x c) c = g at *
      let F : Nat → Nat → Int := fun i j => if j < i then outI x c j / (g : Int) else outI x c j
      have hFend : ∀ i, (g = 0 ∨ c ≤ i) → vec c (F i) = vec c fun j => outI x c j / (g : Int) := by
        intro i hgi
        refine a4u fun j hj => ?_
        show (if j < i then outI x c j / (g : Int) else outI x c j) = _
        split
        · rfl
        · rcases hgi with h | h
          · rw [h]; rw [(a7L (w := outI x c) (n := c)).1 (by rw [hG]; exact h) j hj]; rfl
          · omega
      have hfin : ∀ i, (g = 0 ∨ c ≤ i) → Safe ⟨Pr, fun _ _ => false, a5o, 99, [.tmp 2], H.length⟩ [.code (.region a5w false), .code .ret] [(9, .mu (lid H 2) 0 c none)]
          (hap H [some ⟨2, [Z (a1M x c : Nat)]⟩, some ⟨2, [Z (g : Int)]⟩, some ⟨2, (vec c (F i)).map ZI.av⟩]) fun r' H' => r' = vecV (vec c (a1d (outI x c) c)) ∧ ∃ L, H' = hap H L := by
        intro i hi
        rw [hFend i hi]
        refine Safe.freeze 2 hH rfl rfl (a1H 2 ZI.av _ ZI.cl) ?_
        refine Safe.keep [9] ?_
        simp only [b9A H 2 (vec c fun j => outI x c j / (g : Int)) (c) (none) (by simp only [a0f, a0n]), a2x, a1O, a8Z, a5F, E3, seval]
        refine Safe.rg rfl ?_
        simp only [a5w, E3, seval]
        have hvk : Vok K (vec c fun j => outI x c j / (g : Int)) := c3J hc fun j hj => Nat.lt_of_le_of_lt (Int.natAbs_ediv_le_natAbs _ _) (hol j hj)
        first | refine (b5k _ (hvk.mono (by omega))).acall ?_ | refine (b5k _ (hvk.mono (by omega))).dcall ?_
        try simp only [E3, seval]
        have hres : (vec (vec c fun j => outI x c j / (g : Int)).length fun i => upS (vec c fun j => outI x c j / (g : Int)) * zg (vec c fun j => outI x c j / (g : Int)) i) = vec c (a1d (outI x c) c) := by
          rw [a0f]
          refine a4u fun j hj => ?_
          rw [c7l hj, e6E hj, ← e8x, a0f, hG]
          congr 1
          rw [a7q (v := fun j => outI x c j / (g : Int)) fun j hj => c7l hj, ← hG]
          exact e6p
        rw [hres]
        refine Safe.rt rfl ?_
        simp only [E3, seval]
        first | exact ⟨rfl, _, rfl⟩ | exact ⟨_, rfl⟩ | exact ⟨trivial, _, rfl⟩
      refine Safe.lp rfl ?_
      refine Safe.keep [8, 9, 13] ?_
      try simp only [E3, seval]
      by_cases hg0 : g = 0
      · refine Safe.inLoop ?_
        by_cases hc0 : c = 0
        · subst hc0
          refine Safe.rg rfl ?_
          simp only [a2t, Int.lt_irrefl, E3, seval]
          refine Safe.cd rfl ?_
          simp only [E3, seval]
          refine Safe.keep [9] ?_
          simp only [E3, seval]
          refine Safe.stl 40 _ ?_
          exact hfin 0 (.inr (Nat.le_refl 0))
        · have hlt : ((0 : Int) < (c : Int)) = True := eq_true (by omega)
          refine Safe.rg rfl ?_
          simp only [a2t, hlt, E3, seval]
          have hs := a0K (canZ 0) ((a0l (k := 1) (by decide)).mono (by decide))
          rw [a0o] at hs
          subst hg0
          refine hs.acall ?_
          simp only [Int.sign_zero, E3, seval]
          refine Safe.cd rfl ?_
          simp only [E3, seval]
          refine Safe.keep [9] ?_
          simp only [E3, seval]
          refine Safe.stl 40 _ ?_
          have hfin0 := hfin 0 (.inl rfl)
          rw [show vec c (F 0) = vec c (outI x c) from a4u fun j _ => if_neg (Nat.not_lt_zero j)] at hfin0
          exact hfin0
      · refine Safe.loopN c (fun i => [(8, .loc (lid H 1) 0 0), (9, .mu (lid H 2) 0 c none), (13, .int .i64 i)]) (fun i => hap H [some ⟨2, [Z (a1M x c : Nat)]⟩, some ⟨2, [Z (g : Int)]⟩, some ⟨2, (vec c (F i)).map ZI.av⟩]) rfl ?_ (fun i hi ih => ?_) ?_
        · rw [show vec c (F 0) = vec c (outI x c) from a4u fun j _ => if_neg (Nat.not_lt_zero j)]
        · have hlt : ((i : Int) < (c : Int)) = True := eq_true (by omega)
          have hiw : IntKind.wrap .i64 ((i : Int) + 1) = ((i + 1 : Nat) : Int) := by rw [a0a] <;> omega
          refine Safe.inLoop ?_
          have hs := a0K (canZ (g : Int)) ((a0l (by exact hgc)).mono (by omega))
          rw [a0o] at hs
          have hsg : ((g : Int).sign > 0) = True := eq_true (Int.sign_pos_iff.2 (by omega))
          refine Safe.rg rfl ?_
          simp only [a2t, hlt, E3, seval]
          refine hs.acall ?_
          simp only [hsg, E3, seval]
          refine Safe.cd rfl ?_
          simp only [E3, seval]
          have hoi := hol i hi
          have hFi : F i i = outI x c i := if_neg (Nat.lt_irrefl i)
          have hfl := b0M (canZ (outI x c i)) (canZ (g : Int)) K (a0l hoi) (a0l (by exact hgc)) (by omega) (by rw [a0o]; omega)
          rw [a0o, a0o, Int.fdiv_eq_ediv_of_nonneg _ (Int.natCast_nonneg g)] at hfl
          have hup : vec c (updF (F i) i (outI x c i / (g : Int))) = vec c (F (i + 1)) := by
            refine a4u fun j _ => ?_
            unfold updF
            show (if j = i then outI x c i / (g : Int) else if j < i then outI x c j / (g : Int) else outI x c j) = if j < i + 1 then outI x c j / (g : Int) else outI x c j
            by_cases h1 : j = i
            · subst h1; rw [if_pos rfl, if_pos (Nat.lt_succ_self j)]
            · rw [if_neg h1]
              by_cases h2 : j < i
              · rw [if_pos h2, if_pos (by omega)]
              · rw [if_neg h2, if_neg (by omega)]
          refine Safe.rg rfl ?_
          simp only [b0x, e1E hi, e9w hi, hFi, E3, seval]
          refine hfl.dcall ?_
          simp only [e1E hi, E3, seval]
          simp only [e9N _ hi, hup, E3, seval]
          refine Safe.rg rfl ?_
          simp only [b0w, hiw, E3, seval]
          refine Safe.keep [8, 9, 13] ?_
          simp only [E3, seval]
          exact ih
        · refine Safe.inLoop ?_
          refine Safe.rg rfl ?_
          simp only [a2t, Int.lt_irrefl, E3, seval]
          refine Safe.cd rfl ?_
          simp only [E3, seval]
          refine Safe.keep [9] ?_
          simp only [E3, seval]
          refine Safe.stl 40 _ ?_
          exact hfin c (.inr (Nat.le_refl c))
end Go.Abs
namespace Go.Abs
/-- One row bound anew: rows of numbers. -/
def ax (A : Heap) (β n : Nat) (X : Nat → List ZI) : Heap := hm A β 0 ((mat n X).map vecV) fun _ => none
theorem d4q (A : Heap) (β n : Nat) (X : Nat → List ZI) : (ax A β n X).length = A.length := a1N _ _ _ _ _
theorem a3H (A : Heap) (β n : Nat) (X : Nat → List ZI) (i : Nat) : lid (ax A β n X) i = lid A i := d7e _ _ _ _ _ _
theorem e7N {A : Heap} {β : Nat} {rows : List (List ZI)} (h : A[β]? = some (some ⟨1, rows.map vecV⟩)) : ax A β rows.length (mg rows) = A := by
  have e : mat rows.length (mg rows) = rows := by
    apply List.ext_getElem (a0n _ _)
    intro i h1 h2
    rw [a8W, a3v h2]
  unfold ax
  rw [e]
  exact e1H h fun j hj => absurd hj (by omega)
section
variable {A L : Heap} {β n : Nat} {X : Nat → List ZI}
theorem a1E (i : Nat) : hrow (hap (ax A β n X) L) (lid A i) = (L[i]?).join := d7m i
theorem a2a (i : Nat) (x : Option Blk) : (hap (ax A β n X) L).set (lid A i) x = hap (ax A β n X) (L.set i x) := e0o i x
theorem a2l (m i off : Nat) (v : AV) (env : Env) : a1L m (.loc (lid A i) 0 off) v env (hap (ax A β n X) L) = (L[i]?).join.bind fun b =>
    if 0 < b.xs.length ∧ v.fit = true ∧ v.cells.length = m ∧ off + m ≤ b.wd then some (.top, env, hap (ax A β n X) (L.set i (some ⟨b.wd, b.xs.set 0 (upd (b.xs.getD 0 .top) b.wd off m v)⟩))) else none := by
  simp only [a1L, a1E, a2a]
variable (hA : β < A.length)
include hA
theorem d3M : hrow (hap (ax A β n X) L) β = some ⟨1, (mat n X).map vecV⟩ := d7k (by omega)
theorem d4t {j len : Nat} (hj : j < len) (oc : Option Nat) (k : IntKind) : idxV (hap (ax A β n X) L) 1 (.mu β 0 len oc) (.int k j) = some (.loc β j 0) := by
  rw [b4H _ _ _ _ _ _ _ _ (by omega) (by omega), d3M hA]; simp
theorem X_at {j : Nat} (hj : j < n) : atV (hap (ax A β n X) L) (.loc β j 0) = some [vecV (X j)] := by
  rw [a9u, d3M hA]
  simp only [Option.bind_some, List.length_map, a0n]
  rw [if_pos hj, List.getD_eq_getElem?_getD, List.getElem?_map, List.getElem?_eq_getElem (by rw [a0n]; exact hj), a8W]; rfl
theorem X_st {j : Nat} (hj : j < n) (v : List ZI) (env : Env) : a1L 1 (.loc β j 0) (vecV v) env (hap (ax A β n X) L) = some (.top, env, hap (ax A β n fun a => if a = j then v else X a) L) := by
  simp only [a1L, d3M hA, Option.bind_some, List.length_map, a0n]
  rw [if_pos ⟨hj, rfl, rfl, by omega⟩, a2o]
  unfold ax
  rw [e0m (by omega)]
  refine congrArg (fun O => some (AV.top, env, hap (hm A β 0 O fun _ => none) L)) ?_
  apply List.ext_getElem?
  intro t
  rw [List.getElem?_set, List.length_map, a0n]
  simp only [List.getElem?_map, mat]
  rcases Nat.lt_or_ge t n with h | h
  · rw [List.getElem?_range h]
    by_cases e : j = t
    · subst e; simp [h]
    · simp [e, Ne.symm e]
  · rw [List.getElem?_eq_none (by simpa using h), if_neg (by omega)]; rfl
theorem e9Y {r len : Nat} (hr : r ≤ len) (oc : Option Nat) (k k' : IntKind) : slcV (hap (ax A β n X) L) 1 (.mu β 0 len oc) none (some (.int k r)) (some (.int k' r)) = some (.mu β 0 r (some r)) := by
  simp only [slcV, d3M hA, Option.bind_some, a3C]
  rw [if_pos ⟨trivial, rfl, by omega, by omega, by omega, by omega⟩]
  simp
end
theorem e7O {A : Heap} {β n : Nat} {X X' : Nat → List ZI} (hA : β < A.length) (h : a0F (ax A β n X)) : a0F (ax A β n X') := by
  intro id b hb a ha
  have hid := a0h hb
  rw [d4q] at hid
  unfold ax at hb
  rw [a1R _ _ _ _ _ _ hid] at hb
  split at hb
  · cases hb; exact (a1H 1 vecV _ a0g a ha).ref
  · rename_i h1
    rw [if_neg (by omega)] at hb
    have := h id b (by unfold ax; rw [a1R _ _ _ _ _ _ hid, if_neg h1, if_neg (by omega)]; exact hb) a ha
    rwa [d4q] at this ⊢
theorem e9v {H L0 : Heap} {β n : Nat} {X : Nat → List ZI} (L : Heap) (hβ : H.length ≤ β) (hA : β < (hap H L0).length) : ∃ L', hap (ax (hap H L0) β n X) L = hap H L' := by
  have hl : (hap H L0).length = H.length + L0.length := by simp [hap]
  have ht : (hap (ax (hap H L0) β n X) L).take H.length = H := by
    apply List.ext_getElem?
    intro j
    rw [List.getElem?_take]
    split
    · rename_i hj
      simp only [hap]
      rw [List.getElem?_append_left (by rw [d4q]; show j < (hap H L0).length; omega)]
      unfold ax
      rw [a1R _ _ _ _ _ _ (by show j < (hap H L0).length; omega), if_neg (by omega), if_neg (by omega)]
      rw [List.getElem?_append_left hj]
    · rename_i hj
      rw [List.getElem?_eq_none (by omega)]
  exact ⟨(hap (ax (hap H L0) β n X) L).drop H.length, (List.take_append_drop H.length _).symm.trans (by rw [ht]; rfl)⟩
theorem Safe.dropX {A : Heap} {β n : Nat} {X : Nat → List ZI} {x : Cx} {todo : List AItem} {env : Env} {R : AV → Heap → Prop} (L : Heap) {o : Option Blk} (hH : a0F (ax A β n X)) (hx : x.n0 ≤ A.length)
    (he : env.all (fun p => nref (lid A L.length) p.2) = true) (hL : ∀ b, some b ∈ L → ∀ a ∈ b.flat, Cl a) (h : Safe x todo env (hap (ax A β n X) L) R) : Safe x todo env (hap (ax A β n X) (L ++ [o])) R :=
  Safe.dropG hH (by rw [d4q]; exact hx) (by rw [a3H]; exact he) (fun b hb a ha => a1z (hL b hb a ha)) h
theorem Safe.freezeX {A : Heap} {β n : Nat} {X : Nat → List ZI} {x : Cx} {todo : List AItem} {env : Env} {R : AV → Heap → Prop} (i : Nat) {L : Heap} {b : Blk} (hH : a0F (ax A β n X)) (hx : x.n0 ≤ A.length) (hl : L[i]? = some (some b)) (hcl : ∀ c ∈ b.flat, Cl c)
    (h : Safe x todo (frzE (lid A i) b env) (hap (ax A β n X) ((frzL (lid A i) b L).set i none)) R) (hpos : 0 < b.wd := by exact Nat.zero_lt_succ _) : Safe x todo env (hap (ax A β n X) L) R :=
  Safe.freezeB i hH (by rw [d4q]; exact hx) hl hcl (by rw [a3H]; exact h) hpos
theorem e5n {A : Heap} {β n : Nat} {X : Nat → List ZI} {α : Type} (hH : a0F (ax A β n X)) {L : Heap} (i : Nat) {n0 : Nat} (hn : n0 ≤ lid A i) {env : Env} {wd bytes : Nat} {f : α → AV} (hf : ∀ x, Cl (f x)) (l : List α) (x : α) (l' : List α) {y : AV} {len : Nat}
    (hlen : len = l.length) (hl : L[i]? = some (some ⟨wd, l.map f⟩)) (hL : RC L) (hy : y = f x) (hl' : l' = l ++ [x]) (hb : (len + 1) * bytes ≤ 140737488355328) (hbb : len + 1 ≤ 9223372036854775807) :
    appV n0 wd bytes false (.mu (lid A i) 0 len none) (.sl wd [y]) env (hap (ax A β n X) L) = some (.mu (lid A i) 0 (len + 1) none, scrub (lid A i) env, hap (ax A β n X) (L.set i (some ⟨wd, l'.map f⟩))) := by
  have := b1A (H := ax A β n X) hH i (by rw [a3H]; exact hn) (env := env) (bytes := bytes) hf l x l' hlen hl hL hy hl' hb hbb
  rwa [a3H] at this
theorem e5I (H : Heap) (cs : List Nat) (k : IntKind) {i : Nat} (h : i < cs.length) : idxV H 1 (hsV cs) (.int k i) = some (.ro (intV (cs.getD i 0)) 0) := by
  have := d6J H 1 intV cs k i h
  rw [List.getD_eq_getElem?_getD, List.getElem?_eq_getElem h]; exact this
end Go.Abs
namespace Go.Abs
def InC (j : JS) (c : Nat) (v : Nat → Rat) : Prop := ∀ k, k < c → v k = sumR (fun i => v (j.s.cs.getD i 0) * j.M i k) j.s.cs.length
theorem e6W {j : JS} {c : Nat} {u w : Nat → Rat} (hu : InC j c u) (hw : InC j c w) (a b : Rat) : InC j c (fun k => a * u k + b * w k) := by
  intro k hk
  show a * u k + b * w k = _
  rw [hu k hk, hw k hk, ← a6j]
  refine a1V fun i _ => ?_
  show _ = (a * u (j.s.cs.getD i 0) + b * w (j.s.cs.getD i 0)) * j.M i k
  grind
theorem e1C {j : JS} {c : Nat} (hcs : ∀ t, t < j.s.cs.length → j.s.cs.getD t 0 < c) {u v : Nat → Rat} {l : Rat} (hl : l ≠ 0) (h : ∀ k, k < c → u k = l * v k) (hu : InC j c u) : InC j c v := by
  intro k hk
  have h1 := hu k hk
  have e : sumR (fun i => u (j.s.cs.getD i 0) * j.M i k) j.s.cs.length = l * sumR (fun i => v (j.s.cs.getD i 0) * j.M i k) j.s.cs.length + 0 * sumR (fun i => v (j.s.cs.getD i 0) * j.M i k) j.s.cs.length := by
    rw [← a6j]
    refine a1V fun i hi => ?_
    rw [h _ (hcs i hi)]; grind
  rw [e, h k hk] at h1
  grind
/-- Row i with the a1c from m on cleared. -/
structure RowP (j : JS) (c m i : Nat) (f : Nat → Int) : Prop where
  inn : InC j c fun k => (f k : Rat)
  lo : ∀ t, t < i → f (j.s.cs.getD t 0) = 0
  hi : ∀ t, m ≤ t → t < j.s.cs.length → t ≠ i → f (j.s.cs.getD t 0) = 0
  piv : f (j.s.cs.getD i 0) ≠ 0
section
variable {j : JS} {c : Nat} (hcs : ∀ t, t < j.s.cs.length → j.s.cs.getD t 0 < c)
include hcs
theorem b4i {m i : Nat} {f : Nat → Int} (hi : i < j.s.cs.length) (h : RowP j c m i f) : Nz f c := ⟨_, hcs i hi, h.piv⟩
theorem d1N {m i : Nat} {f : Nat → Int} (hi : i < j.s.cs.length) (h : RowP j c m i f) : RowP j c m i (a1d f c) := by
  have hne := e3n (b4i hcs hi h)
  have hz : ∀ k, f k = 0 → a1d f c k = 0 := fun k hk => by unfold a1d; rw [hk]; simp
  refine ⟨e1C hcs (l := ((sgF f c * (a1v f c : Int) : Int) : Rat)) (fun h0 => hne (Rat.intCast_inj.1 (by rw [h0]; rfl))) (fun k hk => ?_) h.inn, fun t ht => hz _ (h.lo t ht), fun t h1 h2 h3 => hz _ (h.hi t h1 h2 h3), fun h0 => h.piv ?_⟩
  · show ((f k : Int) : Rat) = _ * ((a1d f c k : Int) : Rat)
    rw [← Rat.intCast_mul, ← a4s hk]
  · rw [a4s (w := f) (hcs i hi), h0, Int.mul_zero]
omit hcs in
theorem e0t {m i : Nat} {f g : Nat → Int} (him : i < m) (hm : m < j.s.cs.length) (hf : RowP j c (m + 1) i f) (hg : RowP j c (m + 1) m g) : RowP j c m i fun k => g (j.s.cs.getD m 0) * f k - f (j.s.cs.getD m 0) * g k := by
  refine ⟨?_, fun t ht => ?_, fun t h1 h2 h3 => ?_, ?_⟩
  · have h := e6W hf.inn hg.inn (g (j.s.cs.getD m 0) : Rat) (-(f (j.s.cs.getD m 0) : Rat))
    intro k hk
    have h1 := h k hk
    have e : ∀ k, ((g (j.s.cs.getD m 0) * f k - f (j.s.cs.getD m 0) * g k : Int) : Rat) = (g (j.s.cs.getD m 0) : Rat) * (f k : Rat) + -(f (j.s.cs.getD m 0) : Rat) * (g k : Rat) := fun k => by
      rw [Rat.intCast_sub, Rat.intCast_mul, Rat.intCast_mul]; grind
    simp only [e]
    exact h1
  · rw [hf.lo t ht, hg.lo t (by omega)]; simp
  · by_cases e : t = m
    · subst e; rw [Int.mul_comm]; omega
    · rw [hf.hi t (by omega) h2 h3, hg.hi t (by omega) h2 e]; simp
  · rw [hg.lo i him, Int.mul_zero, Int.sub_zero]
    exact Int.mul_ne_zero hg.piv hf.piv
omit hcs in
theorem e0s {m i : Nat} {f : Nat → Int} (him : i < m) (hf : RowP j c (m + 1) i f) (h0 : f (j.s.cs.getD m 0) = 0) : RowP j c m i f :=
  ⟨hf.inn, hf.lo, fun t h1 h2 h3 => by
    by_cases e : t = m
    · rw [e]; exact h0
    · exact hf.hi t (by omega) h2 h3, hf.piv⟩
omit hcs in
theorem e0r {m i : Nat} {f : Nat → Int} (hmi : m ≤ i) (hf : RowP j c (m + 1) i f) (him : m < i) : RowP j c m i f :=
  ⟨hf.inn, hf.lo, fun t h1 h2 h3 => by
    by_cases e : t = m
    · rw [e]; exact hf.lo m him
    · exact hf.hi t (by omega) h2 h3, hf.piv⟩
omit hcs in
theorem d1M {m : Nat} {f : Nat → Int} (hf : RowP j c (m + 1) m f) : RowP j c m m f :=
  ⟨hf.inn, hf.lo, fun t h1 h2 h3 => hf.hi t (by omega) h2 h3, hf.piv⟩
/-- Cleared everywhere it is the row of the fractions. -/
theorem d1O {m i : Nat} {f : Nat → Int} (hmi : m ≤ i) (hi : i < j.s.cs.length) (hf : RowP j c m i f) (hpr : ∀ k, k < c → a1d f c k = f k) : ∀ k, k < c → f k = a1d (outI (j.M i) c) c k := by
  intro k hk
  have hall : ∀ t, t < j.s.cs.length → t ≠ i → ((f (j.s.cs.getD t 0) : Int) : Rat) = 0 := fun t ht hne => by
    have : f (j.s.cs.getD t 0) = 0 := by
      rcases Nat.lt_or_ge t i with h | h
      · exact hf.lo t h
      · exact hf.hi t (by omega) ht hne
    rw [this]; rfl
  have hM : ∀ k, k < c → ((f k : Int) : Rat) = (f (j.s.cs.getD i 0) : Rat) * j.M i k := fun k hk => by
    have h1 := hf.inn k hk
    rw [c3r hi fun t ht hne => by show ((f (j.s.cs.getD t 0) : Int) : Rat) * j.M t k = 0; rw [hall t ht hne]; grind] at h1
    exact h1
  rw [← hpr k hk]
  have hl := b7v (j.M i) c
  refine d0q (a := (a1M (j.M i) c : Int)) (b := f (j.s.cs.getD i 0)) (by omega) hf.piv (b4i hcs hi hf) (fun t ht => ?_) hk
  refine Rat.intCast_inj.1 ?_
  rw [Rat.intCast_mul, Rat.intCast_mul, hM t ht, ← d0s (j.M i) ht]
  have h3 : (((a1M (j.M i) c : Nat) : Int) : Rat) = ((a1M (j.M i) c : Nat) : Rat) := rfl
  rw [h3]
  generalize ((a1M (j.M i) c : Nat) : Rat) = l
  generalize (f (j.s.cs.getD i 0) : Rat) = p
  generalize j.M i t = y
  grind
end
/-- Bareiss's rows. -/
theorem b1J {n c e : Nat} {B : Nat → Nat → Rat} (hB : Bd e B) (hn : n ≤ 64) {i : Nat} (hi : i < (gproc n B c).cs.length) : RowP (a0m n B c) c (gproc n B c).cs.length i (ZgI n B c i) := by
  have hBi : ∀ i k, ∃ z : Int, B i k = z := fun i k => by obtain ⟨z, h, _⟩ := hB i k; exact ⟨z, h⟩
  have hok := b1P (n := n) hBi c
  have hs := a0M n B c
  have hrn := (a9i (n := n) hBi c).len
  have hZ : ∀ k, (ZgI n B c i k : Rat) = Zg (gproc n B c) i k := fun k => (c9e B hB hn c k (by omega)).1
  have hin := e9V hok (a := i) (by rw [hs]; exact hi)
  rw [hs] at hin
  refine ⟨fun k _ => ?_, fun t ht => ?_, fun t h1 h2 => ?_, ?_⟩
  · have := hin k
    simp only [hZ]
    exact this
  · rw [hs]
    have := e5t hok (a := i) (t := t) (by rw [hs]; exact hi) ht
    rw [hs] at this
    exact Rat.intCast_inj.1 (by rw [hZ, this]; rfl)
  · rw [hs] at h2; omega
  · rw [hs]
    have := e5s hok (a := i) (by rw [hs]; exact hi)
    rw [hs] at this
    intro h0
    exact this (by rw [← hZ, h0]; rfl)
theorem M_sz {n c e : Nat} {B : Nat → Nat → Rat} (hB : Bd e B) (hn : n ≤ 64) (i : Nat) : Sz ((a0m n B c).M i) c (KB e + 1) := by
  have hBi : ∀ i k, ∃ z : Int, B i k = z := fun i k => by obtain ⟨z, h, _⟩ := hB i k; exact ⟨z, h⟩
  have hok := b1P (n := n) hBi c
  have hBd : Bd e (a0m n B c).s.B := by rw [a0M]; exact hB.gproc c
  obtain ⟨l, hl, hl1⟩ := c3z hok (Nat.le_trans hok.g.len hn) hBd
  have hlt : LB ^ KB e < LB ^ (KB e + 1) := Nat.pow_lt_pow_right (by decide) (by omega)
  refine ⟨l, fun h0 => a9e hok.g.piv (by rw [hl, h0]; rfl), by omega, fun k _ => ?_⟩
  obtain ⟨z, hz, hz1⟩ := d0S hok (Nat.le_trans hok.g.len hn) hBd i k
  rw [hl] at hz
  exact ⟨z, hz, by omega⟩
end Go.Abs
namespace Go.Abs
def e0c (h c : Nat) (f g : Nat → Int) : Nat → Int := if f h = 0 then f else a1d (fun k => g h * f k - f h * g k) c
/-- The rows after k a1c have been cleared. -/
def Fs (cs : List Nat) (c : Nat) (F0 : Nat → Nat → Int) : Nat → Nat → Nat → Int
  | 0 => F0
  | k + 1 => fun i => if i < cs.length - (k + 1) then e0c (cs.getD (cs.length - (k + 1)) 0) c (Fs cs c F0 k i) (Fs cs c F0 k (cs.length - (k + 1))) else Fs cs c F0 k i
section
variable {n c e K : Nat} {B : Nat → Nat → Rat} (hB : Bd e B) (hn : n ≤ 64)
include hB hn
def F0s (n : Nat) (B : Nat → Nat → Rat) (c : Nat) : Nat → Nat → Int := fun i => a1d (ZgI n B c i) c
def Fk (n : Nat) (B : Nat → Nat → Rat) (c k : Nat) : Nat → Nat → Int := Fs (gproc n B c).cs c (F0s n B c) k
omit hB hn in
theorem b7L : ∀ t, t < (a0m n B c).s.cs.length → (a0m n B c).s.cs.getD t 0 < c := by
  intro t ht
  rw [a0M] at ht ⊢
  exact a2M ht
theorem e8j (i : Nat) {k : Nat} (hi : i < n) : (ZgI n B c i k).natAbs < LB ^ (KB e + 1) := by
  have h := (c9e B hB hn c k hi)
  have hlt : LB ^ KB e < LB ^ (KB e + 1) := Nat.pow_lt_pow_right (by decide) (by omega)
  omega
theorem e5W {i : Nat} (hi : i < (gproc n B c).cs.length) : RowP (a0m n B c) c (gproc n B c).cs.length i (F0s n B c i) :=
  d1N (b7L) (by rw [a0M]; exact hi) (b1J hB hn hi)
theorem e8c : ∀ i, i < (gproc n B c).cs.length → ∀ t, t < c → (F0s n B c i t).natAbs < LB ^ (KB e + 1) := fun i hi t ht =>
  Nat.lt_of_le_of_lt (b7d ht) (e8j hB hn i (Nat.lt_of_lt_of_le hi (a2R (n := n) (B := B) c).len))
structure Fok (n c K : Nat) (B : Nat → Nat → Rat) (k : Nat) : Prop where
  row : ∀ i, i < (gproc n B c).cs.length → RowP (a0m n B c) c ((gproc n B c).cs.length - k) i (Fk n B c k i)
  idem : ∀ i, i < (gproc n B c).cs.length → ∀ t, t < c → a1d (Fk n B c k i) c t = Fk n B c k i t
  sz : ∀ i, i < (gproc n B c).cs.length → ∀ t, t < c → (Fk n B c k i t).natAbs < LB ^ (K + k * (K + 1))
omit hB hn in
theorem Fok.top {k i : Nat} (h : Fok n c K B k) (hi : i < (gproc n B c).cs.length) (hk : (gproc n B c).cs.length - k ≤ i + 1) : ∀ t, t < c → Fk n B c k i t = a1d (outI ((a0m n B c).M i) c) c t := by
  have hrow : RowP (a0m n B c) c ((gproc n B c).cs.length - k) i (Fk n B c k i) := h.row i hi
  have hlen : (a0m n B c).s.cs.length = (gproc n B c).cs.length := by rw [a0M]
  by_cases e : (gproc n B c).cs.length - k ≤ i
  · exact d1O (b7L) e (by rw [hlen]; exact hi) hrow (h.idem i hi)
  · have e2 : (gproc n B c).cs.length - k = i + 1 := by omega
    rw [e2] at hrow
    exact d1O (b7L) (Nat.le_refl i) (by rw [hlen]; exact hi) (d1M hrow) (h.idem i hi)
omit hB hn in
theorem Fok.tsz (hS : ∀ i, i < (gproc n B c).cs.length → Sz ((a0m n B c).M i) c K) {k i : Nat} (h : Fok n c K B k) (hi : i < (gproc n B c).cs.length) (hk : (gproc n B c).cs.length - k ≤ i + 1) : ∀ t, t < c → (Fk n B c k i t).natAbs < LB ^ K := fun t ht => by
  rw [h.top hi hk t ht]
  exact Nat.lt_of_le_of_lt (b7d ht) (d6U (hS i hi) ht)
omit hB hn in
theorem e7E {a b p q : Int} {K L : Nat} (ha : a.natAbs < LB ^ L) (hb : b.natAbs < LB ^ K) (hp : p.natAbs < LB ^ K) (hq : q.natAbs < LB ^ L) : (a * b - p * q).natAbs < LB ^ (K + L + 1) := by
  have h1 : (a * b).natAbs < LB ^ (K + L) := by
    rw [Int.natAbs_mul, Nat.pow_add, Nat.mul_comm]
    exact Nat.mul_lt_mul'' hb ha
  have h2 : (p * q).natAbs < LB ^ (K + L) := by
    rw [Int.natAbs_mul, Nat.pow_add]
    exact Nat.mul_lt_mul'' hp hq
  rw [Nat.pow_succ]
  generalize LB ^ (K + L) = M at *
  have h3 : (a * b - p * q).natAbs ≤ (a * b).natAbs + (p * q).natAbs := by omega
  have h4 : 2 ≤ LB := by decide
  have h5 : M * 2 ≤ M * LB := Nat.mul_le_mul_left M h4
  omega
theorem e5w (h0K : ∀ i, i < (gproc n B c).cs.length → ∀ t, t < c → (F0s n B c i t).natAbs < LB ^ K) : Fok n c K B 0 := by
  have hle := (a9i (n := n) (fun i k => by obtain ⟨z, h, _⟩ := hB i k; exact ⟨z, h⟩) c).len
  have hlen : (a0m n B c).s.cs.length = (gproc n B c).cs.length := by rw [a0M]
  refine ⟨fun i hi => e5W hB hn hi, fun i hi t ht => d3d ?_ ht, fun i hi t ht => ?_⟩
  · exact b4i (b7L) (by rw [hlen]; exact hi) (b1J hB hn hi)
  · rw [Nat.zero_mul, Nat.add_zero]
    exact h0K i hi t ht
omit hB hn in
theorem d7P (hS : ∀ i, i < (gproc n B c).cs.length → Sz ((a0m n B c).M i) c K) {k i : Nat} (h : Fok n c K B k) (hk : k < (gproc n B c).cs.length) (hi : i < (gproc n B c).cs.length - (k + 1)) :
    RowP (a0m n B c) c ((gproc n B c).cs.length - (k + 1)) i (fun t => Fk n B c k ((gproc n B c).cs.length - (k + 1)) ((gproc n B c).cs.getD ((gproc n B c).cs.length - (k + 1)) 0) * Fk n B c k i t - Fk n B c k i ((gproc n B c).cs.getD ((gproc n B c).cs.length - (k + 1)) 0) * Fk n B c k ((gproc n B c).cs.length - (k + 1)) t) ∧
      ∀ t, t < c → (Fk n B c k ((gproc n B c).cs.length - (k + 1)) ((gproc n B c).cs.getD ((gproc n B c).cs.length - (k + 1)) 0) * Fk n B c k i t - Fk n B c k i ((gproc n B c).cs.getD ((gproc n B c).cs.length - (k + 1)) 0) * Fk n B c k ((gproc n B c).cs.length - (k + 1)) t).natAbs < LB ^ (K + (k + 1) * (K + 1)) := by
  have hlen : (a0m n B c).s.cs.length = (gproc n B c).cs.length := by rw [a0M]
  have hcs : (a0m n B c).s.cs = (gproc n B c).cs := by rw [a0M]
  have hm1 : (gproc n B c).cs.length - k = ((gproc n B c).cs.length - (k + 1)) + 1 := by omega
  have h1 := h.row i (by omega)
  have h2 := h.row ((gproc n B c).cs.length - (k + 1)) (by omega)
  have hhd : (gproc n B c).cs.getD ((gproc n B c).cs.length - (k + 1)) 0 < c := a2M (by omega)
  rw [hm1] at h1 h2
  refine ⟨?_, fun t ht => ?_⟩
  · have := e0t hi (by rw [hlen]; omega) h1 h2
    rw [hcs] at this
    exact this
  · have e1 : K + (k + 1) * (K + 1) = (K + k * (K + 1)) + K + 1 := by rw [Nat.succ_mul]; omega
    rw [e1]
    exact e7E (h.tsz hS (by omega) (by omega) _ hhd) (h.sz i (by omega) t ht) (h.sz i (by omega) _ hhd) (h.tsz hS (by omega) (by omega) t ht)
omit hB hn in
theorem e5x (hS : ∀ i, i < (gproc n B c).cs.length → Sz ((a0m n B c).M i) c K) {k : Nat} (h : Fok n c K B k) (hk : k < (gproc n B c).cs.length) : Fok n c K B (k + 1) := by
  have hlen : (a0m n B c).s.cs.length = (gproc n B c).cs.length := by rw [a0M]
  have hcs : (a0m n B c).s.cs = (gproc n B c).cs := by rw [a0M]
  have hm1 : (gproc n B c).cs.length - k = ((gproc n B c).cs.length - (k + 1)) + 1 := by omega
  have hs : ∀ i, Fk n B c (k + 1) i = if i < (gproc n B c).cs.length - (k + 1) then e0c ((gproc n B c).cs.getD ((gproc n B c).cs.length - (k + 1)) 0) c (Fk n B c k i) (Fk n B c k ((gproc n B c).cs.length - (k + 1))) else Fk n B c k i := fun i => rfl
  have hup : LB ^ (K + k * (K + 1)) ≤ LB ^ (K + (k + 1) * (K + 1)) := lbm (by rw [Nat.succ_mul]; omega)
  have all : ∀ i, i < (gproc n B c).cs.length → RowP (a0m n B c) c ((gproc n B c).cs.length - (k + 1)) i (Fk n B c (k + 1) i) ∧ (∀ t, t < c → a1d (Fk n B c (k + 1) i) c t = Fk n B c (k + 1) i t) ∧ ∀ t, t < c → (Fk n B c (k + 1) i t).natAbs < LB ^ (K + (k + 1) * (K + 1)) := by
    intro i hi
    have h1 := h.row i hi
    rw [hm1] at h1
    rw [hs i]
    by_cases hlt : i < (gproc n B c).cs.length - (k + 1)
    · rw [if_pos hlt]
      unfold e0c
      by_cases h0 : Fk n B c k i ((gproc n B c).cs.getD ((gproc n B c).cs.length - (k + 1)) 0) = 0
      · rw [if_pos h0]
        exact ⟨e0s hlt h1 (by rw [hcs]; exact h0), h.idem i hi, fun t ht => Nat.lt_of_lt_of_le (h.sz i hi t ht) hup⟩
      · rw [if_neg h0]
        obtain ⟨c1, c2⟩ := d7P hS h hk hlt
        exact ⟨d1N (b7L) (by rw [hlen]; exact hi) c1, fun t ht => d3d (b4i (b7L) (by rw [hlen]; exact hi) c1) ht, fun t ht => Nat.lt_of_le_of_lt (b7d ht) (c2 t ht)⟩
    · rw [if_neg hlt]
      refine ⟨?_, h.idem i hi, fun t ht => Nat.lt_of_lt_of_le (h.sz i hi t ht) hup⟩
      by_cases e2 : i = (gproc n B c).cs.length - (k + 1)
      · subst e2; exact d1M h1
      · exact e0r (by omega) h1 (by omega)
  exact ⟨fun i hi => (all i hi).1, fun i hi => (all i hi).2.1, fun i hi => (all i hi).2.2⟩
theorem d6y (hS : ∀ i, i < (gproc n B c).cs.length → Sz ((a0m n B c).M i) c K) (h0K : ∀ i, i < (gproc n B c).cs.length → ∀ t, t < c → (F0s n B c i t).natAbs < LB ^ K) : ∀ k, k ≤ (gproc n B c).cs.length → Fok n c K B k
  | 0, _ => e5w hB hn h0K
  | k + 1, h => e5x hS (d6y hS h0K k (by omega)) (by omega)
theorem e9H {i : Nat} (hi : i < (gproc n B c).cs.length) : vec c (Fk n B c (gproc n B c).cs.length i) = vec c (a1d (outI ((a0m n B c).M i) c) c) :=
  a4u fun t ht => (d6y (K := KB e + 1) hB hn (fun i _ => M_sz hB hn i) (e8c hB hn) _ (Nat.le_refl _)).top hi (by omega) t ht
end
end Go.Abs
namespace Go.Abs
theorem e9E {A L : Heap} {β n : Nat} {X : Nat → List ZI} (hA : β < A.length) (len : Nat) (oc : Option Nat) : lenV (hap (ax A β n X) L) (.mu β 0 len oc) = some (.int .i64 len) := by
  simp only [lenV, d3M hA]; rfl
def a3n (n : Nat) (B : Nat → Nat → Rat) (c : Nat) : List (List ZI) := mat (gproc n B c).cs.length fun i => vec c (a1d (outI ((a0m n B c).M i) c) c)
def Xp (X : Nat → List ZI) (n : Nat) (B : Nat → Nat → Rat) (c i : Nat) : Nat → List ZI := fun t => if t < i then vec c (F0s n B c t) else X t
def Yo (X : Nat → List ZI) (n : Nat) (B : Nat → Nat → Rat) (c k : Nat) : Nat → List ZI := fun t => if t < (gproc n B c).cs.length then vec c (Fk n B c k t) else X t
def Yi (X : Nat → List ZI) (n : Nat) (B : Nat → Nat → Rat) (c k i : Nat) : Nat → List ZI := fun t => if t < i then Yo X n B c (k + 1) t else Yo X n B c k t
section
variable (X : Nat → List ZI) (n : Nat) (B : Nat → Nat → Rat) (c : Nat)
theorem e8a : Xp X n B c 0 = X := funext fun t => if_neg (Nat.not_lt_zero t)
theorem e9X (i : Nat) : Xp X n B c i i = X i := if_neg (Nat.lt_irrefl i)
theorem e8b (i : Nat) : (fun a => if a = i then vec c (F0s n B c i) else Xp X n B c i a) = Xp X n B c (i + 1) := by
  funext a
  unfold Xp
  by_cases e : a = i
  · subst e; rw [if_pos rfl, if_pos (Nat.lt_succ_self a)]
  · rw [if_neg e]
    by_cases h : a < i
    · rw [if_pos h, if_pos (by omega)]
    · rw [if_neg h, if_neg (by omega)]
theorem e9D : Xp X n B c (gproc n B c).cs.length = Yo X n B c 0 := rfl
theorem e7X (k : Nat) : Yi X n B c k 0 = Yo X n B c k := funext fun t => if_neg (Nat.not_lt_zero t)
theorem e7Z {k i t : Nat} (h : i ≤ t) (ht : t < (gproc n B c).cs.length) : Yi X n B c k i t = vec c (Fk n B c k t) := by
  unfold Yi
  rw [if_neg (by omega)]
  exact if_pos ht
theorem e2Q {k i : Nat} {v : List ZI} (hi : i < (gproc n B c).cs.length) (hv : v = vec c (Fk n B c (k + 1) i)) : (fun a => if a = i then v else Yi X n B c k i a) = Yi X n B c k (i + 1) := by
  funext a
  unfold Yi
  by_cases e : a = i
  · subst e
    rw [if_pos rfl, if_pos (Nat.lt_succ_self a), hv]
    exact (if_pos hi).symm
  · rw [if_neg e]
    by_cases h : a < i
    · rw [if_pos h, if_pos (by omega)]
    · rw [if_neg h, if_neg (by omega)]
theorem e7Y {k i : Nat} (hi : i < (gproc n B c).cs.length) (hv : Fk n B c (k + 1) i = Fk n B c k i) : Yi X n B c k (i + 1) = Yi X n B c k i := by
  refine (e2Q X n B c hi (v := vec c (Fk n B c k i)) (by rw [hv])).symm.trans ?_
  funext a
  by_cases e : a = i
  · subst e; rw [if_pos rfl, e7Z X n B c (Nat.le_refl a) hi]
  · rw [if_neg e]
theorem e2W (k i : Nat) : Fk n B c (k + 1) i = if i < (gproc n B c).cs.length - (k + 1) then e0c ((gproc n B c).cs.getD ((gproc n B c).cs.length - (k + 1)) 0) c (Fk n B c k i) (Fk n B c k ((gproc n B c).cs.length - (k + 1))) else Fk n B c k i := rfl
theorem e9C (k : Nat) : Yi X n B c k ((gproc n B c).cs.length - (k + 1)) = Yo X n B c (k + 1) := by
  funext t
  unfold Yi
  split
  · rfl
  · rename_i h
    unfold Yo
    rw [e2W, if_neg h]
end
theorem c2O (b : List (List ZI)) {e n c K : Nat} (hb : ∀ i, (h : i < b.length) → b[i].length = c) (hm : Mok e b) (hn : b.length = n) (hn64 : n ≤ 64) (hc : c ≤ 2097152) (hKB : KB e + 1 < 1099511627776) (hK : K + 1 < 100000000000) (hS : ∀ i, i < (gproc n (Bm b) c).cs.length → Sz ((a0m n (Bm b) c).M i) c K) (h0K : ∀ i, i < (gproc n (Bm b) c).cs.length → ∀ t, t < c → (F0s n (Bm b) c i t).natAbs < LB ^ K) :
    a0d Pr a3j [matV b, .int .i64 c] (.tup [matV (a3n n (Bm b) c), hsV (gproc n (Bm b) c).cs]) := by
  have hB := d6A hm
  have hrn := (a9i (n := n) (fun i k => by obtain ⟨z, h, _⟩ := hB i k; exact ⟨z, h⟩) c).len
  have hF := fun k hk => d6y (n := n) (c := c) hB hn64 hS h0K k hk
  have hF0 := fun i hi => e5W (n := n) (c := c) hB hn64 (i := i) hi
  refine a0d.intro d0Y d0T (Nat.le_of_ble_eq_true rfl) (a7m (a5E _) (b1c _)) fun H hH => ?_
  refine Safe.rg rfl ?_
  simp only [b8b, E3, seval]
  refine Safe.rg rfl ?_
  simp only [b8a, E3, seval]
  refine (d4o hc (d1m b (Bm b) hb (fun _ _ => rfl) hm hB hn hn64 hc (by omega) (hap H []))).mono ?_
  rintro r' A ⟨β, rows, lx, hR, hβ, hAβ, ⟨L', hL'⟩, hHr, hlz, hlk, rfl⟩
  have hA : β < A.length := a0h hAβ
  have hax : ax A β n (mg rows) = A := by rw [← hR.len]; exact e7N hAβ
  rw [a1F] at hβ hL'
  have hHA : H.length ≤ A.length := by omega
  have hRef : ∀ X', a0F (ax A β n X') := fun X' => e7O hA (by rw [hax]; exact hHr)
  have hnb : ∀ j (L : Nat) oc, nref (lid A j) (.mu β 0 L oc) = true := fun j L oc => a3Z (by unfold lid; omega)
  have hnc : ∀ j, nref j (hsV (gproc n (Bm b) c).cs) = true := fun j => a1z (b1c _)
  have hin : A = hap (ax A β n (mg rows)) [] := by rw [a1F, hax]
  rw [hin]
  clear hin
  have hlow : ∀ i, i < (gproc n (Bm b) c).cs.length → a0d Pr a2O [vecV (mg rows i)] (vecV (vec c (F0s n (Bm b) c i))) := fun i hi => by
    have hw := hR.wid i (by omega)
    have hz := hR.at_ i
    have hnz := b4i b7L (by rw [a0M]; exact hi) (b1J (c := c) hB hn64 hi)
    have := c5M (mg rows i) (hR.ok i (by omega)) (by
      obtain ⟨k, hk, hk2⟩ := hnz
      exact ⟨k, by rw [hw]; exact hk, by rw [hz k (by omega) hk]; exact hk2⟩) (by omega)
    rw [hw, a4u (g := F0s n (Bm b) c i) fun k hk => b8T (fun t ht => hz t (by omega) ht) hk] at this
    exact this
  generalize hrs : mg rows = X at *
  generalize hcsl : (gproc n (Bm b) c).cs.length = r at *
  simp only [a3H, a1E, a2a, a2l, E3, seval]
  refine Safe.keep [6, 7] ?_
  simp only [E3, seval]
  refine Safe.dropX [] (hRef _) hHA (by simp only [List.all_cons, List.all_nil, hnb, hnc, E3, seval]) (RC.nil) ?_
  refine Safe.rg rfl ?_
  simp only [b7Z, a3H, a1E, a2a, a2l, c8X, hcsl, e9Y hA hrn, E3, seval]
  refine Safe.rg rfl ?_
  simp only [b7Y, a3H, a1E, a2a, a2l, e9E hA, E3, seval]
  refine Safe.lp rfl ?_
  refine Safe.keep [6, 7, 32, 33] ?_
  simp only [E3, seval]
  refine Safe.loopN r (fun i => [(6, .mu β 0 r (some r)), (7, hsV (gproc n (Bm b) c).cs), (32, .int .i64 r), (33, .int .i64 i)]) (fun i => hap (ax A β n (Xp X n (Bm b) c i)) []) rfl (by rw [e8a]) (fun i hi ih => ?_) ?_
  · have hlt : ((i : Int) < (r : Int)) = True := eq_true (by omega)
    have hiw : IntKind.wrap .i64 ((i : Int) + 1) = ((i + 1 : Nat) : Int) := by rw [a0a] <;> omega
    refine Safe.inLoop ?_
    refine Safe.rg rfl ?_
    simp only [a9l, hlt, E3, seval]
    refine Safe.cd rfl ?_
    simp only [E3, seval]
    refine Safe.rg rfl ?_
    simp only [b7X, E3, seval]
    refine Safe.rg rfl ?_
    simp only [b7W, a3H, a1E, a2a, a2l, d4t hA hi, X_at hA (show i < n by omega), e9X, E3, seval]
    refine (hlow i (by omega)).acall ?_
    simp only [a3H, a1E, a2a, a2l, d4t hA hi, X_st hA (show i < n by omega), e8b, E3, seval]
    refine Safe.rg rfl ?_
    simp only [b7V, hiw, E3, seval]
    refine Safe.keep [6, 7, 32, 33] ?_
    simp only [E3, seval]
    exact ih
  · refine Safe.inLoop ?_
    refine Safe.rg rfl ?_
    simp only [a9l, Int.lt_irrefl, E3, seval]
    refine Safe.cd rfl ?_
    simp only [E3, seval]
    have hend : Xp X n (Bm b) c r = Yo X n (Bm b) c 0 := by rw [← hcsl]; exact e9D X n (Bm b) c
    rw [hend]
    have hw8 : IntKind.wrap .i64 ((r : Int) - 1) = (r : Int) - 1 - ((0 : Nat) : Int) := by rw [a0a] <;> omega
    refine Safe.rg rfl ?_
    simp only [b7U, a3H, a1E, a2a, a2l, e9E hA, hw8, E3, seval]
    refine Safe.lp rfl ?_
    refine Safe.keep [6, 7, 11] ?_
    simp only [E3, seval]
    refine Safe.loopN r (fun k => [(6, .mu β 0 r (some r)), (7, hsV (gproc n (Bm b) c).cs), (11, .int .i64 ((r : Int) - 1 - (k : Int)))]) (fun k => hap (ax A β n (Yo X n (Bm b) c k)) []) rfl rfl (fun k hk ih => ?_) ?_
    · obtain ⟨m, hm⟩ : ∃ m, m = r - (k + 1) := ⟨_, rfl⟩
      have hmr : m < r := by omega
      have hm1 : (r : Int) - 1 - (k : Int) = (m : Int) := by omega
      rw [hm1]
      have hge : ((m : Int) ≥ 0) = True := eq_true (by omega)
      have hFk := hF k (by omega)
      obtain ⟨h, hh⟩ : ∃ h, h = (gproc n (Bm b) c).cs.getD m 0 := ⟨_, rfl⟩
      have hhc : h < c := by rw [hh]; exact a2M (by omega)
      refine Safe.inLoop ?_
      refine Safe.rg rfl ?_
      simp only [a9k, hge, E3, seval]
      refine Safe.cd rfl ?_
      simp only [E3, seval]
      refine Safe.rg rfl ?_
      simp only [b3I, a3H, a1E, a2a, a2l, e5I _ (gproc n (Bm b) c).cs .i64 (show m < (gproc n (Bm b) c).cs.length by omega), E3, seval]
      rw [← hh]
      refine Safe.rg rfl ?_
      simp only [b3H, E3, seval]
      refine Safe.lp rfl ?_
      refine Safe.keep [6, 7, 11, 12, 56, 57] ?_
      simp only [intV, E3, seval]
      refine Safe.loopN m (fun i => [(6, .mu β 0 r (some r)), (7, hsV (gproc n (Bm b) c).cs), (11, .int .i64 m), (12, .int .i64 h), (56, .int .i64 m), (57, .int .i64 i)]) (fun i => hap (ax A β n (Yi X n (Bm b) c k i)) []) rfl (by rw [e7X]) (fun i hi ihi => ?_) ?_
      · have hlt : ((i : Int) < (m : Int)) = True := eq_true (by omega)
        have hiw : IntKind.wrap .i64 ((i : Int) + 1) = ((i + 1 : Nat) : Int) := by rw [a0a] <;> omega
        have hir : i < r := by omega
        have hin : i < n := by omega
        have hmn : m < n := by omega
        have hYi := e7Z X n (Bm b) c (k := k) (Nat.le_refl i) (by omega)
        have hYm := e7Z X n (Bm b) c (k := k) (i := i) (t := m) (by omega) (by omega)
        have hnx := e2W n (Bm b) c k i
        rw [hcsl, ← hm, if_pos hi, ← hh] at hnx
        unfold e0c at hnx
        have hsame := e7Y X n (Bm b) c (k := k) (i := i) (by omega)
        have hsucc := fun v => e2Q X n (Bm b) c (k := k) (i := i) (v := v) (by omega)
        have hcl := d7P (n := n) (B := Bm b) (c := c) (by rw [hcsl]; exact hS) hFk (by omega) (i := i) (by omega)
        rw [hcsl, ← hm, ← hh] at hcl
        obtain ⟨hcr, hcz⟩ := hcl
        have hcnz := b4i b7L (by rw [a0M]; omega) hcr
        have hzi := hFk.sz i (by omega)
        have hzm := hFk.tsz (by rw [hcsl]; exact hS) (i := m) (by omega) (by omega)
        have hkk : K + k * (K + 1) ≤ 64 * (K + 1) := by
          have := Nat.mul_le_mul_right (K + 1) (show k ≤ 63 by omega)
          omega
        have hkk1 : K + (k + 1) * (K + 1) ≤ 65 * (K + 1) := by
          rw [Nat.succ_mul]; omega
        generalize hK2 : K + k * (K + 1) = K2 at *
        generalize hK3 : K + (k + 1) * (K + 1) = K3 at *
        generalize hf : Fk n (Bm b) c k i = f at *
        generalize hg : Fk n (Bm b) c k m = g at *
        have hfl : ∀ t, t < c → Zok K2 (canZ (f t)) := fun t ht => a0l (hzi t ht)
        have hgl : ∀ t, t < c → Zok (K) (canZ (g t)) := fun t ht => a0l (hzm t ht)
        refine Safe.inLoop ?_
        refine Safe.rg rfl ?_
        simp only [a7i, hlt, E3, seval]
        refine Safe.cd rfl ?_
        simp only [E3, seval]
        refine Safe.rg rfl ?_
        simp only [b3G, E3, seval]
        refine Safe.rg rfl ?_
        simp only [b3F, a3H, a1E, a2a, a2l, d4t hA hir, X_at hA hin, hYi, a1h _ (vec c f) .i64 h (by rw [a0f]; exact hhc), a3K, E3, seval]
        refine Safe.rg rfl ?_
        simp only [b3E, a3H, a1E, a2a, a2l, E3, seval]
        refine (a1J (canZ (f h)) ((hfl h hhc).mono (by omega))).acall ?_
        simp only [a0o, E3, seval]
        by_cases h0 : f h = 0
        · have hs0 : ((f h).sign = 0) = True := eq_true (by rw [h0]; rfl)
          simp only [hs0, E3, seval]
          refine Safe.cd rfl ?_
          simp only [E3, seval]
          refine Safe.rg rfl ?_
          simp only [a7g, hiw, E3, seval]
          refine Safe.keep [6, 7, 11, 12, 56, 57] ?_
          simp only [E3, seval]
          refine Safe.dropX [] (hRef _) hHA (by simp only [List.all_cons, List.all_nil, hnb, hnc, E3, seval]) (RC.nil) ?_
          rw [if_pos h0] at hnx
          rw [hsame hnx] at ihi
          exact ihi
        · have hs0 : ((f h).sign = 0) = False := eq_false (fun q => h0 (Int.sign_eq_zero_iff_zero.1 q))
          simp only [hs0, E3, seval]
          refine Safe.cd rfl ?_
          simp only [E3, seval]
          rw [if_neg h0] at hnx
          refine Safe.rg rfl ?_
          simp only [b3D, E3, seval]
          refine Safe.nilrow 15 2 (by decide) (by simp only [E3, seval]) ?_
          simp only [a3H, a1E, a2a, a2l, E3, seval]
          refine Safe.rg rfl ?_
          simp only [b3C, a3H, a1E, a2a, a2l, d4t hA hir, X_at hA hin, hYi, d9S, a0f, E3, seval]
          refine Safe.lp rfl ?_
          refine Safe.keep [6, 7, 11, 12, 13, 14, 15, 56, 57, 74, 75] ?_
          simp only [E3, seval]
          obtain ⟨G, hG⟩ : ∃ G : Nat → Int, G = fun t => g h * f t - f h * g t := ⟨_, rfl⟩
          rw [← hG] at hcr hcnz hnx
          have hGz : ∀ t, t < c → (G t).natAbs < LB ^ K3 := fun t ht => by rw [hG]; exact hcz t ht
          refine Safe.loopN c (fun t => [(6, .mu β 0 r (some r)), (7, hsV (gproc n (Bm b) c).cs), (11, .int .i64 m), (12, .int .i64 h), (13, .int .i64 i), (14, .loc (lid A 0) 0 0), (15, .mu (lid A 1) 0 t none), (56, .int .i64 m), (57, .int .i64 i), (74, .int .i64 c), (75, .int .i64 t)])
            (fun t => hap (ax A β n (Yi X n (Bm b) c k i)) [some ⟨2, [Z (f h)]⟩, some ⟨2, (vec t G).map ZI.av⟩]) rfl rfl (fun t ht iht => ?_) ?_
          · have hlt2 : ((t : Int) < (c : Int)) = True := eq_true (by omega)
            have htw : IntKind.wrap .i64 ((t : Int) + 1) = ((t + 1 : Nat) : Int) := by rw [a0a] <;> omega
            have hm1 := a7n (canZ (g h)) (canZ (f t)) _ _ (hgl h hhc) (hfl t ht) (by omega)
            have hm2 := a7n (canZ (f h)) (canZ (g t)) _ _ (hfl h hhc) (hgl t ht) (by omega)
            have hs := d6B (a := g h * f t) (b := f h * g t) (k := K + K2) (a4b (hzm h hhc) (hzi t ht)) (by rw [Nat.add_comm]; exact a4b (hzi h hhc) (hzm t ht)) (by omega)
            rw [a0o, a0o] at hm1 hm2
            have hGt : Z (g h * f t - f h * g t) = Z (G t) := by rw [hG]
            rw [hGt] at hs
            refine Safe.inLoop ?_
            refine Safe.rg rfl ?_
            simp only [a7h, hlt2, E3, seval]
            refine Safe.cd rfl ?_
            simp only [E3, seval]
            refine Safe.rg rfl ?_
            simp only [b3B, E3, seval]
            refine Safe.rg rfl ?_
            simp only [b3A, a3H, a1E, a2a, a2l, d4t hA hir, X_at hA hin, d4t hA hmr, X_at hA hmn, hYi, hYm, a1h _ (vec c f) .i64 t (by rw [a0f]; exact ht), a1h _ (vec c g) .i64 h (by rw [a0f]; exact hhc), a3K, E3, seval]
            refine hm1.dcall ?_
            simp only [a3H, a1E, a2a, a2l, d4t hA hmr, X_at hA hmn, hYm, a1h _ (vec c g) .i64 t (by rw [a0f]; exact ht), a3K, E3, seval]
            refine hm2.dcall ?_
            simp only [E3, seval]
            refine hs.dcall ?_
            simp only [E3, seval]
            rw [e5n (bytes := 32) (y := Z (G t)) (hRef _) 1 (by show H.length ≤ _; unfold lid; omega) ZI.cl (vec t G) (canZ (G t)) (vec (t + 1) G) (by rw [a0f]) rfl (RC.one (Z_cl _) (RC.row ZI.cl RC.nil)) rfl (c3p _ _) (by omega) (by omega)]
            simp only [E3, seval]
            refine Safe.rg rfl ?_
            simp only [b3z, htw, E3, seval]
            refine Safe.keep [6, 7, 11, 12, 13, 14, 15, 56, 57, 74, 75] ?_
            simp only [hnb, hnc, E3, seval]
            exact iht
          · refine Safe.inLoop ?_
            refine Safe.rg rfl ?_
            simp only [a7h, Int.lt_irrefl, E3, seval]
            refine Safe.cd rfl ?_
            simp only [E3, seval]
            have hfm : frz (lid A 1) ⟨2, (vec c G).map ZI.av⟩ (.mu (lid A 1) 0 c none) = vecV (vec c G) := b9A A 1 (vec c G) c none (by rw [a0f])
            have hfo : frz (lid A 1) ⟨2, (vec c G).map ZI.av⟩ (.mu β 0 r (some r)) = .mu β 0 r (some r) := a7f (.mu _ _ _ _ (by show β ≠ _; unfold lid; omega))
            have hfh : frz (lid A 1) ⟨2, (vec c G).map ZI.av⟩ (hsV (gproc n (Bm b) c).cs) = hsV (gproc n (Bm b) c).cs := a3I (b1c _)
            refine Safe.freezeX 1 (hRef _) hHA rfl (a1H 2 ZI.av _ ZI.cl) ?_
            refine Safe.keep [6, 7, 11, 12, 13, 15, 56, 57] ?_
            simp only [hfm, hfo, hfh, E3, seval]
            have hlowG := c5M (vec c G) (c3J hc hGz) (by
              obtain ⟨t, ht, h2⟩ := hcnz
              exact ⟨t, by rw [a0f]; exact ht, by rw [c7l ht]; exact h2⟩) (by omega)
            rw [a0f, a4u (g := a1d G c) fun t ht => b8T (fun t ht => c7l ht) ht] at hlowG
            refine Safe.rg rfl ?_
            simp only [b3y, E3, seval]
            refine hlowG.acall ?_
            simp only [a3H, a1E, a2a, a2l, d4t hA hir, X_st hA hin, hsucc _ (show vec c (a1d G c) = vec c (Fk n (Bm b) c (k + 1) i) by rw [hnx]), E3, seval]
            refine Safe.rg rfl ?_
            simp only [a7g, hiw, E3, seval]
            refine Safe.keep [6, 7, 11, 12, 56, 57] ?_
            simp only [E3, seval]
            refine Safe.dropX [some ⟨2, [Z (f h)]⟩] (hRef _) hHA (by simp only [List.all_cons, List.all_nil, hnb, hnc, E3, seval]) (RC.one (Z_cl _) RC.nil) ?_
            refine Safe.dropX [] (hRef _) hHA (by simp only [List.all_cons, List.all_nil, hnb, hnc, E3, seval]) (RC.nil) ?_
            exact ihi
      · refine Safe.inLoop ?_
        refine Safe.rg rfl ?_
        simp only [a7i, Int.lt_irrefl, E3, seval]
        refine Safe.cd rfl ?_
        simp only [E3, seval]
        have he := e9C X n (Bm b) c k
        rw [hcsl, ← hm] at he
        rw [he]
        have hw24 : IntKind.wrap .i64 ((m : Int) - 1) = (r : Int) - 1 - ((k + 1 : Nat) : Int) := by rw [a0a] <;> omega
        refine Safe.rg rfl ?_
        simp only [b3x, hw24, E3, seval]
        refine Safe.keep [6, 7, 11] ?_
        simp only [E3, seval]
        exact ih
    · have hge : ((r : Int) - 1 - (r : Int) ≥ 0) = False := eq_false (by omega)
      refine Safe.inLoop ?_
      refine Safe.rg rfl ?_
      simp only [a9k, hge, E3, seval]
      refine Safe.cd rfl ?_
      simp only [E3, seval]
      obtain ⟨L2, hL2⟩ : ∃ L2, hap (ax A β n (Yo X n (Bm b) c r)) [] = hap H L2 := by
        rw [hL']; exact e9v [] hβ (by rw [← hL']; exact hA)
      have hlook : L2[β - H.length]? = some (some ⟨1, (mat n (Yo X n (Bm b) c r)).map vecV⟩) := by
        have h1 : (hap (ax A β n (Yo X n (Bm b) c r)) [])[β]? = some (some ⟨1, (mat n (Yo X n (Bm b) c r)).map vecV⟩) := by
          rw [a1F]; unfold ax
          rw [a1R _ _ _ _ _ _ hA, if_pos rfl]
        rw [hL2] at h1
        simp only [hap] at h1
        rwa [List.getElem?_append_right hβ] at h1
      have hid : β = lid H (β - H.length) := by unfold lid; omega
      rw [hL2]
      refine Safe.freeze (β - H.length) hH rfl hlook (a1H 1 vecV _ a0g) ?_
      have hfm : frz (lid H (β - H.length)) ⟨1, (mat n (Yo X n (Bm b) c r)).map vecV⟩ (.mu β 0 r (some r)) = matV (a3n n (Bm b) c) := by
        have := b4I H (β - H.length) ⟨1, (mat n (Yo X n (Bm b) c r)).map vecV⟩ 0 r (some r) (by show 0 + r ≤ ((mat n (Yo X n (Bm b) c r)).map vecV).length; rw [List.length_map, a0n]; omega)
        rw [← hid] at this ⊢
        rw [this]
        show AV.sl 1 ((((mat n (Yo X n (Bm b) c r)).map vecV).drop 0).take r) = .sl 1 ((a3n n (Bm b) c).map vecV)
        rw [List.drop_zero, ← List.map_take]
        congr 2
        apply List.ext_getElem
        · rw [List.length_take, a0n, a3n, a0n, hcsl]; omega
        · intro t h1 h2
          have htr : t < r := by rw [a3n, a0n, hcsl] at h2; exact h2
          have hs : (a3n n (Bm b) c)[t] = vec c (a1d (outI ((a0m n (Bm b) c).M t) c) c) := a8W h2
          rw [List.getElem_take, a8W, hs]
          have := e9H (n := n) (c := c) hB hn64 (i := t) (by omega)
          rw [hcsl] at this
          unfold Yo
          rw [if_pos (by omega), this]
      have hfh : frz (lid H (β - H.length)) ⟨1, (mat n (Yo X n (Bm b) c r)).map vecV⟩ (hsV (gproc n (Bm b) c).cs) = hsV (gproc n (Bm b) c).cs := a3I (b1c _)
      refine Safe.keep [6, 7] ?_
      simp only [hfm, hfh, E3, seval]
      refine Safe.rg rfl ?_
      simp only [b3w, E3, seval]
      refine Safe.rt rfl ?_
      simp only [E3, seval]
      first | exact ⟨rfl, _, rfl⟩ | exact ⟨_, rfl⟩ | exact ⟨trivial, _, rfl⟩
theorem d6h (b : List (List ZI)) {e n c : Nat} (hb : ∀ i, (h : i < b.length) → b[i].length = c) (hm : Mok e b) (hn : b.length = n) (hn64 : n ≤ 64) (hc : c ≤ 2097152) (hK : KB e + 2 < 100000000000) :
    a0d Pr a3j [matV b, .int .i64 c] (.tup [matV (a3n n (Bm b) c), hsV (gproc n (Bm b) c).cs]) :=
  c2O b hb hm hn hn64 hc (by omega) (K := KB e + 1) (by omega) (fun i _ => M_sz (d6A hm) hn64 i) (e8c (d6A hm) hn64)
end Go.Abs
namespace Go.Abs
theorem e9a {H L : Heap} {β n : Nat} {O : List AV} {R : Nat → Option Blk} (hβ : H.length ≤ β) (hG : β + n < (hap H L).length) : ∃ L', hm (hap H L) β n O R = hap H L' := by
  refine ⟨(hm (hap H L) β n O R).drop H.length, ?_⟩
  have ht : (hm (hap H L) β n O R).take H.length = H := by
    apply List.ext_getElem?
    intro j
    rw [List.getElem?_take]
    have hl : (hap H L).length = H.length + L.length := by simp [hap]
    split
    · rename_i hj
      rw [a1R _ _ _ _ _ _ (by omega), if_neg (by omega), if_neg (by omega)]
      simp only [hap]
      rw [List.getElem?_append_left hj]
    · rename_i hj
      rw [List.getElem?_eq_none (by omega)]
  exact (List.take_append_drop H.length _).symm.trans (by rw [ht]; rfl)
/-- With the first m rows told. -/
def redM (m : Nat) (A : Heap) (β n c : Nat) (B : Nat → Nat → Rat) (r' : AV) (H' : Heap) : Prop := ∃ π S L, Lk n c π S (fun a b => Rv ((a0m n B c).M a b)) ∧ β + n < (hap A L).length ∧
  H' = hm (hap A L) (β) n (fr n fun i => if π i < m then .sl 4 (fr c (S (π i))) else .mu (β + 1 + π i) 0 c none) (fun j => if j < m then none else some ⟨4, fr c (S j)⟩) ∧ a0F H' ∧
  r' = .tup [.mu (β) 0 (gproc n B c).cs.length none, hsV (gproc n B c).cs, Rv (dv n B c)]
/-- The rows as values. -/
def redV (A : Heap) (n c : Nat) (B : Nat → Nat → Rat) (r' : AV) (H' : Heap) : Prop := H'[lid A 0]? = some (some ⟨1, fr n fun i => rvV ((a0m n B c).M i) c⟩) ∧ (∃ L, H' = hap A L) ∧ a0F H' ∧
  r' = .tup [.mu (lid A 0) 0 (gproc n B c).cs.length none, hsV (gproc n B c).cs, Rv (dv n B c)]
section
variable {B : Nat → Nat → Rat} {K n c : Nat} (hrok : ∀ t i k, t ≤ c → Rok K ((a0m n B t).M i k)) (hrdv : ∀ t, t ≤ c → Rok K (dv n B t)) (hn : n ≤ 64 ∨ c ≤ 64) (hn2 : n ≤ 2097152) (hc : c ≤ 2097152) (hK : K < 2199023255552) {A : Heap} (hA : a0F A)
include hrok hrdv hn hn2 hc hK hA
theorem c1R : ∀ m, m ≤ n → a0k Pr a1a [.mu (lid A 0) 0 n none, .int .i64 c] (hap A (a0R (lid A 0) n 4 c none fun j k => Rv (B j k))) (redM m A (lid A 0) n c B)
  | 0, _ => (d0n hrok hrdv hn hn2 hc hK A).mono fun r' H' ⟨π, S, h1, h2, h3⟩ => by
    have hr := a5r (X := []) (n := n) (w := 4) (c := c) (oc := none) (S := fun j k => Rv (B j k)) hA (fun b hb => absurd hb (by simp)) fun _ _ _ _ => a5n _
    have hl : lid A 0 + n < (hap A (a0R (lid A 0) n 4 c none fun j k => Rv (B j k))).length := d0v A [] n 4 c none _
    have e1 := d6a A [] n 4 c none fun j k => Rv (B j k)
    simp only [List.length_nil, List.nil_append] at hr e1
    rw [← e1] at hr
    refine ⟨π, S, _, h1, hl, ?_, ?_, h3⟩
    · rw [h2]
      refine a9h (a2L fun i hi => ?_) fun j hj => ?_
      · rw [if_neg (by omega)]
      · rw [if_neg (by omega)]
    · rw [h2]
      exact c6a hl hr h1.lt fun j k _ _ => h1.cl j k
  | m + 1, hmn => by
    refine (c1R m (by omega)).frz ?_
    rintro hH r' H' ⟨π, S, L, h1, h3, rfl, h5, rfl⟩
    have hb : A.length ≤ lid A 0 := a1q A 0
    generalize lid A 0 = β at *
    have hc : ∀ a ∈ (Blk.mk 4 (fr c (S m))).flat, Cl a := a4d fun k _ => h1.cl m k
    have hget : (hm (hap A L) β n (fr n fun i => if π i < m then .sl 4 (fr c (S (π i))) else .mu (β + 1 + π i) 0 c none) (fun j => if j < m then none else some ⟨4, fr c (S j)⟩))[β + 1 + m]? = some (some ⟨4, fr c (S m)⟩) := by
      rw [a1R _ _ _ _ _ _ (by omega), if_neg (by omega), if_pos (by omega), show β + 1 + m - (β + 1) = m by omega, if_neg (Nat.lt_irrefl m)]
    refine ⟨β + 1 + m, ⟨4, fr c (S m)⟩, hget, ⟨Nat.zero_lt_succ _, hc⟩, ?_⟩
    have hfH : frzH (β + 1 + m) ⟨4, fr c (S m)⟩ (hap A L) = hap A ((frzL (β + 1 + m) ⟨4, fr c (S m)⟩ L).set (β + 1 + m - A.length) none) := by
      have := b1S hA (β + 1 + m - A.length) ⟨4, fr c (S m)⟩ L
      rwa [show lid A (β + 1 + m - A.length) = β + 1 + m by unfold lid; omega] at this
    refine ⟨π, S, (frzL (β + 1 + m) ⟨4, fr c (S m)⟩ L).set (β + 1 + m - A.length) none, h1, ?_, ?_, d3N h5 _ _, ?_⟩
    · rw [← hfH]; simp only [frzH, List.length_set, List.length_map]; exact h3
    · rw [e1R h3 (by omega), hfH]
      refine a9h ?_ fun j hj => ?_
      · unfold fr
        rw [List.map_map]
        refine List.map_congr_left fun i hi => ?_
        simp only [Function.comp]
        by_cases h : π i < m
        · rw [if_pos h, if_pos (by omega)]; simp only [frz]
        · rw [if_neg h]
          by_cases h2 : π i = m
          · rw [if_pos (by omega), h2]
            simp only [frz, if_true]
            rw [if_pos (show 0 + c ≤ (List.map (S m) (List.range c)).length by simp)]
            simp only [List.drop_zero]
            rw [List.take_of_length_le (by simp)]
          · rw [if_neg (by omega)]
            simp only [frz]
            rw [if_neg (by omega)]
      · by_cases hjm : j = m
        · rw [if_pos hjm, if_pos (by omega)]
        · rw [if_neg hjm]
          by_cases hlt : j < m
          · rw [if_pos hlt, if_pos (by omega)]; rfl
          · rw [if_neg hlt, if_neg (by omega)]
            simp only [Option.map_some, frzB]
            congr 2
            refine (List.map_congr_left (g := fun x => x) fun a ha => ?_).trans (List.map_id' _)
            obtain ⟨k, hk, rfl⟩ := d7w ha
            exact a3I (h1.cl j k)
    · simp only [frz, List.map_cons, List.map_nil]
      rw [if_neg (by omega)]
      have e1 := a3I (id := β + 1 + m) (b := ⟨4, fr c (S m)⟩) (b1c (gproc n B c).cs)
      have e2 := a3I (id := β + 1 + m) (b := ⟨4, fr c (S m)⟩) (a5n (dv n B c))
      rw [e1, e2]
theorem b7a : a0k Pr a1a [.mu (lid A 0) 0 n none, .int .i64 c] (hap A (a0R (lid A 0) n 4 c none fun j k => Rv (B j k))) (redV A n c B) := by
  refine (c1R hrok hrdv hn hn2 hc hK hA n (Nat.le_refl n)).mono ?_
  rintro r' H' ⟨π, S, L, h1, h3, rfl, h5, rfl⟩
  refine ⟨?_, e9a (a1q A 0) h3, h5, rfl⟩
  rw [a1R _ _ _ _ _ _ (by omega), if_pos rfl]
  congr 3
  refine a2L fun i hi => ?_
  rw [if_pos (h1.lt i hi)]
  unfold rvV
  congr 1
  exact a2L fun k hk => h1.at_ i k hi hk
end
section
variable {B : Nat → Nat → Rat} {e n c : Nat} (hB : Bd e B) (hn : n ≤ 64 ∨ c ≤ 64) (hn2 : n ≤ 2097152) (hc : c ≤ 2097152) (hK : KB e + 1 < 1099511627776) {A : Heap} (hA : a0F A)
include hB hn hn2 hc hK hA
theorem d3a : a0k Pr a1a [.mu (lid A 0) 0 n none, .int .i64 c] (hap A (a0R (lid A 0) n 4 c none fun j k => Rv (B j k))) (redV A n c B) :=
  b7a (e8C B hB hn) (e8B B hB hn) hn hn2 hc (by omega) hA
end
end Go.Abs
namespace Go.Abs
theorem e8e {A : Heap} {β : Nat} {x : Blk} (h : A[β]? = some (some x)) (L : Heap) : hrow (hap A L) β = some x := by
  unfold hrow hap
  rw [List.getElem?_append_left (a0h h), h]; rfl
theorem e9I {A : Heap} {β : Nat} {x : Blk} (h : A[β]? = some (some x)) (L : Heap) (len : Nat) (oc : Option Nat) : lenV (hap A L) (.mu β 0 len oc) = some (.int .i64 len) := by
  simp only [lenV, e8e h L]; rfl
theorem e9J {A : Heap} {β : Nat} {xs : List AV} (h : A[β]? = some (some ⟨1, xs⟩)) (L : Heap) {j len : Nat} (hj : j < len) (oc : Option Nat) (k : IntKind) : idxV (hap A L) 1 (.mu β 0 len oc) (.int k j) = some (.loc β j 0) := by
  rw [b4H _ _ _ _ _ _ _ _ (by omega) (by omega), e8e h L]; simp
theorem B_at {A : Heap} {β n : Nat} {f : Nat → AV} (h : A[β]? = some (some ⟨1, fr n f⟩)) (hc : ∀ j, j < n → (f j).cells = [f j]) (L : Heap) {j : Nat} (hj : j < n) : atV (hap A L) (.loc β j 0) = some [f j] := by
  rw [a9u, e8e h L]
  simp only [Option.bind_some, b7O]
  rw [if_pos hj, e1T hj, hc j hj]; rfl
end Go.Abs
namespace Go.Abs
/-- An entry as it stands. -/
def eg (v : List ZI) (i : Nat) : ZI := v.getD i ⟨false, []⟩
theorem e9p {v : List ZI} {i : Nat} (h : i < v.length) : eg v i = v[i] := by simp [eg, h]
theorem eg_z (v : List ZI) (i : Nat) : (eg v i).z = zg v i := rfl
def colR (b : List (List ZI)) (k n : Nat) : List ZI := (List.range n).map fun i => eg (mg b i) k
theorem a6G (b : List (List ZI)) (k n : Nat) : (colR b k n).length = n := by simp [colR]
theorem e2m (b : List (List ZI)) (k n : Nat) : colR b k (n + 1) = colR b k n ++ [eg (mg b n) k] := by simp [colR, List.range_succ]
/-- The columns, each with more behind it. -/
def a3G (b more : List (List ZI)) (m : Nat) : List (List ZI) := mat m fun k => colR b k b.length ++ mg more k
theorem d6s (l : List ZI) : ∀ a ∈ (Blk.mk 2 (l.map ZI.av)).flat, Cl a := a1H 2 ZI.av _ ZI.cl
theorem d1f (b more : List (List ZI)) {p m : Nat} (hb : ∀ i, (h : i < b.length) → m ≤ b[i].length) (hml : m ≤ more.length) (hmp : ∀ i, (h : i < more.length) → more[i].length = p)
    (hn : b.length + p ≤ 2097152) (hm : m ≤ 2097152) (hzb : Mok 17592186044416 b) (hzm : Mok 17592186044416 more) (H : Heap) :
    a0k Pr a5U [matV b, .int .i64 m, matV more] H fun r' H' => r' = .mu (lid H 0) 0 m none ∧ H' = hap H (a0R (lid H 0) m 4 (b.length + p) none fun j k => Rv (zg (mg (a3G b more m) j) k : Int)) := by
  refine a0k.introH c3i c3f (Nat.le_of_ble_eq_true rfl) fun hH => ?_
  have hbl := hzb.len
  refine Safe.rg rfl ?_
  simp only [a9X, E3, seval]
  refine Safe.rg rfl ?_
  simp only [a9W, E3, seval]
  refine Safe.nilrow 7 1 (by decide) (by simp only [E3, seval]) ?_
  refine Safe.rg rfl ?_
  simp only [a9V, E3, seval]
  refine Safe.lp rfl ?_
  refine Safe.keep [0, 1, 2, 7, 8] ?_
  try simp only [E3, seval]
  refine Safe.loopN (m) (fun i => [(0, matV b), (1, .int .i64 m), (2, matV more), (7, .mu (lid H 0) 0 i none), (8, .int .i64 i)]) (fun i => hap H [some ⟨1, (a3G b more i).map vecV⟩]) rfl rfl (fun i hi ih => ?_) ?_
  · have hlt : ((i : Int) < (m : Int)) = True := eq_true (by omega)
    have hiw : IntKind.wrap .i64 ((i : Int) + 1) = ((i + 1 : Nat) : Int) := by rw [a0a] <;> omega
    refine Safe.inLoop ?_
    refine Safe.rg rfl ?_
    simp only [a4L, hlt, E3, seval]
    refine Safe.cd rfl ?_
    simp only [E3, seval]
    refine Safe.rg rfl ?_
    simp only [a9U, E3, seval]
    refine Safe.nilrow 9 2 (by decide) (by simp only [E3, seval]) ?_
    refine Safe.rg rfl ?_
    simp only [a9T, E3, seval]
    refine Safe.lp rfl ?_
    refine Safe.keep [0, 1, 2, 7, 8, 9, 10] ?_
    simp only [E3, seval]
    refine Safe.loopN b.length (fun k => [(0, matV b), (1, .int .i64 m), (2, matV more), (7, .mu (lid H 0) 0 i none), (8, .int .i64 i), (9, .mu (lid H 1) 0 k none), (10, .int .i64 k)]) (fun k => hap H [some ⟨1, (a3G b more i).map vecV⟩, some ⟨2, (colR b i k).map ZI.av⟩]) rfl rfl (fun k hk ih2 => ?_) ?_
    · have hlt2 : ((k : Int) < (b.length : Int)) = True := eq_true (by omega)
      have hkw : IntKind.wrap .i64 ((k : Int) + 1) = ((k + 1 : Nat) : Int) := by rw [a0a] <;> omega
      have hbk := hb k hk
      refine Safe.inLoop ?_
      refine Safe.rg rfl ?_
      simp only [a4K, hlt2, E3, seval]
      refine Safe.cd rfl ?_
      simp only [E3, seval]
      refine Safe.rg rfl ?_
      simp only [a9S, a1W _ b _ k hk, a1h _ b[k] _ i (by omega), E3, seval]
      rw [b1A hH 1 (a1q H 1) ZI.cl (colR b i k) (eg (mg b k) i) (colR b i (k + 1)) (by rw [a6G]) rfl (by repeat (first | exact RC.nil | refine RC.none ?_ | refine RC.mo ?_ | refine RC.io ?_ | refine RC.row ZI.cl ?_ | refine RC.cons (a0r _) ?_ | refine RC.row a0g ?_ | refine RC.emp ?_ | refine RC.zero ?_ | refine RC.one (Z_cl _) ?_ | refine RC.one (ZI.cl _) ?_ | refine RC.one (a0g _) ?_)) (by rw [a3v hk, e9p (by omega)]; rfl) (e2m b i k) (by omega) (by omega)]
      simp only [E3, seval]
      refine Safe.rg rfl ?_
      simp only [a9R, hkw, E3, seval]
      refine Safe.keep [0, 1, 2, 7, 8, 9, 10] ?_
      simp only [E3, seval]
      exact ih2
    · refine Safe.inLoop ?_
      refine Safe.rg rfl ?_
      simp only [a4K, Int.lt_irrefl, E3, seval]
      refine Safe.cd rfl ?_
      simp only [E3, seval]
      have hmi : more[i].length = p := hmp i (by omega)
      have hmg : mg more i = more[i] := a3v (by omega)
      have h1 : ∀ env, appV H.length 2 32 false (.mu (lid H 1) 0 b.length none) (vecV more[i]) env (hap H [some ⟨1, (a3G b more i).map vecV⟩, some ⟨2, (colR b i b.length).map ZI.av⟩]) =
          some (.mu (lid H 1) 0 (b.length + p) none, scrub (lid H 1) env, hap H [some ⟨1, (a3G b more i).map vecV⟩, some ⟨2, (colR b i b.length ++ mg more i).map ZI.av⟩]) := by
        intro env
        have := b1Z H.length env H [some ⟨1, (a3G b more i).map vecV⟩, some ⟨2, (colR b i b.length).map ZI.av⟩] 2 32 false 1 b.length none (vecV more[i]) ((colR b i b.length).map ZI.av) (more[i].map ZI.av) hH rfl (by rw [List.length_map, a6G]) (a1q H 1)
          (a4v _ 2 _) (b1Y (by repeat (first | exact RC.nil | refine RC.none ?_ | refine RC.mo ?_ | refine RC.io ?_ | refine RC.row ZI.cl ?_ | refine RC.cons (a0r _) ?_ | refine RC.row a0g ?_ | refine RC.emp ?_ | refine RC.zero ?_ | refine RC.one (Z_cl _) ?_ | refine RC.one (ZI.cl _) ?_ | refine RC.one (a0g _) ?_))) (fun a ha => (d6s more[i] a ha).ref) (by rw [List.length_map]; omega) (by rw [List.length_map]; omega) rfl
        rw [hmg]
        simp only [a1s, Option.bind_none, List.length_map, List.set_cons_succ, List.set_cons_zero, ← List.map_append, hmi] at this
        exact this
      have h2 : ∀ env, appV H.length 1 24 false (.mu (lid H 0) 0 i none) (.mu (lid H 2) 0 1 (some 1)) env (hap H [some ⟨1, (a3G b more i).map vecV⟩, some ⟨2, (colR b i b.length ++ mg more i).map ZI.av⟩, some ⟨1, [.mu (lid H 1) 0 (b.length + p) none]⟩]) =
          some (.mu (lid H 0) 0 (i + 1) none, scrub (lid H 0) env, hap H [some ⟨1, (a3G b more i).map vecV ++ [.mu (lid H 1) 0 (b.length + p) none]⟩, some ⟨2, (colR b i b.length ++ mg more i).map ZI.av⟩, some ⟨1, [.mu (lid H 1) 0 (b.length + p) none]⟩]) := by
        intro env
        have h01 : lid H 1 ≠ lid H 0 := by simp [lid]
        have := b1Z H.length env H [some ⟨1, (a3G b more i).map vecV⟩, some ⟨2, (colR b i b.length ++ mg more i).map ZI.av⟩, some ⟨1, [.mu (lid H 1) 0 (b.length + p) none]⟩] 1 24 false 0 i none (.mu (lid H 2) 0 1 (some 1)) ((a3G b more i).map vecV) [.mu (lid H 1) 0 (b.length + p) none] hH rfl (by rw [List.length_map, a3G, a0n]) (a1q H 0)
          (d1E H _ 1 2 0 1 (some 1) [.mu (lid H 1) 0 (b.length + p) none] rfl (Nat.le_refl _)) (by
            intro j r hj a ha
            match j with
            | 0 => cases hj; exact (a1H 1 vecV _ a0g a ha).ref
            | 1 => cases hj; exact (d6s _ a ha).ref
            | 2 =>
              cases hj
              simp [Blk.flat, AV.cells] at ha
              subst ha
              exact .mu _ _ _ _ h01
            | j + 3 => simp at hj) (by
            intro a ha
            simp [AV.cells] at ha
            subst ha
            exact .mu _ _ _ _ h01) (by simp; omega) (by simp; omega) rfl
        simp only [a1s, Option.bind_none, List.length_cons, List.length_nil, Nat.zero_add, List.set_cons_succ, List.set_cons_zero] at this
        exact this
      refine Safe.rg rfl ?_
      simp only [a9Q, a1W _ more _ i (by omega), h1, h2, E3, seval]
      refine Safe.freeze 1 hH rfl rfl (d6s _) ?_
      have hfz : ((a3G b more i).map vecV ++ [AV.mu (lid H 1) 0 (b.length + p) none]).map (frz (lid H 1) ⟨2, (colR b i b.length ++ mg more i).map ZI.av⟩) = (a3G b more (i + 1)).map vecV := by
        rw [List.map_append, a5F, List.map_cons, List.map_nil, b9A H 1 (colR b i b.length ++ mg more i) _ none (by rw [List.length_append, a6G, hmg, hmi])]
        unfold a3G
        rw [b7s, List.map_append]; rfl
      have hfy : [AV.mu (lid H 1) 0 (b.length + p) none].map (frz (lid H 1) ⟨2, (colR b i b.length ++ mg more i).map ZI.av⟩) = [vecV (colR b i b.length ++ mg more i)] := by
        rw [List.map_cons, List.map_nil, b9A H 1 (colR b i b.length ++ mg more i) _ none (by rw [List.length_append, a6G, hmg, hmi])]
      simp only [hfz, hfy, a2x, E3, seval]
      refine Safe.rg rfl ?_
      simp only [a7A, hiw, E3, seval]
      refine Safe.keep [0, 1, 2, 7, 8] ?_
      simp only [E3, seval]
      refine Safe.drop2 hH rfl (by simp only [List.all_cons, List.all_nil, E3, seval]) (by repeat (first | exact RC.nil | refine RC.none ?_ | refine RC.mo ?_ | refine RC.io ?_ | refine RC.row ZI.cl ?_ | refine RC.cons (a0r _) ?_ | refine RC.row a0g ?_ | refine RC.emp ?_ | refine RC.zero ?_ | refine RC.one (Z_cl _) ?_ | refine RC.one (ZI.cl _) ?_ | refine RC.one (a0g _) ?_)) ?_
      refine Safe.drop1 hH rfl (by simp only [List.all_cons, List.all_nil, E3, seval]) (by repeat (first | exact RC.nil | refine RC.none ?_ | refine RC.mo ?_ | refine RC.io ?_ | refine RC.row ZI.cl ?_ | refine RC.cons (a0r _) ?_ | refine RC.row a0g ?_ | refine RC.emp ?_ | refine RC.zero ?_ | refine RC.one (Z_cl _) ?_ | refine RC.one (ZI.cl _) ?_ | refine RC.one (a0g _) ?_)) ?_
      exact ih
  · refine Safe.inLoop ?_
    refine Safe.rg rfl ?_
    simp only [a4L, Int.lt_irrefl, E3, seval]
    refine Safe.cd rfl ?_
    simp only [E3, seval]
    refine Safe.freeze 0 hH rfl rfl (a1H 1 vecV _ a0g) ?_
    refine Safe.keep [7] ?_
    simp only [d0L H 0 (a3G b more m) m none (by rw [a3G, a0n]), E3, seval]
    refine Safe.dropC (L := []) hH rfl (by simp only [List.all_cons, List.all_nil, E3, seval]) RC.nil ?_
    refine Safe.rg rfl ?_
    simp only [a7z, E3, seval]
    have hz : Mok 17592186044416 (a3G b more m) := d5z hm fun i hi => ⟨by
      rw [List.length_append, a6G, a3v (by omega), hmp i (by omega)]; omega, fun x hx => by
        rcases List.mem_append.1 hx with h | h
        · simp only [colR, List.mem_map, List.mem_range] at h
          obtain ⟨t, ht, rfl⟩ := h
          rw [a3v ht, e9p (by have := hb t ht; omega)]
          exact (hzb.get ht).el _ (List.getElem_mem _)
        · rw [a3v (by omega)] at h
          exact (hzm.get (by omega)).el _ h⟩
    have hc : ∀ i, (h : i < (a3G b more m).length) → (a3G b more m)[i].length = b.length + p := fun i h => by
      have hi : i < m := by simpa [a3G, a0n] using h
      have : (a3G b more m)[i] = colR b i b.length ++ mg more i := a8W h
      rw [this, List.length_append, a6G, a3v (by omega), hmp i (by omega)]
    have hlm : (a3G b more m).length = m := by rw [a3G, a0n]
    have hcc := d8v (a3G b more m) hc (by omega) hn hz
    rw [hlm] at hcc
    refine (hcc _).mono ?_
    rintro r' H' ⟨rfl, rfl⟩
    simp only [E3, seval]
    refine Safe.rt rfl ?_
    simp only [E3, seval]
    rw [a1F]
    exact ⟨rfl, rfl⟩
end Go.Abs
namespace Go.Abs
section
variable (b : List (List ZI)) (v : List ZI)
theorem e5G {m : Nat} {f : Nat → List ZI} {i : Nat} (h : ¬ i < m) : mg (mat m f) i = [] := by
  unfold mg; rw [List.getD_eq_getElem?_getD, List.getElem?_eq_none (by rw [a0n]; omega)]; rfl
theorem e5X {k n t : Nat} (h : t < n) : zg (colR b k n) t = zg (mg b t) k := by
  have h2 : t < (colR b k n).length := by rw [a6G]; exact h
  rw [b0k h2]; simp [colR, eg_z]
variable {e : Nat} (hm : Mok e b) (hv : Vok e v)
include hm hv
end
end Go.Abs
namespace Go.Abs
def b7c (f : Nat → Int) : Nat → Int
  | 0 => 1
  | n + 1 => b7c f n * f n
theorem d6Q {f : Nat → Int} : ∀ {n : Nat}, (∀ i, i < n → f i ≠ 0) → b7c f n ≠ 0
  | 0, _ => by simp [b7c]
  | n + 1, h => Int.mul_ne_zero (d6Q fun i hi => h i (by omega)) (h n (by omega))
theorem d3b {f : Nat → Int} : ∀ {n i : Nat}, i < n → f i ∣ b7c f n
  | 0, _, h => absurd h (by omega)
  | n + 1, i, h => by
    by_cases e : i = n
    · subst e; exact Int.dvd_mul_left ..
    · exact Int.dvd_trans (d3b (by omega)) (Int.dvd_mul_right ..)
theorem d6R {f : Nat → Int} {K : Nat} : ∀ {n : Nat}, (∀ i, i < n → (f i).natAbs < LB ^ K) → (b7c f n).natAbs < LB ^ (n * K + 1)
  | 0, _ => by rw [Nat.zero_mul]; exact Nat.lt_of_lt_of_eq (show 1 < LB by decide) (Nat.pow_one LB).symm
  | n + 1, h => by
    have h1 := d6R (n := n) fun i hi => h i (by omega)
    have h2 := h n (by omega)
    rw [b7c, Int.natAbs_mul, show (n + 1) * K + 1 = (n * K + 1) + K by rw [Nat.succ_mul]; omega, Nat.pow_add]
    rcases Nat.eq_zero_or_pos (b7c f n).natAbs with h0 | h0
    · rw [h0, Nat.zero_mul]; exact Nat.mul_pos (a7H _) (a7H _)
    · exact Nat.mul_lt_mul_of_le_of_lt (Nat.le_of_lt h1) h2 (a7H _)
/-- One number of the solution, from the whole row. -/
def wI (m : Nat) (B : Nat → Nat → Rat) (c i k : Nat) : Int := a1d (outI ((a0m m B c).M i) c) c k
end Go.Abs
namespace Go.Abs
theorem e4y (H : Heap) (cs : List Nat) (i : Nat) (h : i < cs.length) : idxV H 1 (hsV cs) (.int .i64 i) = some (.ro (intV (cs.getD i 0)) 0) := e5I H cs .i64 h
end Go.Abs
namespace Go.Abs
theorem d7i : 65 * (KB 1048576 + 2) < 10000000000 := by decide
end Go.Abs
namespace Go.Abs
theorem d6E {m n : Nat} {B : Nat → Nat → Rat} (hBi : ∀ i k, ∃ z : Int, B i k = z) {i k : Nat} (hi : i < (gproc m B n).cs.length) (hk : k < n) :
    wI m B n i ((gproc m B n).cs.getD i 0) ≠ 0 ∧ ((wI m B n i k : Int) : Rat) = (wI m B n i ((gproc m B n).cs.getD i 0) : Rat) * (a0m m B n).M i k := by
  have hh : (gproc m B n).cs.getD i 0 < n := a2M hi
  have hone : (a0m m B n).M i ((gproc m B n).cs.getD i 0) = 1 := by
    have := c6D (n := m) hBi n i i hi hi
    rwa [if_pos rfl] at this
  unfold wI
  generalize (gproc m B n).cs.getD i 0 = h at *
  have hL := b7v ((a0m m B n).M i) n
  have h1 := a4s (w := outI ((a0m m B n).M i) n) hh
  have h2 := a4s (w := outI ((a0m m B n).M i) n) hk
  have o1 := d0s ((a0m m B n).M i) hh
  have o2 := d0s ((a0m m B n).M i) hk
  rw [h1, hone, Rat.intCast_mul] at o1
  rw [h2, Rat.intCast_mul] at o2
  generalize sgF (outI ((a0m m B n).M i) n) n * (a1v (outI ((a0m m B n).M i) n) n : Int) = s at *
  generalize a1d (outI ((a0m m B n).M i) n) n h = p at *
  generalize a1d (outI ((a0m m B n).M i) n) n k = q at *
  have hLr : ((a1M ((a0m m B n).M i) n : Nat) : Rat) ≠ 0 := by
    intro h
    have : (a1M ((a0m m B n).M i) n) = 0 := by exact_mod_cast h
    omega
  generalize ((a1M ((a0m m B n).M i) n : Nat) : Rat) = l at *
  have hp : p ≠ 0 := fun h => hLr (by rw [h] at o1; have : ((0 : Int) : Rat) = 0 := rfl; rw [this] at o1; grind)
  have hs : (s : Rat) ≠ 0 := fun h => hLr (by rw [h] at o1; grind)
  refine ⟨hp, ?_⟩
  generalize (a0m m B n).M i k = x at *
  have : (s : Rat) * ((q : Rat) - (p : Rat) * x) = 0 := by grind
  rcases Rat.mul_eq_zero.1 this with h | h
  · exact absurd h hs
  · grind
/-- Which head stands in a column. -/
def hpos (cs : List Nat) (k : Nat) : Option Nat := (List.range cs.length).find? fun i => cs.getD i 0 == k
theorem a4C {cs : List Nat} {k i : Nat} (h : hpos cs k = some i) : i < cs.length ∧ cs.getD i 0 = k := by
  have h1 := List.find?_some h
  have h2 := List.mem_of_find?_eq_some h
  exact ⟨List.mem_range.1 h2, by simpa using h1⟩
theorem b1e {cs : List Nat} {k : Nat} (h : hpos cs k = none) {i : Nat} (hi : i < cs.length) : cs.getD i 0 ≠ k := by
  have := List.find?_eq_none.1 h i (List.mem_range.2 hi)
  simpa using this
def InjL (cs : List Nat) : Prop := ∀ i j, i < cs.length → j < cs.length → cs.getD i 0 = cs.getD j 0 → i = j
theorem e1G {cs : List Nat} (hinj : InjL cs) {i : Nat} (hi : i < cs.length) : hpos cs (cs.getD i 0) = some i := by
  cases h : hpos cs (cs.getD i 0) with
  | none => exact absurd rfl (b1e h hi)
  | some j =>
    obtain ⟨h1, h2⟩ := a4C h
    rw [hinj j i h1 hi h2]
theorem d5Z {m n : Nat} {B : Nat → Nat → Rat} (hBi : ∀ i k, ∃ z : Int, B i k = z) : InjL (gproc m B n).cs := by
  intro i j hi hj h
  have h1 := c6D (n := m) hBi n i i hi hi
  have h2 := c6D (n := m) hBi n i j hi hj
  rw [← h, h1, if_pos rfl] at h2
  by_cases e : i = j
  · exact e
  · rw [if_neg e] at h2; exact absurd h2 (by decide)
/-- The columns without a head. -/
def a0s (cs : List Nat) (t : Nat) : List Nat := (List.range t).filter fun k => (hpos cs k).isNone
theorem d6c (cs : List Nat) : a0s cs 0 = [] := rfl
theorem b1T {cs : List Nat} {t : Nat} (h : hpos cs t = none) : a0s cs (t + 1) = a0s cs t ++ [t] := by
  unfold a0s; rw [List.range_succ, List.filter_append]; simp [h]
theorem c6i {cs : List Nat} {t i : Nat} (h : hpos cs t = some i) : a0s cs (t + 1) = a0s cs t := by
  unfold a0s; rw [List.range_succ, List.filter_append]; simp [h]
theorem b1f (cs : List Nat) (t : Nat) : (a0s cs t).length ≤ t := by
  have := List.length_filter_le (fun k => (hpos cs k).isNone) (List.range t)
  rwa [List.length_range] at this
theorem c9a {cs : List Nat} {t k : Nat} (h : k ∈ a0s cs t) : k < t ∧ hpos cs k = none := by
  unfold a0s at h
  rw [List.mem_filter] at h
  exact ⟨List.mem_range.1 h.1, by simpa using h.2⟩
section
variable (m n : Nat) (B : Nat → Nat → Rat)
def lamI (i : Nat) : Int := wI m B n i ((gproc m B n).cs.getD i 0)
def denN (t : Nat) : Int := b7c (lamI m n B) t
/-- The heads' product. -/
def denR : Int := denN m n B (gproc m B n).cs.length
def qN (f i : Nat) : Int := denR m n B / lamI m n B i * wI m B n i f
/-- The row of a column without a head; of the a1c, those of P are there. -/
def xP (P : Nat → Bool) (f k : Nat) : Int := if k = f then denR m n B else match hpos (gproc m B n).cs k with
  | some i => if P i then -(qN m n B f i) else 0
  | none => 0
def yP (P : Nat → Bool) (f k : Nat) : Rat := if k = f then 1 else match hpos (gproc m B n).cs k with
  | some i => if P i then -((a0m m B n).M i f) else 0
  | none => 0
def yesP : Nat → Bool := fun _ => true
def b4l (t : Nat) : List (List ZI) := (a0s (gproc m B n).cs t).map fun f => vec n (xP m n B yesP f)
def a1Q : Nat → Nat → Rat := fun j k => if j < (a0s (gproc m B n).cs n).length ∧ k < n then yP m n B yesP ((a0s (gproc m B n).cs n).getD j 0) k else 0
end
section
variable {m n : Nat} {B : Nat → Nat → Rat} (hBi : ∀ i k, ∃ z : Int, B i k = z)
theorem e6c (f : Nat) : xP m n B (fun _ => false) f = updF (fun _ => 0) f (denR m n B) := by
  funext k; unfold xP updF
  split
  · rfl
  · split <;> rfl
theorem e6a (f : Nat) (k : Nat) : yP m n B (fun _ => false) f k = if k = f then 1 else 0 := by
  unfold yP
  split
  · rfl
  · split <;> rfl
include hBi
theorem e6b {P Q : Nat → Bool} {f i : Nat} (hf : hpos (gproc m B n).cs f = none) (hi : i < (gproc m B n).cs.length) (hQ : ∀ j, Q j = (P j || j == i)) :
    updF (xP m n B P f) ((gproc m B n).cs.getD i 0) (-(qN m n B f i)) = xP m n B Q f := by
  have hinj := d5Z (m := m) (n := n) hBi
  funext k
  unfold updF xP
  have hne := b1e hf hi
  by_cases e : k = (gproc m B n).cs.getD i 0
  · subst e
    rw [if_pos rfl, if_neg hne, e1G hinj hi]
    simp [hQ]
  · rw [if_neg e]
    by_cases e2 : k = f
    · rw [if_pos e2, if_pos e2]
    · rw [if_neg e2, if_neg e2]
      cases h : hpos (gproc m B n).cs k with
      | none => rfl
      | some j =>
        obtain ⟨h1, h2⟩ := a4C h
        have : j ≠ i := fun q => e (by rw [← h2, q])
        simp [hQ, this]
theorem e5Z {P Q : Nat → Bool} {f i : Nat} (hf : hpos (gproc m B n).cs f = none) (hi : i < (gproc m B n).cs.length) (hQ : ∀ j, Q j = (P j || j == i)) (k : Nat) :
    (if k = (gproc m B n).cs.getD i 0 then -((a0m m B n).M i f) else yP m n B P f k) = yP m n B Q f k := by
  have hinj := d5Z (m := m) (n := n) hBi
  unfold yP
  have hne := b1e hf hi
  by_cases e : k = (gproc m B n).cs.getD i 0
  · subst e
    rw [if_pos rfl, if_neg hne, e1G hinj hi]
    simp [hQ]
  · rw [if_neg e]
    by_cases e2 : k = f
    · rw [if_pos e2, if_pos e2]
    · rw [if_neg e2, if_neg e2]
      cases h : hpos (gproc m B n).cs k with
      | none => rfl
      | some j =>
        obtain ⟨h1, h2⟩ := a4C h
        have : j ≠ i := fun q => e (by rw [← h2, q])
        simp [hQ, this]
omit hBi in
theorem e8o {P : Nat → Bool} (f : Nat) (hP : ∀ i, i < (gproc m B n).cs.length → P i = true) : xP m n B P f = xP m n B yesP f := by
  funext k; unfold xP
  split
  · rfl
  · cases h : hpos (gproc m B n).cs k with
    | none => rfl
    | some i => simp [hP i (a4C h).1, yesP]
omit hBi in
theorem e8k {P : Nat → Bool} (f : Nat) (hP : ∀ i, i < (gproc m B n).cs.length → P i = true) (k : Nat) : yP m n B P f k = yP m n B yesP f k := by
  unfold yP
  split
  · rfl
  · cases h : hpos (gproc m B n).cs k with
    | none => rfl
    | some i => simp [hP i (a4C h).1, yesP]
theorem e1v {i : Nat} (hi : i < (gproc m B n).cs.length) : lamI m n B i ≠ 0 := (d6E hBi hi (a2M hi)).1
theorem d6q : denR m n B ≠ 0 := d6Q fun i hi => e1v hBi hi
theorem e8G {f i : Nat} (hi : i < (gproc m B n).cs.length) : denR m n B * wI m B n i f = lamI m n B i * qN m n B f i := by
  obtain ⟨c, hc⟩ := d3b (f := lamI m n B) hi
  have h0 := e1v hBi hi
  unfold qN
  have hc' : denR m n B = lamI m n B i * c := hc
  rw [hc', Int.mul_ediv_cancel_left _ h0, Int.mul_assoc]
theorem e8E {f i : Nat} (hi : i < (gproc m B n).cs.length) (hf : f < n) : ((qN m n B f i : Int) : Rat) = (denR m n B : Rat) * (a0m m B n).M i f := by
  have h1 := congrArg (fun z : Int => (z : Rat)) (e8G hBi (f := f) hi)
  obtain ⟨h0, h2⟩ := d6E hBi hi hf
  simp only [Rat.intCast_mul] at h1
  rw [h2] at h1
  have h0r : ((lamI m n B i : Int) : Rat) ≠ 0 := fun h => h0 (Rat.intCast_inj.1 (by rw [← lamI, h]; rfl))
  have e : (wI m B n i ((gproc m B n).cs.getD i 0) : Rat) = (lamI m n B i : Rat) := rfl
  rw [e] at h1
  generalize ((lamI m n B i : Int) : Rat) = p at *
  generalize ((qN m n B f i : Int) : Rat) = q at *
  generalize ((denR m n B : Int) : Rat) = d at *
  have : p * (q - d * (a0m m B n).M i f) = 0 := by grind
  rcases Rat.mul_eq_zero.1 this with h | h
  · exact absurd h h0r
  · grind
theorem xy {P : Nat → Bool} {f : Nat} (hf : f < n) (k : Nat) : ((xP m n B P f k : Int) : Rat) = (denR m n B : Rat) * yP m n B P f k := by
  unfold xP yP
  split
  · grind
  · cases h : hpos (gproc m B n).cs k with
    | none => simp
    | some i =>
      simp only
      split
      · rw [Rat.intCast_neg, e8E hBi (a4C h).1 hf]; grind
      · simp
theorem d6z : Bm (b4l m n B n) = a1x (denR m n B : Rat) (a1Q m n B) := by
  funext j k
  unfold Bm a1x a1Q b4l
  by_cases hj : j < (a0s (gproc m B n).cs n).length
  · have hg : mg ((a0s (gproc m B n).cs n).map fun f => vec n (xP m n B yesP f)) j = vec n (xP m n B yesP ((a0s (gproc m B n).cs n).getD j 0)) := by
      rw [a3v (by rw [List.length_map]; exact hj), List.getElem_map, List.getD_eq_getElem?_getD, List.getElem?_eq_getElem hj]; rfl
    have hm : (a0s (gproc m B n).cs n).getD j 0 < n := by
      rw [List.getD_eq_getElem?_getD, List.getElem?_eq_getElem hj]
      exact (c9a (List.getElem_mem hj)).1
    rw [hg]
    by_cases hk : k < n
    · rw [if_pos ⟨hj, hk⟩, c7l hk, xy hBi hm]
    · rw [if_neg (fun h => hk h.2)]
      have : zg (vec n (xP m n B yesP ((a0s (gproc m B n).cs n).getD j 0))) k = 0 := by
        unfold zg; rw [List.getD_eq_getElem?_getD, List.getElem?_eq_none (by rw [a0f]; omega)]; rfl
      rw [this]; simp
  · rw [if_neg (fun h => hj h.1)]
    have : mg ((a0s (gproc m B n).cs n).map fun f => vec n (xP m n B yesP f)) j = [] := by
      unfold mg; rw [List.getD_eq_getElem?_getD, List.getElem?_eq_none (by rw [List.length_map]; omega)]; rfl
    have z0 : zg ([] : List ZI) k = 0 := rfl
    rw [this, z0]; simp
end
/-- The steps do not see a factor. -/
theorem d4L {s : Rat} (hs : s ≠ 0) (k n : Nat) (N : Nat → Nat → Rat) : a3n k (a1x s N) n = a3n k N n := by
  have h1 := (a2g hs k N n).1
  unfold a3n
  rw [h1]
  refine e1f fun i hi => ?_
  have : (a0m k (a1x s N) n).M i = (a0m k N n).M i := funext fun t => by rw [d4u hs, if_pos hi]
  rw [this]
end Go.Abs
namespace Go.Abs
theorem d4n {e : Nat} {B : Nat → Nat → Rat} (hB : Bd e B) : ∀ i k, ∃ z : Int, B i k = z := fun i k => by obtain ⟨z, h, _⟩ := hB i k; exact ⟨z, h⟩
theorem a9g (l : Int) : ∀ t : Nat, ((l ^ t : Int) : Rat) = (l : Rat) ^ t
  | 0 => by simp
  | t + 1 => by rw [Int.pow_succ, Rat.pow_succ, Rat.intCast_mul, a9g l t]
theorem a5S {l : Int} (h : l ≠ 0) : (l : Rat) ≠ 0 := fun e => h (Rat.intCast_inj.1 (by rw [e]; rfl))
section
variable {m n e : Nat} {B : Nat → Nat → Rat} (hB : Bd e B) (hm : m ≤ 64) (hn : n ≤ 64)
/-- How many columns have no head. -/
def a1j (m n : Nat) (B : Nat → Nat → Rat) : Nat := (a0s (gproc m B n).cs n).length
omit hB hm hn in
theorem a8K : a1j m n B ≤ n := b1f _ _
include hB hm
theorem d0t : ∃ l : Int, l ≠ 0 ∧ l.natAbs ≤ LB ^ KB e ∧ Bd (KB e) (a1x (l : Rat) (a1Q m n B)) := by
  have hBi := d4n hB
  have hok := b1P (n := m) hBi n
  have hBd : Bd e (a0m m B n).s.B := by rw [a0M]; exact hB.gproc n
  have hl := Nat.le_trans hok.g.len hm
  obtain ⟨l, hl1, hl2⟩ := c3z hok hl hBd
  refine ⟨l, fun h => a9e hok.g.piv (by rw [hl1, h]; rfl), hl2, fun j k => ?_⟩
  have hone : 1 ≤ LB ^ KB e := Nat.one_le_iff_ne_zero.2 (by have := a7H (KB e); omega)
  unfold a1x a1Q
  by_cases hjk : j < (a0s (gproc m B n).cs n).length ∧ k < n
  · rw [if_pos hjk]
    unfold yP
    split
    · exact ⟨l, by grind, hl2⟩
    · cases h : hpos (gproc m B n).cs k with
      | none => exact ⟨0, by simp, by simp⟩
      | some i =>
        simp only [yesP, if_true]
        obtain ⟨z, hz, hz1⟩ := d0S hok hl hBd i ((a0s (gproc m B n).cs n).getD j 0)
        rw [hl1] at hz
        exact ⟨-z, by rw [Rat.intCast_neg, ← hz]; grind, by rw [Int.natAbs_neg]; exact hz1⟩
  · rw [if_neg hjk]; exact ⟨0, by simp, by simp⟩
include hn
theorem e3H (t i k : Nat) (ht : t ≤ n) : Rok (2 * KB (KB e)) ((a0m (a1j m n B) (a1Q m n B) t).M i k) := by
  obtain ⟨l, h0, h1, h2⟩ := d0t (n := n) hB hm
  have hl0 := a5S h0
  have hk := a8K (m := m) (n := n) (B := B)
  have hs := d4u hl0 (a1j m n B) (a1Q m n B) t i k
  obtain ⟨s1, s2⟩ := e5V (n := a1j m n B) h2 t i k (.inl (by omega))
  have hKK : KB e + KB (KB e) < 2 * KB (KB e) := by unfold KB; omega
  have hlt : LB ^ KB (KB e) < LB ^ (2 * KB (KB e)) := Nat.pow_lt_pow_right (by decide) (by unfold KB; omega)
  by_cases hi : i < (gproc (a1j m n B) (a1Q m n B) t).cs.length
  · rw [if_pos hi] at hs
    rw [← hs]
    exact ⟨by omega, by omega⟩
  · rw [if_neg hi] at hs
    generalize (a0m (a1j m n B) (a1Q m n B) t).M i k = q at *
    generalize (a0m (a1j m n B) (a1x (l : Rat) (a1Q m n B)) t).M i k = p at *
    have hd : p.den ≠ 0 := p.den_nz
    have e1 : (((l * (p.den : Int) : Int)) : Rat) * q = (p.num : Int) := by
      have hp : p = (p.num : Rat) / (p.den : Rat) := by conv => lhs; rw [← Rat.mkRat_self p, Rat.mkRat_eq_div]
      have hdr : ((p.den : Nat) : Rat) ≠ 0 := by exact_mod_cast hd
      rw [Rat.intCast_mul]
      have e2 : (((p.den : Nat) : Int) : Rat) = ((p.den : Nat) : Rat) := rfl
      rw [e2]
      generalize (p.den : Rat) = d at *
      generalize (p.num : Rat) = z at *
      generalize (l : Rat) = l' at *
      grind
    have hne : (((l * (p.den : Int) : Int)) : Rat) ≠ 0 := a5S (Int.mul_ne_zero h0 (by omega))
    obtain ⟨g1, g2⟩ := b7b hne e1
    have g3 : (l * (p.den : Int)).natAbs ≤ LB ^ (KB e + KB (KB e)) := by
      rw [Int.natAbs_mul, Int.natAbs_natCast, Nat.pow_add]
      exact Nat.mul_le_mul h1 s2
    have hlt2 : LB ^ (KB e + KB (KB e)) < LB ^ (2 * KB (KB e)) := Nat.pow_lt_pow_right (by decide) hKK
    exact ⟨by omega, by omega⟩
theorem e3I (t : Nat) (ht : t ≤ n) : Rok (2 * KB (KB e)) (dv (a1j m n B) (a1Q m n B) t) := by
  obtain ⟨l, h0, h1, h2⟩ := d0t (n := n) hB hm
  have hl0 := a5S h0
  have hk := a8K (m := m) (n := n) (B := B)
  have hs := e2a hl0 (a1j m n B) (a1Q m n B) t
  obtain ⟨z, hz, hz1⟩ := e9q (n := a1j m n B) h2 t (.inl (by omega))
  rw [hz, ← a9g] at hs
  have hne : ((l ^ t : Int) : Rat) ≠ 0 := a5S (Int.pow_ne_zero h0)
  obtain ⟨g1, g2⟩ := b7b hne hs.symm
  have g3 : (l ^ t).natAbs ≤ LB ^ (KB e * t) := by
    rw [Int.natAbs_pow, Nat.pow_mul]
    exact Nat.pow_le_pow_left h1 t
  have hkt : KB e * t ≤ KB e * 64 := Nat.mul_le_mul_left _ (by omega)
  have hlt : LB ^ KB (KB e) < LB ^ (2 * KB (KB e)) := Nat.pow_lt_pow_right (by decide) (by unfold KB; omega)
  have hlt2 : LB ^ (KB e * t) < LB ^ (2 * KB (KB e)) := Nat.pow_lt_pow_right (by decide) (by unfold KB at *; omega)
  exact ⟨by omega, by omega⟩
theorem d5o {i : Nat} (hi : i < (gproc (a1j m n B) (a1Q m n B) n).cs.length) : Sz ((a0m (a1j m n B) (a1Q m n B) n).M i) n (KB (KB e) + 1) := by
  obtain ⟨l, h0, h1, h2⟩ := d0t (n := n) hB hm
  have hl0 := a5S h0
  have hk := a8K (m := m) (n := n) (B := B)
  have := M_sz (n := a1j m n B) (c := n) h2 (by omega) i
  have e : (a0m (a1j m n B) (a1x (l : Rat) (a1Q m n B)) n).M i = (a0m (a1j m n B) (a1Q m n B) n).M i := funext fun k => by rw [d4u hl0, if_pos hi]
  rwa [e] at this
omit hn in
theorem e1w {i k : Nat} (hk : k < n) : (wI m B n i k).natAbs < LB ^ (KB e + 1) := Nat.lt_of_le_of_lt (b7d hk) (d6U (M_sz hB hm i) hk)
omit hn in
theorem e2j {t : Nat} (ht : t ≤ (gproc m B n).cs.length) : (denN m n B t).natAbs < LB ^ (t * (KB e + 1) + 1) := d6R fun j hj => e1w hB hm (a2M (by omega))
omit hB hn in
theorem e6t : (gproc m B n).cs.length ≤ 64 := Nat.le_trans (a2R (n := m) (B := B) n).len hm
omit hn in
theorem d6r : (denR m n B).natAbs < LB ^ (64 * (KB e + 1) + 1) := Nat.lt_of_lt_of_le (e2j hB hm (Nat.le_refl _)) (lbm (by have := Nat.mul_le_mul_right (KB e + 1) (e6t (n := n) (B := B) hm); omega))
omit hn in
theorem e8F {f i : Nat} (hf : f < n) : (qN m n B f i).natAbs < LB ^ (65 * (KB e + 2)) := by
  unfold qN
  have h1 := Nat.lt_of_le_of_lt (Int.natAbs_ediv_le_natAbs (denR m n B) (lamI m n B i)) (d6r hB hm)
  have h2 := e1w hB hm (i := i) hf
  have h3 : LB ^ (64 * (KB e + 1) + 1 + (KB e + 1)) ≤ LB ^ (65 * (KB e + 2)) := lbm (by omega)
  refine Nat.lt_of_lt_of_le ?_ h3
  rw [Int.natAbs_mul, Nat.pow_add]
  rcases Nat.eq_zero_or_pos (denR m n B / lamI m n B i).natAbs with h0 | h0
  · rw [h0, Nat.zero_mul]; exact Nat.mul_pos (a7H _) (a7H _)
  · exact Nat.mul_lt_mul_of_le_of_lt (Nat.le_of_lt h1) h2 (a7H _)
omit hn in
theorem e9M {P : Nat → Bool} {f : Nat} (hf : f < n) (k : Nat) : (xP m n B P f k).natAbs < LB ^ (65 * (KB e + 2)) := by
  unfold xP
  split
  · exact Nat.lt_of_lt_of_le (d6r hB hm) (lbm (by omega))
  · cases h : hpos (gproc m B n).cs k with
    | none => simp only [Int.natAbs_zero]; exact a7H _
    | some i =>
      simp only
      split
      · rw [Int.natAbs_neg]; exact e8F hB hm hf
      · simp only [Int.natAbs_zero]; exact a7H _
theorem d6V {t : Nat} (ht : t ≤ n) : Mok (65 * (KB e + 2)) (b4l m n B t) := by
  refine ⟨by rw [b4l, List.length_map]; have := b1f (gproc m B n).cs t; omega, fun v hv => ?_⟩
  obtain ⟨f, hf, rfl⟩ := List.mem_map.1 hv
  have := (c9a hf).1
  exact c3J (by omega) fun i _ => e9M hB hm (by omega) i
theorem e3K : ∀ i, i < (gproc (a1j m n B) (Bm (b4l m n B n)) n).cs.length → ∀ t, t < n → (F0s (a1j m n B) (Bm (b4l m n B n)) n i t).natAbs < LB ^ (KB (KB e) + 1) := by
  intro i hi t ht
  obtain ⟨l, h0, h1, h2⟩ := d0t (n := n) hB hm
  have hl0 := a5S h0
  have hBi := d4n hB
  have hd0 := d6q (m := m) (n := n) hBi
  have hk := a8K (m := m) (n := n) (B := B)
  have hXb := d6A (d6V hB hm hn (Nat.le_refl n))
  have hXe := d6z (m := m) (n := n) hBi
  have hcsX := (a2g (a5S hd0) (a1j m n B) (a1Q m n B) n).1
  have hcs2 := (a2g hl0 (a1j m n B) (a1Q m n B) n).1
  have hil : i < (gproc (a1j m n B) (a1Q m n B) n).cs.length := by rw [hXe, hcsX] at hi; exact hi
  have hir : i < a1j m n B := Nat.lt_of_lt_of_le hil (a2R (n := a1j m n B) (B := a1Q m n B) n).len
  have key : ∀ k, k < n → F0s (a1j m n B) (Bm (b4l m n B n)) n i k = F0s (a1j m n B) (a1x (l : Rat) (a1Q m n B)) n i k := by
    intro k hk2
    have hz1 := fun k => (c9e _ hXb (show a1j m n B ≤ 64 by omega) n k hir).1
    have hz2 := fun k => (c9e _ h2 (show a1j m n B ≤ 64 by omega) n k hir).1
    have e1 := fun k => e2N (a5S hd0) (a1j m n B) (a1Q m n B) n i k
    have e2 := fun k => e2N hl0 (a1j m n B) (a1Q m n B) n i k
    generalize ((gproc (a1j m n B) (a1Q m n B) n).cs.take i).length + 1 = x at *
    unfold F0s
    refine d0q (a := l ^ x) (b := denR m n B ^ x) (Int.pow_ne_zero h0) (Int.pow_ne_zero hd0) ?_ (fun j _ => ?_) hk2
    · exact b4i b7L (by rw [a0M]; exact hi) (b1J hXb (by omega) hi)
    · refine Rat.intCast_inj.1 ?_
      rw [Rat.intCast_mul, Rat.intCast_mul, hz1, hz2, hXe, e1, e2, a9g, a9g]
      generalize Zg (gproc (a1j m n B) (a1Q m n B) n) i j = z
      grind
  rw [key t ht]
  exact e8c h2 (by omega) i (by rw [hcs2]; exact hil) t ht
theorem e3J : ∀ i, i < (gproc (a1j m n B) (Bm (b4l m n B n)) n).cs.length → Sz ((a0m (a1j m n B) (Bm (b4l m n B n)) n).M i) n (KB (KB e) + 1) := by
  intro i hi
  have hBi := d4n hB
  have hd0 := d6q (m := m) (n := n) hBi
  rw [d6z hBi] at hi ⊢
  have hcsX := (a2g (a5S hd0) (a1j m n B) (a1Q m n B) n).1
  rw [hcsX] at hi
  have e : (a0m (a1j m n B) (a1x (denR m n B : Rat) (a1Q m n B)) n).M i = (a0m (a1j m n B) (a1Q m n B) n).M i := funext fun k => by rw [d4u (a5S hd0), if_pos hi]
  rw [e]
  exact d5o hB hm hn hi
end
end Go.Abs
namespace Go.Abs
def mapL (cs : List Nat) (t : Nat) : List (Int × Int) := (List.range t).map fun j => (((cs.getD j 0 : Nat) : Int), (j : Int))
theorem e1i (cs : List Nat) (t : Nat) : mapL cs (t + 1) = mapL cs t ++ [(((cs.getD t 0 : Nat) : Int), (t : Int))] := by
  simp [mapL, List.range_succ]
theorem d7a (cs : List Nat) (t : Nat) : (mapL cs t).length = t := by simp [mapL]
theorem e4h {cs : List Nat} {t j : Nat} {p : Int × Int} (h : (mapL cs t)[j]? = some p) : j < t ∧ p = (((cs.getD j 0 : Nat) : Int), (j : Int)) := by
  have hj : j < t := by have := a0e h; rwa [d7a] at this
  refine ⟨hj, ?_⟩
  simp [mapL, List.getElem?_map, List.getElem?_range hj] at h
  exact h.symm
theorem e4c {cs : List Nat} (hinj : InjL cs) {t : Nat} (ht : t < cs.length) : mget (mapL cs t) ((cs.getD t 0 : Nat) : Int) = none := by
  refine d3p fun p hp => ?_
  simp only [mapL, List.mem_map, List.mem_range] at hp
  obtain ⟨j, hj, rfl⟩ := hp
  intro h
  have := hinj t j ht (by omega) (by have h' : ((cs.getD t 0 : Nat) : Int) = ((cs.getD j 0 : Nat) : Int) := h; omega)
  omega
theorem e1d {cs : List Nat} {f : Nat} (h : hpos cs f = none) : mget (mapL cs cs.length) (f : Int) = none := by
  refine d3p fun p hp => ?_
  simp only [mapL, List.mem_map, List.mem_range] at hp
  obtain ⟨j, hj, rfl⟩ := hp
  intro h2
  have h' : ((f : Nat) : Int) = ((cs.getD j 0 : Nat) : Int) := h2
  exact b1e h hj (by omega)
theorem e1c {cs : List Nat} {f i : Nat} (h : hpos cs f = some i) : (mget (mapL cs cs.length) (f : Int)).isSome = true := by
  obtain ⟨h1, h2⟩ := a4C h
  refine e1b ⟨(((cs.getD i 0 : Nat) : Int), (i : Int)), ?_, ?_⟩
  · simp only [mapL, List.mem_map, List.mem_range]; exact ⟨i, h1, rfl⟩
  · rw [h2]
def a3J (cs : List Nat) (n : Nat) (X : (Nat → Bool) → Nat → Nat → Int) (t : Nat) : List (List ZI) := (a0s cs t).map fun f => vec n (X yesP f)
theorem d9O (cs : List Nat) (n : Nat) (X : (Nat → Bool) → Nat → Nat → Int) (t : Nat) : (a3J cs n X t).length ≤ t := by
  rw [a3J, List.length_map]; exact b1f cs t
theorem d1y {cs : List Nat} {n : Nat} {X : (Nat → Bool) → Nat → Nat → Int} {t : Nat} (h : hpos cs t = none) : a3J cs n X (t + 1) = a3J cs n X t ++ [vec n (X yesP t)] := by
  rw [a3J, b1T h, List.map_append]; rfl
theorem e2Y {cs : List Nat} {n : Nat} {X : (Nat → Bool) → Nat → Nat → Int} {t i : Nat} (h : hpos cs t = some i) : a3J cs n X (t + 1) = a3J cs n X t := by
  rw [a3J, c6i h]; rfl
section
variable (b : List (List ZI)) {e : Nat} (hm : Mok e b)
include hm
theorem e0D (h0 : elE b ≠ 0) : a0d Pr a5Z [matV b] (.tup [matV [], .int .i64 (elE b)]) := by
  have hask := c9c b hm
  unfold askT at hask
  rw [if_neg h0] at hask
  have h0' : (elE b = 0) = False := eq_false h0
  refine a0d.introL c2X c2W (Nat.le_of_ble_eq_true rfl) (a7m (a5E _) (.int _ _)) fun H hH => ?_
  refine Safe.rg rfl ?_
  simp only [b1u, E3, seval]
  refine Safe.rg rfl ?_
  simp only [b1t, E3, seval]
  first | refine (hask).acall ?_ | refine (hask).dcall ?_
  try simp only [E3, seval]
  refine Safe.rg rfl ?_
  simp only [b1s, h0', E3, seval]
  refine Safe.cd rfl ?_
  simp only [E3, seval]
  refine Safe.rg rfl ?_
  simp only [c2V, E3, seval]
  refine Safe.rt rfl ?_
  simp only [E3, seval]
  exact ⟨Le.tup2 (Le.nil 1 (by decide)) (Le.refl _), _, rfl⟩
theorem e3B (hK : 65 * (KB e + 2) < 10000000000) (h0 : elE b = 0) : a0d Pr a5Z [matV b] (.tup [matV (a3n (a1j (wid b) b.length (Bm (a0q b))) (a1Q (wid b) b.length (Bm (a0q b))) b.length), .int .i64 0]) := by
  obtain ⟨hn, hw, hr, hrows⟩ := c4z h0
  have hask := c9c b hm
  unfold askT at hask
  rw [if_pos h0] at hask
  have he : e ≤ 17592186044416 := by unfold KB at hK; omega
  have htm := d4K hm
  have htl : (a0q b).length = wid b := a0n _ _
  have hst := d6h (a0q b) (c := b.length) (fun i hi => by
    have : (a0q b)[i] = vec b.length fun t => zg (mg b t) i := a8W hi
    rw [this, a0f]) htm htl hw (by omega) (by omega)
  have hB := d6A htm
  have hBi := d4n hB
  have hKK : KB (65 * (KB e + 2)) + 1 < 1099511627776 := by unfold KB at hK ⊢; omega
  have hKK2 : KB (KB e) + 2 < 100000000000 := by unfold KB at hK ⊢; omega
  have hXl : ∀ i, (h : i < (b4l (wid b) b.length (Bm (a0q b)) b.length).length) → (b4l (wid b) b.length (Bm (a0q b)) b.length)[i].length = b.length := fun i h => by
    simp only [b4l, List.getElem_map, a0f]
  have hlast := c2O (b4l (wid b) b.length (Bm (a0q b)) b.length) (c := b.length) (n := a1j (wid b) b.length (Bm (a0q b))) hXl (d6V hB hw hn (Nat.le_refl _)) (by rw [b4l, List.length_map]; rfl)
    (Nat.le_trans a8K hn) (by omega) hKK hKK2 (e3J hB hw hn) (e3K hB hw hn)
  have hd0 := d6q (m := wid b) (n := b.length) hBi
  rw [d6z hBi, d4L (a5S hd0)] at hlast
  have hinj := d5Z (m := wid b) (n := b.length) hBi
  have hcn : ∀ i, i < (gproc (wid b) (Bm (a0q b)) b.length).cs.length → (gproc (wid b) (Bm (a0q b)) b.length).cs.getD i 0 < b.length := fun i hi => a2M hi
  have hrl := e6t (n := b.length) (B := Bm (a0q b)) hw
  have hrow : ∀ i (h : i < (a3n (wid b) (Bm (a0q b)) b.length).length), (a3n (wid b) (Bm (a0q b)) b.length)[i] = vec b.length (wI (wid b) (Bm (a0q b)) b.length i) := fun i h => a8W h
  have hsl : (a3n (wid b) (Bm (a0q b)) b.length).length = (gproc (wid b) (Bm (a0q b)) b.length).cs.length := a0n _ _
  have hwl : ∀ i k, k < b.length → Zok (KB e + 1) (canZ (wI (wid b) (Bm (a0q b)) b.length i k)) := fun i k hk => a0l (e1w hB hw hk)
  have hlm : ∀ i, wI (wid b) (Bm (a0q b)) b.length i ((gproc (wid b) (Bm (a0q b)) b.length).cs.getD i 0) = lamI (wid b) b.length (Bm (a0q b)) i := fun i => rfl
  have hl0 := fun i (hi : i < (gproc (wid b) (Bm (a0q b)) b.length).cs.length) => e1v hBi hi
  have hqe := fun f i (hi : i < (gproc (wid b) (Bm (a0q b)) b.length).cs.length) => e8G hBi (f := f) hi
  have hql := fun f i (hf : f < b.length) => e8F hB hw (f := f) (i := i) hf
  have hdn := fun t (ht : t ≤ (gproc (wid b) (Bm (a0q b)) b.length).cs.length) => e2j hB hw ht
  have hdr := d6r (n := b.length) hB hw
  have hx0 := e6c (m := wid b) (n := b.length) (B := Bm (a0q b))
  have hxs := fun (P Q : Nat → Bool) (f i : Nat) hf hi hQ => e6b (m := wid b) (n := b.length) hBi (P := P) (Q := Q) (f := f) (i := i) hf hi hQ
  have hxa := fun (P : Nat → Bool) (f : Nat) hP => e8o (m := wid b) (n := b.length) (B := Bm (a0q b)) (P := P) f hP
  have hDr : denR (wid b) b.length (Bm (a0q b)) = b7c (lamI (wid b) b.length (Bm (a0q b))) (gproc (wid b) (Bm (a0q b)) b.length).cs.length := rfl
  have hdn' : ∀ t, denN (wid b) b.length (Bm (a0q b)) t = b7c (lamI (wid b) b.length (Bm (a0q b))) t := fun t => rfl
  have hXd : ∀ t, b4l (wid b) b.length (Bm (a0q b)) t = (a0s (gproc (wid b) (Bm (a0q b)) b.length).cs t).map fun f => vec b.length (xP (wid b) b.length (Bm (a0q b)) yesP f) := fun t => rfl
  rw [hXd] at hlast
  simp only [hdn'] at hdn
  generalize a3n (a1j (wid b) b.length (Bm (a0q b))) (a1Q (wid b) b.length (Bm (a0q b))) b.length = R at *
  generalize hsV (gproc (a1j (wid b) b.length (Bm (a0q b))) (a1x (denR (wid b) b.length (Bm (a0q b)) : Rat) (a1Q (wid b) b.length (Bm (a0q b)))) b.length).cs = hs2 at hlast
  clear hXl hXd hdn' htm hB hBi
  generalize xP (wid b) b.length (Bm (a0q b)) = X at *
  generalize qN (wid b) b.length (Bm (a0q b)) = q at *
  generalize denR (wid b) b.length (Bm (a0q b)) = D at *
  generalize lamI (wid b) b.length (Bm (a0q b)) = lam at *
  generalize wI (wid b) (Bm (a0q b)) b.length = w at *
  generalize a3n (wid b) (Bm (a0q b)) b.length = W at *
  generalize (gproc (wid b) (Bm (a0q b)) b.length).cs = cs at *
  have hm1 := hK
  generalize hK2 : 65 * (KB e + 2) = K2 at *
  have hfree : ∀ t, (a0s cs t).length ≤ t := b1f cs
  refine a0d.intro c2X c2W (Nat.le_of_ble_eq_true rfl) (a7m (a5E _) (.int _ _)) fun H hH => ?_
  refine Safe.rg rfl ?_
  simp only [b1u, E3, seval]
  refine Safe.rg rfl ?_
  simp only [b1t, E3, seval]
  first | refine (hask).acall ?_ | refine (hask).dcall ?_
  try simp only [E3, seval]
  refine Safe.rg rfl ?_
  simp only [b1s, E3, seval]
  refine Safe.cd rfl ?_
  simp only [E3, seval]
  refine Safe.rg rfl ?_
  simp only [c2U, E3, seval]
  first | refine (d1B b e hm he hr).acall ?_ | refine (d1B b e hm he hr).dcall ?_
  try simp only [E3, seval]
  refine Safe.rg rfl ?_
  simp only [c2T, E3, seval]
  first | refine (hst).acall ?_ | refine (hst).dcall ?_
  try simp only [E3, seval]
  refine Safe.rg rfl ?_
  simp only [c2S, E3, seval]
  refine Safe.nilrow 11 1 (by decide) (by simp only [E3, seval]) ?_
  refine Safe.rg rfl ?_
  simp only [c2R, e4K, E3, seval]
  refine Safe.rg rfl ?_
  simp only [c2Q, E3, seval]
  first | refine (c3o 1 (by decide) (by decide)).acall ?_ | refine (c3o 1 (by decide) (by decide)).dcall ?_
  try simp only [E3, seval]
  refine Safe.rg rfl ?_
  simp only [c2P, c8X, E3, seval]
  refine Safe.lp rfl ?_
  refine Safe.keep [4, 9, 10, 11, 12, 13, 47, 48, 49] ?_
  try simp only [E3, seval]
  refine Safe.loopN (cs.length) (fun i => [(4, .int .i64 b.length), (9, matV W), (10, hsV cs), (11, .mu (lid H 0) 0 0 none), (12, .mp true (lid H 1)), (13, .loc (lid H 2) 0 0), (47, hsV cs), (48, .int .i64 cs.length), (49, .int .i64 i)]) (fun i => hap H [some ⟨1, []⟩, some ⟨0, [.mo (mapL cs i)]⟩, some ⟨2, [Z (b7c lam i)]⟩]) rfl rfl (fun i hi ih => ?_) ?_
  · have hlt : ((i : Int) < (cs.length : Int)) = True := eq_true (by omega)
    have hiw : IntKind.wrap .i64 ((i : Int) + 1) = ((i + 1 : Nat) : Int) := by rw [a0a] <;> omega
    have hci := hcn i hi
    have hset : ∀ env, e3Z (.mp true (lid H 1)) (.int .i64 ((cs.getD i 0 : Nat) : Int)) (.int .i64 i) env (hap H [some ⟨1, []⟩, some ⟨0, [.mo (mapL cs i)]⟩, some ⟨2, [Z (b7c lam i)]⟩]) = some (.top, env, hap H [some ⟨1, []⟩, some ⟨0, [.mo (mapL cs (i + 1))]⟩, some ⟨2, [Z (b7c lam i)]⟩]) := by
      intro env
      rw [e3Y env (i := 1) (l := mapL cs i) rfl (e4c hinj hi), e1i]; rfl
    refine Safe.inLoop ?_
    refine Safe.rg rfl ?_
    simp only [a9r, hlt, E3, seval]
    refine Safe.cd rfl ?_
    simp only [E3, seval]
    refine Safe.rg rfl ?_
    simp only [b8v, e4y _ cs i hi, intV, E3, seval]
    refine Safe.rg rfl ?_
    simp only [b8u, e7q, hset, E3, seval]
    refine Safe.rg rfl ?_
    simp only [b8t, a1W _ W .i64 i (by omega), hrow i (by omega), a1h _ (vec b.length (w i)) .i64 (cs.getD i 0) (by rw [a0f]; omega), a3K, hlm, E3, seval]
    have hmu := a7n (canZ (b7c lam i)) (canZ (lam i)) K2 (KB e + 1) ((a0l (hdn i (by omega))).mono (by have := Nat.mul_le_mul_right (KB e + 1) (show i ≤ 64 by omega); omega)) (by have := hwl i _ hci; rwa [hlm] at this) (by omega)
    rw [a0o, a0o] at hmu
    refine hmu.dcall ?_
    simp only [E3, seval]
    refine Safe.rg rfl ?_
    simp only [b8s, hiw, E3, seval]
    refine Safe.keep [4, 9, 10, 11, 12, 13, 47, 48, 49] ?_
    simp only [E3, seval]
    exact ih
  · refine Safe.inLoop ?_
    refine Safe.rg rfl ?_
    simp only [a9r, Int.lt_irrefl, E3, seval]
    refine Safe.cd rfl ?_
    simp only [E3, seval]
    rw [← hDr]
    generalize hml : mapL cs cs.length = ml at *
    have hmll : ml.length = cs.length := by rw [← hml, d7a]
    have hlast' : a0d Pr a3j [matV (a3J cs b.length X b.length), .int .i64 b.length] (.tup [matV R, hs2]) := hlast
    refine Safe.rg rfl ?_
    simp only [b8r, E3, seval]
    refine Safe.lp rfl ?_
    refine Safe.keep [4, 9, 11, 12, 13, 67, 68] ?_
    try simp only [E3, seval]
    refine Safe.loopN (b.length) (fun i => [(4, .int .i64 b.length), (9, matV W), (11, .mu (lid H 0) 0 (a3J cs b.length X i).length none), (12, .mp true (lid H 1)), (13, .loc (lid H 2) 0 0), (67, .int .i64 b.length), (68, .int .i64 i)]) (fun i => hap H [some ⟨1, (a3J cs b.length X i).map vecV⟩, some ⟨0, [.mo ml]⟩, some ⟨2, [Z D]⟩]) rfl rfl (fun i hi ih => ?_) ?_
    · have hlt : ((i : Int) < (b.length : Int)) = True := eq_true (by omega)
      have hiw : IntKind.wrap .i64 ((i : Int) + 1) = ((i + 1 : Nat) : Int) := by rw [a0a] <;> omega
      have hxl := d9O cs b.length X i
      have hlk := e0Y (H := H) (L := [some ⟨1, (a3J cs b.length X i).map vecV⟩, some ⟨0, [.mo ml]⟩, some ⟨2, [Z D]⟩]) (i := 1) (l := ml) rfl (i : Int)
      refine Safe.inLoop ?_
      refine Safe.rg rfl ?_
      simp only [a9q, hlt, E3, seval]
      refine Safe.cd rfl ?_
      simp only [E3, seval]
      refine Safe.rg rfl ?_
      simp only [b8q, E3, seval]
      refine Safe.rg rfl ?_
      simp only [b8p, e3x, hlk, E3, seval]
      refine Safe.rg rfl ?_
      simp only [b8o, E3, seval]
      cases hp : hpos cs i with
      | some j =>
        have hg := e1c hp
        rw [hml] at hg
        refine Safe.cd rfl ?_
        simp only [hg, E3, seval]
        refine Safe.rg rfl ?_
        simp only [a9p, hiw, E3, seval]
        refine Safe.keep [4, 9, 11, 12, 13, 67, 68] ?_
        simp only [E3, seval]
        rw [e2Y hp] at ih
        exact ih
      | none =>
        have hg := e1d hp
        rw [hml] at hg
        refine Safe.cd rfl ?_
        simp only [hg, Option.isSome_none, E3, seval]
        refine Safe.rg rfl ?_
        simp only [b8n, b7p _ H [some ⟨1, (a3J cs b.length X i).map vecV⟩, some ⟨0, [.mo ml]⟩, some ⟨2, [Z D]⟩] 2 32 (.agg [.bool false, .nil]) .i64 .i64 b.length b.length (by decide) (Nat.le_refl _) (by omega) (by omega), E3, seval]
        refine Safe.toldRep 3 b.length rfl ?_
        simp only [E3, seval]
        have hxe : X (fun j => decide (j ∈ ([] : List Nat))) i = updF (fun _ => 0) i D := by
          rw [← hx0]; exact congrArg (fun P => X P i) (funext fun j => by simp)
        have hix : ∀ (x : Nat → Int) (k : Nat), k < b.length → ∀ L', idxV (hap H (some ⟨1, (a3J cs b.length X i).map vecV⟩ :: some ⟨0, [.mo ml]⟩ :: some ⟨2, [Z D]⟩ :: some ⟨2, (vec b.length x).map ZI.av⟩ :: L')) 2 (.mu (lid H 3) 0 b.length (some b.length)) (.int .i64 (k : Int)) = some (.loc (lid H 3) k 0) := fun x k hk L' => by
          have := c8K H (some ⟨1, (a3J cs b.length X i).map vecV⟩ :: some ⟨0, [.mo ml]⟩ :: some ⟨2, [Z D]⟩ :: some ⟨2, (vec b.length x).map ZI.av⟩ :: L') 2 3 0 b.length (some b.length) .i64 k rfl rfl hk
          rwa [Nat.zero_add] at this
        have hst3 : ∀ (x : Nat → Int) (k : Nat) (z : Int), k < b.length → ∀ env L', a1L 2 (.loc (lid H 3) k 0) (Z z) env (hap H (some ⟨1, (a3J cs b.length X i).map vecV⟩ :: some ⟨0, [.mo ml]⟩ :: some ⟨2, [Z D]⟩ :: some ⟨2, (vec b.length x).map ZI.av⟩ :: L')) =
            some (.top, env, hap H (some ⟨1, (a3J cs b.length X i).map vecV⟩ :: some ⟨0, [.mo ml]⟩ :: some ⟨2, [Z D]⟩ :: some ⟨2, (vec b.length (updF x k z)).map ZI.av⟩ :: L')) := fun x k z hk env L' => by
          rw [a5q env H _ 2 3 k 0 (Z z) rfl (by rw [List.length_map, a0f]; exact hk) rfl rfl (Nat.le_refl 2), ← d9R]; rfl
        have hst0 := fun env => hst3 (fun _ => 0) i D hi env []
        rw [← hxe] at hst0
        have hZD : AV.agg [AV.bool (decide (D < 0)), natV (limbs D.natAbs)] = Z D := rfl
        refine Safe.rg rfl ?_
        simp only [b8m, hix _ i hi, hZD, hst0, E3, seval]
        refine Safe.rg rfl ?_
        simp only [b8l, e7r, e4a _ (H := H) (L := [some ⟨1, (a3J cs b.length X i).map vecV⟩, some ⟨0, [.mo ml]⟩, some ⟨2, [Z D]⟩, some ⟨2, (vec b.length (X (fun j => decide (j ∈ ([] : List Nat))) i)).map ZI.av⟩]) (i := 1) (l := ml) rfl, E3, seval]
        refine Safe.lp rfl ?_
        refine Safe.keep [4, 9, 11, 12, 13, 16, 19, 67, 68, 85] ?_
        simp only [E3, seval]
        refine Safe.loopW (α := List Nat) (d3w cs.length)
          (fun seen => [(4, .int .i64 b.length), (9, matV W), (11, .mu (lid H 0) 0 (a3J cs b.length X i).length none), (12, .mp true (lid H 1)), (13, .loc (lid H 2) 0 0), (16, .int .i64 i), (19, .mu (lid H 3) 0 b.length (some b.length)), (67, .int .i64 b.length), (68, .int .i64 i), (85, .mp false (lid H 4))])
          (fun seen => hap H [some ⟨1, (a3J cs b.length X i).map vecV⟩, some ⟨0, [.mo ml]⟩, some ⟨2, [Z D]⟩, some ⟨2, (vec b.length (X (fun j => decide (j ∈ seen)) i)).map ZI.av⟩, some ⟨0, [.io (lid H 1) ml.length seen]⟩])
          (fun _ => True) [] rfl rfl trivial ?_
        intro seen _ ihs
        refine Safe.inLoop ?_
        refine Safe.rg rfl ?_
        simp only [b8k, e2F, E3, seval]
        refine e3U (i := 4) (mi := 1) (l := ml) rfl rfl (fun j p hj hp2 => ?_) (fun hall => ?_)
        · obtain ⟨hjr, rfl⟩ := e4h (cs := cs) (t := cs.length) (by rw [hml]; exact hp2)
          have hcj := hcn j hjr
          have hme := e4d (H := H) (L := [some ⟨1, (a3J cs b.length X i).map vecV⟩, some ⟨0, [.mo ml]⟩, some ⟨2, [Z D]⟩, some ⟨2, (vec b.length (X (fun j => decide (j ∈ seen)) i)).map ZI.av⟩, some ⟨0, [.io (lid H 1) ml.length (seen ++ [j])]⟩]) (i := 4) (mi := 1) (l := ml) rfl rfl hp2
          have hmu := a7n (canZ D) (canZ (w j i)) K2 (KB e + 1) ((a0l hdr).mono (by omega)) (hwl j i hi) (by omega)
          rw [a0o, a0o] at hmu
          have hwa := (hwl j i hi).abs
          rw [a0o] at hwa
          have hfl := b0m (canZ (D * w j i)) (canZ (lam j)) (K2 + K2) (a0l (by
            rw [Int.natAbs_mul, Nat.pow_add]
            exact Nat.mul_lt_mul'' (Nat.lt_of_lt_of_le hdr (lbm (by omega))) (Nat.lt_of_lt_of_le hwa (lbm (by omega))))) (by have := hwl j _ hcj; rw [hlm] at this; exact this.mono (by omega)) (by omega) (q i j) (by rw [a0o]; exact hl0 j hjr) (by rw [a0o, a0o]; exact hqe i j hjr)
          have hng := c3K (canZ (q i j)) ((a0l (hql i j hi)).mono (by omega))
          rw [a0o] at hng
          simp only [E3, seval]
          refine Safe.cd rfl ?_
          simp only [E3, seval]
          refine Safe.rg rfl ?_
          simp only [b8j, e6x, hme, E3, seval]
          refine Safe.rx rfl (by simp only [a4w, a6k, a4A, a1W _ W .i64 j (by omega), hrow j (by omega), a1h _ (vec b.length (w j)) .i64 i (by rw [a0f]; omega), a1h _ (vec b.length (w j)) .i64 (cs.getD j 0) (by rw [a0f]; omega), a3K, hlm, E3, seval]) ?_
          simp only [b8i, b4c, b4b, a1W _ W .i64 j (by omega), hrow j (by omega), a1h _ (vec b.length (w j)) .i64 i (by rw [a0f]; omega), a1h _ (vec b.length (w j)) .i64 (cs.getD j 0) (by rw [a0f]; omega), a3K, hlm, E3, seval]
          refine hmu.dcall ?_
          simp only [a1W _ W .i64 j (by omega), hrow j (by omega), a1h _ (vec b.length (w j)) .i64 (cs.getD j 0) (by rw [a0f]; omega), a3K, hlm, E3, seval]
          refine hfl.dcall ?_
          simp only [E3, seval]
          refine ⟨?_, ?_⟩
          all_goals
            refine Safe.rg rfl ?_
            simp only [b8h, E3, seval]
            refine hng.acall ?_
            simp only [hix _ _ hcj, hst3 _ _ _ hcj, E3, seval]
            rw [hxs (fun k => decide (k ∈ seen)) (fun k => decide (k ∈ seen ++ [j])) i j hp hjr (by intro k; rw [Bool.eq_iff_iff]; simp)]
            refine Safe.keep [4, 9, 11, 12, 13, 16, 19, 67, 68, 85] ?_
            simp only [E3, seval]
            refine Safe.dropC (L := [_, _, _, _, _, _]) hH rfl (by simp only [List.all_cons, List.all_nil, a3t, E3, seval]) (by repeat (first | exact RC.nil | refine RC.none ?_ | refine RC.mo ?_ | refine RC.io ?_ | refine RC.row ZI.cl ?_ | refine RC.cons (a0r _) ?_ | refine RC.row a0g ?_ | refine RC.emp ?_ | refine RC.zero ?_ | refine RC.one (Z_cl _) ?_ | refine RC.one (ZI.cl _) ?_ | refine RC.one (a0g _) ?_)) ?_
            refine Safe.dropC (L := [_, _, _, _, _]) hH rfl (by simp only [List.all_cons, List.all_nil, a3t, E3, seval]) (by repeat (first | exact RC.nil | refine RC.none ?_ | refine RC.mo ?_ | refine RC.io ?_ | refine RC.row ZI.cl ?_ | refine RC.cons (a0r _) ?_ | refine RC.row a0g ?_ | refine RC.emp ?_ | refine RC.zero ?_ | refine RC.one (Z_cl _) ?_ | refine RC.one (ZI.cl _) ?_ | refine RC.one (a0g _) ?_)) ?_
            refine Safe.inBlock ?_
            exact ihs (seen ++ [j]) trivial (d7f hj hjr)
        · rw [hmll] at hall
          have hxend := hxa (fun k => decide (k ∈ seen)) i (fun k hk => by simpa using hall k hk)
          simp only [E3, seval]
          refine Safe.cd rfl ?_
          simp only [E3, seval]
          rw [hxend]
          refine Safe.freeze 3 hH rfl rfl (a1H 2 ZI.av _ ZI.cl) ?_
          refine Safe.keep [4, 9, 11, 12, 13, 16, 19, 67, 68] ?_
          simp only [b9A H 3 (vec b.length (X yesP i)) (b.length) (some b.length) (by simp only [a0f, a0n]), a2x, a1O, a8Z, a5F, d3Q, e5L, e9e, E3, seval]
          refine Safe.drop4 hH rfl (by simp only [List.all_cons, List.all_nil, a3t, E3, seval]) (by repeat (first | exact RC.nil | refine RC.none ?_ | refine RC.mo ?_ | refine RC.io ?_ | refine RC.row ZI.cl ?_ | refine RC.cons (a0r _) ?_ | refine RC.row a0g ?_ | refine RC.emp ?_ | refine RC.zero ?_ | refine RC.one (Z_cl _) ?_ | refine RC.one (ZI.cl _) ?_ | refine RC.one (a0g _) ?_)) ?_
          refine Safe.drop3 hH rfl (by simp only [List.all_cons, List.all_nil, a3t, E3, seval]) (by repeat (first | exact RC.nil | refine RC.none ?_ | refine RC.mo ?_ | refine RC.io ?_ | refine RC.row ZI.cl ?_ | refine RC.cons (a0r _) ?_ | refine RC.row a0g ?_ | refine RC.emp ?_ | refine RC.zero ?_ | refine RC.one (Z_cl _) ?_ | refine RC.one (ZI.cl _) ?_ | refine RC.one (a0g _) ?_)) ?_
          refine Safe.rg rfl ?_
          simp only [b8g, E3, seval]
          rw [b1A hH 0 (a1q H 0) a0g (a3J cs b.length X i) (vec b.length (X yesP i)) (a3J cs b.length X (i + 1)) rfl rfl (by repeat (first | exact RC.nil | refine RC.none ?_ | refine RC.mo ?_ | refine RC.io ?_ | refine RC.row ZI.cl ?_ | refine RC.cons (a0r _) ?_ | refine RC.row a0g ?_ | refine RC.emp ?_ | refine RC.zero ?_ | refine RC.one (Z_cl _) ?_ | refine RC.one (ZI.cl _) ?_ | refine RC.one (a0g _) ?_)) rfl (d1y hp) (by omega) (by omega)]
          simp only [a3t, E3, seval]
          refine Safe.rg rfl ?_
          simp only [a9p, hiw, E3, seval]
          refine Safe.keep [4, 9, 11, 12, 13, 67, 68] ?_
          simp only [E3, seval]
          have hlen : (a3J cs b.length X (i + 1)).length = (a3J cs b.length X i).length + 1 := by rw [d1y hp, List.length_append]; rfl
          rw [hlen] at ih
          exact ih
    · refine Safe.inLoop ?_
      refine Safe.rg rfl ?_
      simp only [a9q, Int.lt_irrefl, E3, seval]
      refine Safe.cd rfl ?_
      simp only [E3, seval]
      refine Safe.freeze 0 hH rfl rfl (a1H 1 vecV _ a0g) ?_
      refine Safe.keep [4, 11] ?_
      simp only [d0L H 0 (a3J cs b.length X b.length) ((a3J cs b.length X b.length).length) (none) (by simp only [a0f, a0n]), a2x, a1O, a8Z, a5F, e5L, E3, seval]
      refine Safe.rg rfl ?_
      simp only [b8f, E3, seval]
      first | refine (hlast').acall ?_ | refine (hlast').dcall ?_
      try simp only [E3, seval]
      refine Safe.rg rfl ?_
      simp only [b8e, E3, seval]
      refine Safe.rt rfl ?_
      simp only [E3, seval]
      first | exact ⟨rfl, _, rfl⟩ | exact ⟨_, rfl⟩ | exact ⟨trivial, _, rfl⟩
end
end Go.Abs
namespace Go.Abs
theorem d0P (cs : List Nat) {t n : Nat} (h : t ≤ n) : ∃ l, a0s cs n = a0s cs t ++ l := by
  obtain ⟨d, rfl⟩ := Nat.exists_eq_add_of_le h
  clear h
  induction d with
  | zero => exact ⟨[], by simp⟩
  | succ d ih =>
    obtain ⟨l, hl⟩ := ih
    rw [← Nat.add_assoc]
    cases hp : hpos cs (t + d) with
    | none => exact ⟨l ++ [t + d], by rw [b1T hp, hl, List.append_assoc]⟩
    | some i => exact ⟨l, by rw [c6i hp, hl]⟩
/-- A column without a head is the next of them. -/
theorem d6d {cs : List Nat} {t n : Nat} (h : t < n) (hp : hpos cs t = none) : (a0s cs t).length < (a0s cs n).length ∧ (a0s cs n).getD (a0s cs t).length 0 = t := by
  obtain ⟨l, hl⟩ := d0P cs (show t + 1 ≤ n by omega)
  rw [b1T hp] at hl
  rw [hl]
  refine ⟨by simp, ?_⟩
  simp [List.getD_eq_getElem?_getD]
/-- Whether a head stands in the column, the first i of them asked. -/
def isB (cs : List Nat) (f i : Nat) : Bool := (List.range i).any fun j => cs.getD j 0 == f
theorem e4p (cs : List Nat) (f i : Nat) : isB cs f (i + 1) = (isB cs f i || (cs.getD i 0 == f)) := by
  simp [isB, List.range_succ]
theorem e4q {cs : List Nat} {f i : Nat} (h : hpos cs f = some i) : isB cs f cs.length = true := by
  obtain ⟨h1, h2⟩ := a4C h
  rw [isB, List.any_eq_true]
  exact ⟨i, List.mem_range.2 h1, by simpa using h2⟩
theorem e4r {cs : List Nat} {f : Nat} (h : hpos cs f = none) : isB cs f cs.length = false := by
  rw [isB, List.any_eq_false]
  intro j hj
  simpa using b1e h (List.mem_range.1 hj)
theorem e8d (b : List (List ZI)) : (fun j k => (((zg (mg (a3G b (List.replicate (wid b) []) (wid b)) j) k : Int)) : Rat)) = Bm (a0q b) := by
  funext j k
  unfold Bm
  by_cases hj : j < wid b
  · have hmr : mg (List.replicate (wid b) ([] : List ZI)) j = [] := by rw [a3v (by simpa using hj)]; simp
    rw [a3G, e1e hj, a0q, e1e hj, hmr, List.append_nil]
    by_cases hk : k < b.length
    · rw [e5X b hk, c7l hk]
    · have z1 : zg (colR b j b.length) k = 0 := by
        unfold zg; rw [List.getD_eq_getElem?_getD, List.getElem?_eq_none (by rw [a6G]; omega)]; rfl
      have z2 : zg (vec b.length fun i => zg (mg b i) j) k = 0 := by
        unfold zg; rw [List.getD_eq_getElem?_getD, List.getElem?_eq_none (by rw [a0f]; omega)]; rfl
      rw [z1, z2]
  · rw [a3G, e5G hj, a0q, e5G hj]
theorem e8s {G : Heap} {env : Env} {n k : Nat} {f : Nat → AV} {q : Rat} (hk : k < n) : a1L 4 (.loc (lid G 0) k 0) (Rv q) env (hap G [some ⟨4, fr n f⟩]) = some (.top, env, hap G [some ⟨4, fr n fun j => if j = k then Rv q else f j⟩]) := by
  rw [a5q env G _ 4 0 k 0 (Rv q) rfl (by rw [b7O]; exact hk) rfl rfl (Nat.le_refl 4), a2o, d7v]; rfl
theorem e6T {G : Heap} {n k : Nat} {f : Nat → AV} (hk : k < n) : idxV (hap G [some ⟨4, fr n f⟩]) 4 (.mu (lid G 0) 0 n none) (.int .i64 (k : Int)) = some (.loc (lid G 0) k 0) := by
  have := c8K G [some ⟨4, fr n f⟩] 4 0 0 n none .i64 k rfl rfl hk
  rwa [Nat.zero_add] at this
section
variable (b : List (List ZI)) {e : Nat} (hm : Mok e b)
include hm
theorem e0v (h0 : elE b ≠ 0) : a0d Pr a4G [matV b] (.tup [matV [], .int .i64 (elE b)]) := by
  have h0' : (elE b = 0) = False := eq_false h0
  refine a0d.introL b5J b5I (Nat.le_of_ble_eq_true rfl) (a7m (a5E _) (.int _ _)) fun H hH => ?_
  refine Safe.rg rfl ?_
  simp only [a8k, E3, seval]
  refine Safe.rg rfl ?_
  simp only [a8j, E3, seval]
  first | refine (b1X b hm).acall ?_ | refine (b1X b hm).dcall ?_
  try simp only [E3, seval]
  refine Safe.rg rfl ?_
  simp only [a8i, h0', E3, seval]
  refine Safe.cd rfl ?_
  simp only [E3, seval]
  refine Safe.rg rfl ?_
  simp only [b5H, E3, seval]
  refine Safe.rt rfl ?_
  simp only [E3, seval]
  exact ⟨Le.tup2 (Le.nil 1 (by decide)) (Le.refl _), _, rfl⟩
theorem e3r (hK : 65 * (KB e + 2) < 10000000000) (h0 : elE b = 0) : a0d Pr a4G [matV b] (.tup [matV (a3n (a1j (wid b) b.length (Bm (a0q b))) (a1Q (wid b) b.length (Bm (a0q b))) b.length), .int .i64 0]) := by
  obtain ⟨hn, hw, hr, hrows⟩ := c4z h0
  have he : e ≤ 17592186044416 := by unfold KB at hK; omega
  have hKe : KB e + 1 < 1099511627776 := by omega
  have hK8 : KB (KB e) + 2 < 100000000000 := by unfold KB at hK ⊢; omega
  have hK9 : KB (KB e) + KB (KB e) < 1000000000000 := by omega
  have htm := d4K hm
  have hB := d6A htm
  have hBi := d4n hB
  have hcol := d1f b (List.replicate (wid b) []) (p := 0) (m := wid b) (fun i h => by rw [hrows i h]; exact Nat.le_refl _) (by simp) (fun i h => by simp) (by omega) (by omega) (hm.mono he)
    ⟨by simp; omega, fun x hx => by rw [List.eq_of_mem_replicate hx]; exact ⟨by simp, fun x hx => by simp at hx⟩⟩
  refine a0d.intro b5J b5I (Nat.le_of_ble_eq_true rfl) (a7m (a5E _) (.int _ _)) fun H hH => ?_
  refine Safe.rg rfl ?_
  simp only [a8k, E3, seval]
  refine Safe.rg rfl ?_
  simp only [a8j, E3, seval]
  first | refine (b1X b hm).acall ?_ | refine (b1X b hm).dcall ?_
  try simp only [E3, seval]
  refine Safe.rg rfl ?_
  simp only [a8i, h0, E3, seval]
  refine Safe.cd rfl ?_
  simp only [E3, seval]
  refine Safe.rg rfl ?_
  simp only [b5G, E3, seval]
  first | refine (d4g b hm hr).acall ?_ | refine (d4g b hm hr).dcall ?_
  try simp only [E3, seval]
  have hmk := fun env => b7p env H [] 1 24 .nil .i64 .i64 (wid b) (wid b) (by decide) (Nat.le_refl _) (by omega) (by omega)
  refine Safe.rg rfl ?_
  simp only [b5F, hmk, E3, seval]
  refine a0k.consumeL hH 0 (b := ⟨1, List.replicate (wid b) .nil⟩) (Nat.zero_lt_succ _) rfl (fun c hc => by
    obtain ⟨x, hx, hc⟩ := List.mem_flatMap.1 hc
    rw [List.eq_of_mem_replicate hx] at hc
    simp [AV.cells] at hc; subst hc; exact .nil) ?_
  have hfz := a9j H 0 ⟨1, List.replicate (wid b) .nil⟩ (wid b) (some (wid b)) (by simp)
  have hfm : frz (lid H 0) ⟨1, List.replicate (wid b) .nil⟩ (matV b) = matV b := a3I (a5E b)
  have hfi : frz (lid H 0) ⟨1, List.replicate (wid b) .nil⟩ (.int .i64 (wid b)) = .int .i64 (wid b) := a3I (.int _ _)
  simp only [List.map_cons, List.map_nil, hfz, hfm, hfi]
  refine a0k.argsLe (args' := [matV b, .int .i64 (wid b), matV (List.replicate (wid b) [])]) rfl (fun k a c ha hc => ?_) ?_
  · rcases k with _ | _ | _ | k
    · simp at ha hc; subst ha; subst hc; exact Le.refl _
    · simp at ha hc; subst ha; subst hc; exact Le.refl _
    · simp at ha hc; subst ha; subst hc
      have := Le.nils (wid b) 2 (by decide)
      unfold matV
      rw [List.map_replicate]
      exact this
    · simp at ha
  have hcol2 := hcol (hap H [none])
  simp only [Nat.add_zero] at hcol2
  have hS : (fun (j k : Nat) => Rv (((zg (mg (a3G b (List.replicate (wid b) []) (wid b)) j) k : Int)) : Rat)) = fun j k => Rv (Bm (a0q b) j k) := by
    funext j k; rw [← e8d]
  rw [hS] at hcol2
  refine hcol2.mono ?_
  rintro r' H' ⟨rfl, rfl⟩
  simp only [E3, seval]
  have hHN : a0F (hap H [none]) := c5Z hH (fun c hc => by simp at hc)
  refine (d3a hB (.inl hw) (by omega) (by omega) hKe (A := hap H [none]) hHN).mono ?_
  rintro r' A ⟨h1, ⟨L', hL'⟩, hHr, rfl⟩
  have hbA : lid (hap H [none]) 0 = lid H 1 := by rw [d0B]; rfl
  rw [hbA] at h1 ⊢
  have hAH : ∃ L, A = hap H L := ⟨_, by rw [hL', b1Q]⟩
  clear hL' hcol hcol2 hfz hfm hfi hmk
  rw [← a1F A]
  have hβA : lid H 1 < A.length := a0h h1
  have hHA : H.length ≤ A.length := by unfold lid at *; omega
  have hnk : a1j (wid b) b.length (Bm (a0q b)) ≤ b.length := a8K
  have hrokT := fun i k => e8C (n := wid b) (c := b.length) (Bm (a0q b)) hB (.inl hw) b.length i k (Nat.le_refl _)
  have hrl := e6t (n := b.length) (B := Bm (a0q b)) hw
  have hrm := (a2R (n := wid b) (B := Bm (a0q b)) b.length).len
  have hcn : ∀ i, i < (gproc (wid b) (Bm (a0q b)) b.length).cs.length → (gproc (wid b) (Bm (a0q b)) b.length).cs.getD i 0 < b.length := fun i hi => a2M hi
  have hy0 := e6a (m := wid b) (n := b.length) (B := Bm (a0q b))
  have hys := fun (P Q : Nat → Bool) (f i : Nat) hf hi hQ k => e5Z (m := wid b) (n := b.length) hBi (P := P) (Q := Q) (f := f) (i := i) hf hi hQ k
  have hya := fun (P : Nat → Bool) (f : Nat) hP k => e8k (m := wid b) (n := b.length) (B := Bm (a0q b)) (P := P) f hP k
  have hNd : ∀ j k, a1Q (wid b) b.length (Bm (a0q b)) j k = if j < (a0s (gproc (wid b) (Bm (a0q b)) b.length).cs b.length).length ∧ k < b.length then yP (wid b) b.length (Bm (a0q b)) yesP ((a0s (gproc (wid b) (Bm (a0q b)) b.length).cs b.length).getD j 0) k else 0 := fun j k => rfl
  have hrg := fun (A2 : Heap) (hA2 : a0F A2) => b7a (A := A2) (n := a1j (wid b) b.length (Bm (a0q b))) (c := b.length) (e3H hB hw hn) (e3I hB hw hn) (.inl (by omega)) (by omega) (by omega) (by omega) hA2
  have hwh := fun i hi => d8b ((a0m (a1j (wid b) b.length (Bm (a0q b))) (a1Q (wid b) b.length (Bm (a0q b))) b.length).M i) (d5o hB hw hn (i := i) hi) (by omega) (by omega)
  have hNr : a1j (wid b) b.length (Bm (a0q b)) = (a0s (gproc (wid b) (Bm (a0q b)) b.length).cs b.length).length := rfl
  have hnn := (a2R (n := a1j (wid b) b.length (Bm (a0q b))) (B := a1Q (wid b) b.length (Bm (a0q b))) b.length).len
  have hRl : a3n (a1j (wid b) b.length (Bm (a0q b))) (a1Q (wid b) b.length (Bm (a0q b))) b.length = mat (gproc (a1j (wid b) b.length (Bm (a0q b))) (a1Q (wid b) b.length (Bm (a0q b))) b.length).cs.length fun i => vec b.length (a1d (outI ((a0m (a1j (wid b) b.length (Bm (a0q b))) (a1Q (wid b) b.length (Bm (a0q b))) b.length).M i) b.length) b.length) := rfl
  rw [hRl]
  unfold redV at hrg
  clear hRl htm
  generalize (gproc (a1j (wid b) b.length (Bm (a0q b))) (a1Q (wid b) b.length (Bm (a0q b))) b.length).cs = cs2 at *
  generalize dv (a1j (wid b) b.length (Bm (a0q b))) (a1Q (wid b) b.length (Bm (a0q b))) b.length = d2 at *
  generalize (a0m (a1j (wid b) b.length (Bm (a0q b))) (a1Q (wid b) b.length (Bm (a0q b))) b.length).M = M2 at *
  generalize a1Q (wid b) b.length (Bm (a0q b)) = N at *
  generalize a1j (wid b) b.length (Bm (a0q b)) = nr at *
  generalize yP (wid b) b.length (Bm (a0q b)) = y at *
  generalize hMd : (a0m (wid b) (Bm (a0q b)) b.length).M = M at *
  generalize dv (wid b) (Bm (a0q b)) b.length = d1 at *
  generalize hcs : (gproc (wid b) (Bm (a0q b)) b.length).cs = cs at *
  simp only [a0z, a0H, a3g, E3, seval]
  refine Safe.rg rfl ?_
  simp only [b5E, E3, seval]
  refine Safe.nilrow 9 1 (by decide) (by simp only [E3, seval]) ?_
  refine Safe.rg rfl ?_
  simp only [b5D, E3, seval]
  obtain ⟨G0, hG0⟩ : ∃ G0, G0 = hap A [some ⟨4, [Rv d1]⟩] := ⟨_, rfl⟩
  have hG0r : a0F G0 := by
    rw [hG0]
    refine c5Z hHr fun c hc a ha => ?_
    have : c = ⟨4, [Rv d1]⟩ := by simpa using hc
    subst this
    exact a9t (a5n d1) a (by simpa [Blk.flat] using ha)
  have hG0l : lid G0 0 = lid A 1 := by rw [hG0, d0B]; rfl
  have hβ0 : G0[lid H 1]? = some (some ⟨1, fr (wid b) fun i => rvV (M i) b.length⟩) := by
    rw [hG0]; simp only [hap]; rw [List.getElem?_append_left hβA]; exact h1
  have hG0H : ∃ L, G0 = hap H L := by obtain ⟨L, hL⟩ := hAH; exact ⟨_, by rw [hG0, hL, b1Q]⟩
  have hnG : H.length ≤ G0.length := by rw [hG0]; simp [hap]; omega
  have hS : ∀ j k, Cl ((fun (j k : Nat) => Rv (N j k)) j k) := fun _ _ => a5n _
  have hstart : hap A [some ⟨4, [Rv d1]⟩, some ⟨1, []⟩] = hap G0 (a0R (lid G0 0) (a0s cs 0).length 4 b.length none fun j k => Rv (N j k)) := by
    rw [hG0]; simp [hap, a0R, orow, fr, d6c]
  rw [← hG0l]
  generalize hβd : lid H 1 = β at *
  refine Safe.lp rfl ?_
  refine Safe.keep [0, 6, 7, 9, 10] ?_
  try simp only [E3, seval]
  refine Safe.loopN b.length (fun i => [(0, matV b), (6, .mu β 0 cs.length none), (7, hsV cs), (9, .mu (lid G0 0) 0 (a0s cs i).length none), (10, .int .i64 i)]) (fun i => hap G0 (a0R (lid G0 0) (a0s cs i).length 4 b.length none fun j k => Rv (N j k))) rfl hstart (fun i hi ih => ?_) ?_
  · have hlt : ((i : Int) < (b.length : Int)) = True := eq_true (by omega)
    have hiw : IntKind.wrap .i64 ((i : Int) + 1) = ((i + 1 : Nat) : Int) := by rw [a0a] <;> omega
    have hki := b1f cs i
    have hGr : a0F (hap G0 (a0R (lid G0 0) (a0s cs i).length 4 b.length none fun j k => Rv (N j k))) := a5r (X := []) hG0r (by simp) fun j k _ _ => hS j k
    have hGo : (hap G0 (a0R (lid G0 0) (a0s cs i).length 4 b.length none fun j k => Rv (N j k)))[lid G0 0]? = some (some ⟨1, orow (lid G0 0) (a0s cs i).length b.length none fun i => i⟩) := by
      simp only [hap, lid]; rw [List.getElem?_append_right (by omega)]; simp [a0R, lid]
    have hGl : (hap G0 (a0R (lid G0 0) (a0s cs i).length 4 b.length none fun j k => Rv (N j k))).length = lid G0 0 + 1 + (a0s cs i).length := by simp [hap, lid, a3u]; omega
    have hsucc := c8M G0 (a0s cs i).length 4 b.length none fun j k => Rv (N j k)
    have hGf : Free (hap G0 (a0R (lid G0 0) (a0s cs i).length 4 b.length none fun j k => Rv (N j k))) (lid G0 0) := c8N (X := []) hG0r (by simp) fun j k _ _ => hS j k
    have hGβ : (hap G0 (a0R (lid G0 0) (a0s cs i).length 4 b.length none fun j k => Rv (N j k)))[β]? = some (some ⟨1, fr (wid b) fun i => rvV (M i) b.length⟩) := by
      simp only [hap]; rw [List.getElem?_append_left (a0h hβ0)]; exact hβ0
    rw [← a1F (hap G0 (a0R (lid G0 0) (a0s cs i).length 4 b.length none fun j k => Rv (N j k)))]
    refine Safe.inLoop ?_
    refine Safe.rg rfl ?_
    simp only [a8h, hlt, E3, seval]
    refine Safe.cd rfl ?_
    simp only [E3, seval]
    refine Safe.rg rfl ?_
    simp only [b5C, E3, seval]
    refine Safe.rg rfl ?_
    simp only [b2K, E3, seval]
    refine Safe.lp rfl ?_
    refine Safe.keep [0, 6, 7, 9, 10, 11, 12] ?_
    simp only [E3, seval]
    generalize hGd : hap G0 (a0R (lid G0 0) (a0s cs i).length 4 b.length none fun j k => Rv (N j k)) = G at *
    refine Safe.loopN cs.length (fun j => [(0, matV b), (6, .mu β 0 cs.length none), (7, hsV cs), (9, .mu (lid G0 0) 0 (a0s cs i).length none), (10, .int .i64 i), (11, .bool (isB cs i j)), (12, .int .i64 j)]) (fun _ => hap G []) rfl rfl (fun j hj ihj => ?_) ?_
    · have hlt2 : ((j : Int) < (cs.length : Int)) = True := eq_true (by omega)
      have hjw : IntKind.wrap .i64 ((j : Int) + 1) = ((j + 1 : Nat) : Int) := by rw [a0a] <;> omega
      rw [e4p] at ihj
      refine Safe.inLoop ?_
      refine Safe.rg rfl ?_
      simp only [a6S, c8X, hlt2, E3, seval]
      refine Safe.cd rfl ?_
      simp only [E3, seval]
      cases hb : isB cs i j with
      | true =>
        refine Safe.rg rfl ?_
        simp only [a4k, hb, E3, seval]
        refine Safe.rg rfl ?_
        simp only [a4j, hjw, E3, seval]
        refine Safe.keep [0, 6, 7, 9, 10, 11, 12] ?_
        simp only [E3, seval]
        rw [hb, Bool.true_or] at ihj
        exact ihj
      | false =>
        rw [hb, Bool.false_or] at ihj
        by_cases he2 : cs.getD j 0 = i
        · have h2 : (((cs.getD j 0 : Nat) : Int) = (i : Int)) = True := eq_true (by omega)
          have h3 : (cs.getD j 0 == i) = true := by simpa using he2
          rw [h3] at ihj
          refine Safe.rg rfl ?_
          simp only [a4k, hb, e4y _ cs j hj, intV, h2, E3, seval]
          refine Safe.rg rfl ?_
          simp only [a4j, hjw, E3, seval]
          refine Safe.keep [0, 6, 7, 9, 10, 11, 12] ?_
          simp only [E3, seval]
          exact ihj
        · have h2 : (((cs.getD j 0 : Nat) : Int) = (i : Int)) = False := eq_false (by omega)
          have h3 : (cs.getD j 0 == i) = false := by simpa using he2
          rw [h3] at ihj
          refine Safe.rg rfl ?_
          simp only [a4k, hb, e4y _ cs j hj, intV, h2, E3, seval]
          refine Safe.rg rfl ?_
          simp only [a4j, hjw, E3, seval]
          refine Safe.keep [0, 6, 7, 9, 10, 11, 12] ?_
          simp only [E3, seval]
          exact ihj
    · refine Safe.inLoop ?_
      refine Safe.rg rfl ?_
      simp only [a6S, c8X, Int.lt_irrefl, E3, seval]
      refine Safe.cd rfl ?_
      simp only [E3, seval]
      refine Safe.rg rfl ?_
      simp only [b2J, E3, seval]
      cases hp : hpos cs i with
      | some j =>
        have hb := e4q hp
        rw [c6i hp, ← a1F (hap G0 _), hGd] at ih
        refine Safe.cd rfl ?_
        simp only [hb, E3, seval]
        refine Safe.rg rfl ?_
        simp only [a6P, hiw, E3, seval]
        refine Safe.keep [0, 6, 7, 9, 10] ?_
        simp only [E3, seval]
        exact ih
      | none =>
        have hb := e4r hp
        refine Safe.cd rfl ?_
        simp only [hb, E3, seval]
        obtain ⟨hkn, hkg⟩ := d6d hi hp
        have hn0 : H.length ≤ lid G 0 := by simp only [lid] at hGl ⊢; omega
        have hne : lid G0 0 ≠ lid G 0 := by simp only [lid] at hGl ⊢; omega
        have hbe : β ≠ lid G 0 := by have := a0h hGβ; unfold lid; omega
        have hnr1 : nref (lid G 0) (.mu (lid G0 0) 0 (a0s cs i).length none) = true := a3Z hne
        have hnr2 : ∀ x oc, nref (lid G 0) (.mu β 0 x oc) = true := fun x oc => a3Z hbe
        have hnr3 : nref (lid G 0) (hsV cs) = true := a1z (b1c _)
        refine Safe.rg rfl ?_
        simp only [b2I, E3, seval]
        refine Safe.nilrow 13 4 (by decide) (by simp only [E3, seval]) ?_
        refine Safe.rg rfl ?_
        simp only [b2H, E3, seval]
        refine Safe.lp rfl ?_
        refine Safe.keep [0, 6, 7, 9, 10, 13, 14] ?_
        try simp only [E3, seval]
        refine Safe.loopN b.length (fun k => [(0, matV b), (6, .mu β 0 cs.length none), (7, hsV cs), (9, .mu (lid G0 0) 0 (a0s cs i).length none), (10, .int .i64 i), (13, .mu (lid G 0) 0 k none), (14, .int .i64 k)]) (fun k => hap G [some ⟨4, fr k fun _ => Rv 0⟩]) rfl rfl (fun k hk ihk => ?_) ?_
        · have hlt3 : ((k : Int) < (b.length : Int)) = True := eq_true (by omega)
          have hkw : IntKind.wrap .i64 ((k : Int) + 1) = ((k + 1 : Nat) : Int) := by rw [a0a] <;> omega
          refine Safe.inLoop ?_
          refine Safe.rg rfl ?_
          simp only [a6R, hlt3, E3, seval]
          refine Safe.cd rfl ?_
          simp only [E3, seval]
          refine Safe.rg rfl ?_
          simp only [b2G, E3, seval]
          first | refine (a0Q 0 (by decide) (by decide)).acall ?_ | refine (a0Q 0 (by decide) (by decide)).dcall ?_
          try simp only [E3, seval]
          refine (a7B (canZ 0) ((a0l (k := 1) (by decide)).mono (by decide))).acall ?_
          rw [a0o]
          simp only [a3g, a0H, a0z, E3, seval]
          rw [e5S (f := fun _ => Rv 0) (y := Rv ((0 : Int) : Rat)) hGr hn0 (fun _ => a5n _) rfl (by omega) (by omega)]
          simp only [hnr1, hnr2, hnr3, E3, seval]
          refine Safe.rg rfl ?_
          simp only [b2F, hkw, E3, seval]
          refine Safe.keep [0, 6, 7, 9, 10, 13, 14] ?_
          simp only [E3, seval]
          exact ihk
        · refine Safe.inLoop ?_
          refine Safe.rg rfl ?_
          simp only [a6R, Int.lt_irrefl, E3, seval]
          refine Safe.cd rfl ?_
          simp only [E3, seval]
          have hf0 : (fr b.length fun j => if j = i then Rv ((1 : Int) : Rat) else Rv 0) = fr b.length fun j => Rv (y (fun t => decide (t < 0)) i j) := a2L fun j _ => by
            have e0 : (fun t : Nat => decide (t < 0)) = fun _ => false := funext fun t => by simp
            rw [e0, hy0]
            split <;> rfl
          have hRv1 : AV.agg [AV.bool (decide (((1 : Int) : Rat).num < 0)), natV (limbs ((1 : Int) : Rat).num.natAbs), AV.bool false, natV (limbs ((1 : Int) : Rat).den)] = Rv ((1 : Int) : Rat) := rfl
          refine Safe.rg rfl ?_
          simp only [b2E, E3, seval]
          first | refine (a0Q 1 (by decide) (by decide)).acall ?_ | refine (a0Q 1 (by decide) (by decide)).dcall ?_
          try simp only [E3, seval]
          refine (a7B (canZ 1) ((a0l (k := 1) (by decide)).mono (by decide))).acall ?_
          rw [a0o]
          simp only [e6T hi, E3, seval]
          simp only [e8s hi, hf0, E3, seval]
          refine Safe.rg rfl ?_
          simp only [b2D, E3, seval]
          refine Safe.lp rfl ?_
          refine Safe.keep [0, 6, 7, 9, 10, 13, 15] ?_
          simp only [E3, seval]
          refine Safe.loopN cs.length (fun j => [(0, matV b), (6, .mu β 0 cs.length none), (7, hsV cs), (9, .mu (lid G0 0) 0 (a0s cs i).length none), (10, .int .i64 i), (13, .mu (lid G 0) 0 b.length none), (15, .int .i64 j)]) (fun j => hap G [some ⟨4, fr b.length fun k => Rv (y (fun t => decide (t < j)) i k)⟩]) rfl rfl (fun j hj ihj => ?_) ?_
          · have hlt4 : ((j : Int) < (cs.length : Int)) = True := eq_true (by omega)
            have hjw : IntKind.wrap .i64 ((j : Int) + 1) = ((j + 1 : Nat) : Int) := by rw [a0a] <;> omega
            have hcj := hcn j hj
            have hfj : (fr b.length fun k => if k = cs.getD j 0 then Rv (-(M j i)) else Rv (y (fun t => decide (t < j)) i k)) = fr b.length fun k => Rv (y (fun t => decide (t < j + 1)) i k) := a2L fun k _ => by
              rw [← hys (fun t => decide (t < j)) (fun t => decide (t < j + 1)) i j hp hj (by intro t; rw [Bool.eq_iff_iff]; simp; omega) k]
              split <;> rfl
            have hng := b8Q (M j i) (hrokT j i) (by omega)
            refine Safe.inLoop ?_
            refine Safe.rg rfl ?_
            simp only [a6Q, c8X, hlt4, E3, seval]
            refine Safe.cd rfl ?_
            simp only [E3, seval]
            refine Safe.rg rfl ?_
            simp only [b2C, e4y _ cs j hj, intV, e9J hGβ _ hj, B_at hGβ (fun _ _ => rfl) _ (show j < wid b by omega), d1H _ (M j) .i64 hi, a0H, e6T hcj, E3, seval]
            refine hng.dcall ?_
            simp only [e6T hcj, E3, seval]
            simp only [e8s hcj, hfj, E3, seval]
            refine Safe.rg rfl ?_
            simp only [b2B, hjw, E3, seval]
            refine Safe.keep [0, 6, 7, 9, 10, 13, 15] ?_
            simp only [E3, seval]
            exact ihj
          · refine Safe.inLoop ?_
            refine Safe.rg rfl ?_
            simp only [a6Q, c8X, Int.lt_irrefl, E3, seval]
            refine Safe.cd rfl ?_
            simp only [E3, seval]
            have hrow : (fr b.length fun k => Rv (y (fun t => decide (t < cs.length)) i k)) = fr b.length fun k => Rv (N (a0s cs i).length k) := a2L fun k hk => by
              rw [hya (fun t => decide (t < cs.length)) i (fun t ht => by simpa using ht) k, hNd, if_pos ⟨hkn, hk⟩, hkg]
            rw [hrow]
            refine Safe.rg rfl ?_
            simp only [b2A, E3, seval]
            rw [e2G (ys := [.mu (lid G 0) 0 b.length none]) hGo (Nat.le_trans hnG (a1q G0 0)) (by simp [orow, b7O]) (by simp [a0S, a1k]) (by simp)
              (d7u hGf (by
                intro x hx a ha
                simp at hx
                rcases hx with rfl | rfl
                · exact (a4d (fun k _ => hS _ k) a ha).ref
                · simp [Blk.flat, AV.cells] at ha; subst ha; exact .mu _ _ _ _ (Ne.symm hne)))
              (by intro a ha; simp [AV.cells] at ha; subst ha; exact .mu _ _ _ _ (Ne.symm hne))
              (fun a ha => b7f (fun j hj => by show _ ≠ _; omega) a ha) (by simp; omega) (by simp; omega)]
            have hnr4 : nref (lid G0 0) (.mu β 0 cs.length none) = true := a3Z (by have := a0h hβ0; have := a1q G0 0; omega)
            have hnr5 : nref (lid G0 0) (hsV cs) = true := a1z (b1c _)
            simp only [hnr1, hnr4, hnr5, E3, seval]
            refine Safe.rg rfl ?_
            simp only [a6P, hiw, E3, seval]
            refine Safe.keep [0, 6, 7, 9, 10] ?_
            simp only [hnr4, hnr5, E3, seval]
            have hl : (a0s cs (i + 1)).length = (a0s cs i).length + 1 := by rw [b1T hp, List.length_append]; rfl
            rw [hl] at ih
            have e2 : ∀ o, hap (G.set (lid G0 0) (some ⟨1, orow (lid G0 0) (a0s cs i).length b.length none (fun i => i) ++ [.mu (lid G 0) 0 b.length none]⟩)) [some ⟨4, fr b.length fun k => Rv (N (a0s cs i).length k)⟩, o] =
                hap (hap G0 (a0R (lid G0 0) ((a0s cs i).length + 1) 4 b.length none fun j k => Rv (N j k))) ([] ++ [o]) := by
              intro o
              rw [← hsucc]; simp [hap]
            rw [e2]
            have hGl2 : (hap G0 (a0R (lid G0 0) ((a0s cs i).length + 1) 4 b.length none fun j k => Rv (N j k))).length = lid G0 0 + 1 + ((a0s cs i).length + 1) := by simp [hap, lid, a3u]; omega
            have hlid : lid (hap G0 (a0R (lid G0 0) ((a0s cs i).length + 1) 4 b.length none fun j k => Rv (N j k))) 0 = lid G0 0 + 1 + ((a0s cs i).length + 1) := hGl2
            refine Safe.dropG (a5r (X := []) hG0r (by simp) fun j k _ _ => hS j k) (by show H.length ≤ _; have := a1q G0 0; rw [hGl2]; omega) ?_ (by simp) ?_
            · have q1 : nref (lid (hap G0 (a0R (lid G0 0) ((a0s cs i).length + 1) 4 b.length none fun j k => Rv (N j k))) 0) (.mu (lid G0 0) 0 ((a0s cs i).length + 1) none) = true := a3Z (by rw [hlid]; omega)
              have q2 : nref (lid (hap G0 (a0R (lid G0 0) ((a0s cs i).length + 1) 4 b.length none fun j k => Rv (N j k))) 0) (.mu β 0 cs.length none) = true := a3Z (by rw [hlid]; have := a0h hβ0; have := a1q G0 0; omega)
              have q3 : nref (lid (hap G0 (a0R (lid G0 0) ((a0s cs i).length + 1) 4 b.length none fun j k => Rv (N j k))) 0) (hsV cs) = true := a1z (b1c _)
              simp only [List.all_cons, List.all_nil, List.length_nil, q1, q2, q3, E3, seval]
            · rw [a1F]
              exact ih
  · rw [← a1F (hap G0 _)]
    rw [← hNr]
    refine Safe.inLoop ?_
    refine Safe.rg rfl ?_
    simp only [a8h, Int.lt_irrefl, E3, seval]
    refine Safe.cd rfl ?_
    simp only [E3, seval]
    refine Safe.rg rfl ?_
    simp only [b2z, E3, seval]
    rw [a1F]
    refine (hrg G0 hG0r).mono ?_
    rintro r' A3 ⟨h3, ⟨L3, hL3⟩, hHr3, rfl⟩
    rw [← a1F A3]
    have hβ3 : lid G0 0 < A3.length := a0h h3
    have hHA3 : H.length ≤ A3.length := by have := a1q G0 0; omega
    generalize lid G0 0 = γ at *
    have hnb : ∀ j (L : Nat) oc, nref (lid A3 j) (.mu γ 0 L oc) = true := fun j L oc => a3Z (by unfold lid; omega)
    have hnc : ∀ j, nref j (hsV cs2) = true := fun j => a1z (b1c _)
    simp only [a0z, a0H, a3g, E3, seval]
    refine Safe.rg rfl ?_
    simp only [b2y, E3, seval]
    refine Safe.nilrow 19 1 (by decide) (by simp only [E3, seval]) ?_
    refine Safe.rg rfl ?_
    simp only [b2x, E3, seval]
    refine Safe.lp rfl ?_
    refine Safe.keep [16, 19, 20] ?_
    try simp only [E3, seval]
    refine Safe.loopN (cs2.length) (fun i => [(16, .mu γ 0 cs2.length none), (19, .mu (lid A3 1) 0 i none), (20, .int .i64 i)]) (fun i => hap A3 [some ⟨4, [Rv d2]⟩, some ⟨1, (mat i fun i => vec b.length (a1d (outI (M2 i) b.length) b.length)).map vecV⟩]) rfl rfl (fun i hi ih => ?_) ?_
    · have hlt : ((i : Int) < (cs2.length : Int)) = True := eq_true (by omega)
      have hiw : IntKind.wrap .i64 ((i : Int) + 1) = ((i + 1 : Nat) : Int) := by rw [a0a] <;> omega
      refine Safe.inLoop ?_
      refine Safe.rg rfl ?_
      simp only [a6O, e9I h3, hlt, E3, seval]
      refine Safe.cd rfl ?_
      simp only [E3, seval]
      refine Safe.rg rfl ?_
      simp only [b2w, e9J h3 _ hi, B_at h3 (fun _ _ => rfl) _ (show i < nr by omega), E3, seval]
      first | refine (hwh i hi).acall ?_ | refine (hwh i hi).dcall ?_
      try simp only [E3, seval]
      rw [b1A (bytes := 24) (y := vecV (vec b.length (a1d (outI (M2 i) b.length) b.length))) hHr3 1 (by show H.length ≤ _; unfold lid; omega) a0g (mat i fun i => vec b.length (a1d (outI (M2 i) b.length) b.length)) (vec b.length (a1d (outI (M2 i) b.length) b.length)) (mat (i + 1) fun i => vec b.length (a1d (outI (M2 i) b.length) b.length)) (by rw [a0n]) rfl (RC.one (a5n _) (RC.row a0g RC.nil)) rfl (b7s _ _) (by omega) (by omega)]
      simp only [E3, seval]
      refine Safe.rg rfl ?_
      simp only [b2v, hiw, E3, seval]
      refine Safe.keep [16, 19, 20] ?_
      simp only [hnb, hnc, E3, seval]
      exact ih
    · refine Safe.inLoop ?_
      refine Safe.rg rfl ?_
      simp only [a6O, e9I h3, Int.lt_irrefl, E3, seval]
      refine Safe.cd rfl ?_
      simp only [E3, seval]
      have hfm := d0L A3 1 (mat cs2.length fun i => vec b.length (a1d (outI (M2 i) b.length) b.length)) cs2.length none (by rw [a0n])
      refine Safe.freezeB 1 hHr3 hHA3 rfl (a1H 1 vecV _ a0g) ?_
      refine Safe.keep [19] ?_
      simp only [hfm, E3, seval]
      refine Safe.rg rfl ?_
      simp only [b2u, E3, seval]
      refine Safe.rt rfl ?_
      simp only [E3, seval]
      obtain ⟨L0, hL0⟩ := hG0H
      rw [hL3, hL0]
      exact ⟨_, by rw [b1Q, b1Q]⟩
end
end Go.Abs
namespace Go.Abs
theorem e3L {b : List (List ZI)} {e : Nat} (hm : Mok e b) (h0 : elE b = 0) : Mok (KB (KB e) + 1) (a3n (a1j (wid b) b.length (Bm (a0q b))) (a1Q (wid b) b.length (Bm (a0q b))) b.length) := by
  obtain ⟨hn, hw, _, _⟩ := c4z h0
  have hnr := (a2R (n := a1j (wid b) b.length (Bm (a0q b))) (B := a1Q (wid b) b.length (Bm (a0q b))) b.length).len
  have hle := a8K (m := wid b) (n := b.length) (B := Bm (a0q b))
  refine d5z (by omega) fun i hi => c3J (by omega) fun t ht => ?_
  exact Nat.lt_of_le_of_lt (b7d ht) (d6U (d5o (d6A (d4K hm)) hw hn hi) ht)
theorem e4n : KB (KB 1048576) + 1 < 10000000000 := by decide
theorem c6W (b : List (List ZI)) (hb : Mok 1048576 b) : a0d Pr a7V [matV b] (.bool true) := by
  have hb' := hb.mono (show 1048576 ≤ 17592186044416 by omega)
  have h : ∃ (m : List (List ZI)) (e : Int), Mok (KB (KB 1048576) + 1) m ∧ a0d Pr a5Z [matV b] (.tup [matV m, .int .i64 e]) ∧ a0d Pr a4G [matV b] (.tup [matV m, .int .i64 e]) := by
    by_cases h0 : elE b = 0
    · exact ⟨_, _, e3L hb h0, e3B b hb d7i h0, e3r b hb d7i h0⟩
    · exact ⟨_, _, ⟨by simp, by simp⟩, e0D b hb h0, e0v b hb h0⟩
  obtain ⟨m, e, hmm, h1, h2⟩ := h
  have hK := e4n
  generalize KB (KB 1048576) + 1 = K at *
  refine a0d.intro b7J b7I (Nat.le_of_ble_eq_true rfl) (.bool _) fun H hH => ?_
  refine Safe.rg rfl ?_
  simp only [a6A, E3, seval]
  refine Safe.rg rfl ?_
  simp only [a6z, E3, seval]
  first | refine (d3g b hb').acall ?_ | refine (d3g b hb').dcall ?_
  try simp only [E3, seval]
  first | refine (h1).acall ?_ | refine (h1).dcall ?_
  try simp only [E3, seval]
  refine Safe.rg rfl ?_
  simp only [a6y, E3, seval]
  first | refine (h2).acall ?_ | refine (h2).dcall ?_
  try simp only [E3, seval]
  refine Safe.rg rfl ?_
  simp only [a6x, E3, seval]
  first | refine (d7A m (hmm.mono (by omega))).acall ?_ | refine (d7A m (hmm.mono (by omega))).dcall ?_
  try simp only [E3, seval]
  refine Safe.rt rfl ?_
  simp only [E3, seval]
  first | exact ⟨rfl, _, rfl⟩ | exact ⟨_, rfl⟩ | exact ⟨trivial, _, rfl⟩
end Go.Abs

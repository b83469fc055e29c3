/- Part 6 of the proof of ElimProducts: W20, W21, W22, W23, W24, W26, W28, W30, W31, W35, O1, O2, O3. -/
import Derived.Test.YtkljokmnimblnaaElimProductsK5
import Derived.Test.YtkljokmnimblnaaRows
import Derived.OpenShut
import Derived.ChangeArms
import Derived.Carry
import Derived.WalkKit
import Derived.ProofKit
import Derived.JoinedCond
set_option linter.unusedVariables false
set_option linter.unusedSimpArgs false
namespace Go.Abs
/-- A matrix's logical entries: whole numbers. -/
structure Lz (n c K : Nat) (π : Nat → Nat) (S : Nat → Nat → AV) (f : Nat → Nat → Int) : Prop where
  lt : ∀ a, a < n → π a < n
  inj : ∀ a b, a < n → b < n → π a = π b → a = b
  at_ : ∀ a b, a < n → b < c → ∃ x : ZI, S (π a) b = x.av ∧ x.z = f a b ∧ Zok K x
  cl : ∀ a b, Cl (S a b)
theorem Lz.swap {n c K : Nat} {π : Nat → Nat} {S : Nat → Nat → AV} {f : Nat → Nat → Int} (h : Lz n c K π S f) {p r : Nat} (hp : p < n) (hr : r < n) : Lz n c K (swp π p r) S fun a b => if a = p then f r b else if a = r then f p b else f a b := by
  have h0 : Lk n c π S fun a b => S (π a) b := ⟨h.lt, h.inj, fun _ _ _ _ => rfl, h.cl⟩
  have hs := Lk.swap (f := fun x : AV => x) h0 hp hr
  refine ⟨hs.lt, hs.inj, fun a b ha hb => ?_, h.cl⟩
  unfold swp
  split
  · exact h.at_ r b hr hb
  · split
    · exact h.at_ p b hp hb
    · exact h.at_ a b ha hb
/-- Row j from a place on told anew. -/
def tailS (S : Nat → Nat → AV) (j : Nat) (f : Nat → AV) (t : Nat) : Nat → Nat → AV := fun a b => if a = j ∧ t ≤ b then f b else S a b
theorem tailS_at {S : Nat → Nat → AV} {j : Nat} {f : Nat → AV} {t b : Nat} (h : b < t) : tailS S j f t j b = S j b := by simp [tailS]; omega
theorem tailS_ne {S : Nat → Nat → AV} {j a : Nat} {f : Nat → AV} {t b : Nat} (h : a ≠ j) : tailS S j f t a b = S a b := by simp [tailS, h]
theorem tailS_step (S : Nat → Nat → AV) (j : Nat) (f : Nat → AV) (t : Nat) : upd2 (tailS S j f (t + 1)) j t (f t) = tailS S j f t := by
  funext a b
  unfold upd2 tailS
  by_cases h1 : a = j
  · subst h1
    by_cases h2 : b = t
    · subst h2; simp
    · by_cases h3 : t + 1 ≤ b
      · rw [if_pos rfl, if_neg h2, if_pos ⟨rfl, h3⟩, if_pos ⟨rfl, by omega⟩]
      · rw [if_pos rfl, if_neg h2, if_neg (by omega), if_neg (by omega)]
  · rw [if_neg h1, if_neg (by omega), if_neg (by omega)]
theorem tailS_cl {S : Nat → Nat → AV} {j : Nat} {f : Nat → AV} {t : Nat} (hS : ∀ a b, Cl (S a b)) (hf : ∀ b, Cl (f b)) : ∀ a b, Cl (tailS S j f t a b) := by
  intro a b; unfold tailS; split
  · exact hf b
  · exact hS a b
theorem rat_num_int {q : Rat} {z : Int} (h : q = z) : q.num = z ∧ (q.num : Rat) = q := by subst h; exact ⟨rfl, rfl⟩
section
variable {n c e K : Nat} (b : List (List ZI)) (B : Nat → Nat → Rat)
/-- The last head as a whole number. -/
def lastI (n : Nat) (B : Nat → Nat → Rat) (t : Nat) : Int := (gproc n B t).last.num
def ZgI (n : Nat) (B : Nat → Nat → Rat) (t a k : Nat) : Int := (Zg (gproc n B t) a k).num
section
variable (hB : Bd e B) (hn : n ≤ 64)
include hB hn
theorem lastI_eq (t : Nat) : (lastI n B t : Rat) = (gproc n B t).last ∧ (lastI n B t).natAbs ≤ LB ^ KB e := by
  obtain ⟨z, hz, hz1⟩ := lastD_gproc_kb hB hn t
  obtain ⟨h1, h2⟩ := rat_num_int hz
  exact ⟨h2, by unfold lastI; rw [h1]; exact hz1⟩
theorem ZgI_eq (t : Nat) {a : Nat} (k : Nat) (ha : a < n) : (ZgI n B t a k : Rat) = Zg (gproc n B t) a k ∧ (ZgI n B t a k).natAbs ≤ LB ^ KB e := by
  obtain ⟨z, hz, hz1⟩ := Zg_bound hB hn t k ha
  obtain ⟨h1, h2⟩ := rat_num_int hz
  exact ⟨h2, by unfold ZgI; rw [h1]; exact hz1⟩
omit hB hn in
theorem ZgI_unique (t : Nat) {a : Nat} (k : Nat) {z : Int} (h : (z : Rat) = Zg (gproc n B t) a k) : z = ZgI n B t a k := by
  unfold ZgI; rw [← h]; rfl
end
def bScp : ACode := .seq (.region elim_bareiss_r1 false) (.seq (.region elim_bareiss_r2 false) (.seq (.region elim_bareiss_r3 false) (.seq (.skip) (.seq (.seq (.region elim_bareiss_r4 false) (.block 0 (.loop elim_bareiss_l0))) (.seq (.region elim_bareiss_r26 true) (.ret))))))
theorem hrefs_hap {H X : Heap} (hH : HRefs H) (hX : ∀ b, some b ∈ X → ∀ a ∈ b.flat, Cl a) : HRefs (hap H X) := by
  intro id b hb a ha
  have hlen : (hap H X).length = H.length + X.length := by simp [hap]
  simp only [hap] at hb
  rcases Nat.lt_or_ge id H.length with h1 | h1
  · rw [List.getElem?_append_left h1] at hb
    exact (hH id b hb a ha).mono fun i hi => by have : i < H.length := hi; show i < _; omega
  · rw [List.getElem?_append_right h1] at hb
    exact (hX b (List.mem_of_getElem? hb) a ha).ref
/-- What bareiss hands out. -/
def bareissR (H : Heap) (n c e : Nat) (B : Nat → Nat → Rat) (r' : AV) (H' : Heap) : Prop := ∃ β π S L lx, Lz n c (KB e + 1) π S (ZgI n B c) ∧ H.length ≤ β ∧ β + n < (hap H L).length ∧ H' = hM (hap H L) β n 2 c (some c) π S ∧ HRefs H' ∧
      ZI.z lx = lastI n B c ∧ Zok (KB e + 1) lx ∧ r' = .tup [.mu β 0 n (some n), hsV (gproc n B c).cs, lx.av, .bool (gproc n B c).odd]
theorem bareiss_calls (hb : ∀ i, (h : i < b.length) → b[i].length = c) (hBb : ∀ a k, B a k = (zg (mg b a) k : Int)) (hm : Mok e b) (hB : Bd e B) (hn : b.length = n) (hn64 : n ≤ 64) (hc : c ≤ 2097152) (hK : KB e + 1 < 1099511627776) (H : Heap) :
    ACalls Pr F_elim_bareiss [matV b, .int .i64 c] H (bareissR H n c e B) := by
  refine ACalls.introH elim_bareiss_fn elim_bareiss_ok (Nat.le_of_ble_eq_true rfl) fun hH => ?_
  have hBi : ∀ i k, ∃ z : Int, B i k = z := fun i k => by obtain ⟨z, h, _⟩ := hB i k; exact ⟨z, h⟩
  refine Safe.rg rfl ?_
  simp only [elim_bareiss_r0, E3, seval]
  refine Safe.rg rfl ?_
  simp only [elim_bareiss_r1, E3, seval]
  refine (copied_calls b hb (by omega) hc (hap H [some ⟨2, [.agg [.bool false, .nil]]⟩])).mono ?_
  rintro r' H' ⟨rfl, rfl⟩
  simp only [E3, seval]
  have e0 : lid (hap H [some ⟨2, [.agg [.bool false, .nil]]⟩]) 0 = lid H 1 := by simp [hap, lid]
  rw [e0, hap_hap', hn]
  have hX : ∀ x, some x ∈ [some (Blk.mk 2 [.agg [.bool false, .nil]])] → ∀ a ∈ x.flat, Cl a := RC.zero RC.nil
  have hS0 : ∀ j k, Cl (zav b j k) := fun _ _ => ZI.cl _
  have hGr : HRefs (hap H ([some ⟨2, [.agg [.bool false, .nil]]⟩] ++ mrows (lid H 1) n 2 c (some c) (zav b))) := mrows_refs hH hX fun j k _ _ => hS0 j k
  have hGm : hM (hap H ([some ⟨2, [.agg [.bool false, .nil]]⟩] ++ mrows (lid H 1) n 2 c (some c) (zav b))) (lid H 1) n 2 c (some c) (fun i => i) (zav b) = hap H ([some ⟨2, [.agg [.bool false, .nil]]⟩] ++ mrows (lid H 1) n 2 c (some c) (zav b)) := hM_rows H [some ⟨2, [.agg [.bool false, .nil]]⟩] n 2 c (some c) (zav b)
  have hG : lid H 1 + n < (hap H ([some ⟨2, [.agg [.bool false, .nil]]⟩] ++ mrows (lid H 1) n 2 c (some c) (zav b))).length := mrows_lt H [some ⟨2, [.agg [.bool false, .nil]]⟩] n 2 c (some c) (zav b)
  have hbox : (hap H ([some ⟨2, [.agg [.bool false, .nil]]⟩] ++ mrows (lid H 1) n 2 c (some c) (zav b)))[lid H 0]? = some (some ⟨2, [.agg [.bool false, .nil]]⟩) := by
    simp only [hap, lid, Nat.add_zero]
    rw [List.getElem?_append_right (Nat.le_refl _)]; simp
  have hGH : ∃ L0, hap H ([some ⟨2, [.agg [.bool false, .nil]]⟩] ++ mrows (lid H 1) n 2 c (some c) (zav b)) = hap H L0 := ⟨_, rfl⟩
  rw [← hGm] at hGr
  rw [← hGm, ← hap_nil (hM _ _ _ _ _ _ _ _)]
  clear hGm
  generalize hap H ([some ⟨2, [.agg [.bool false, .nil]]⟩] ++ mrows (lid H 1) n 2 c (some c) (zav b)) = G at *
  have hb01 : lid H 0 < lid H 1 := by simp [lid]
  have hb0 : H.length ≤ lid H 1 := lid_ge H 1
  have hb00 : H.length ≤ lid H 0 := lid_ge H 0
  have hbl : lid H 0 = H.length := by simp [lid]
  generalize lid H 1 = β at *
  generalize lid H 0 = b0 at *
  have hHn : H.length ≤ G.length := by omega
  refine Safe.rg rfl ?_
  simp only [elim_bareiss_r2, E3, seval]
  refine Safe.nilrow 9 1 (by decide) (by simp only [E3, seval]) ?_
  refine Safe.rg rfl ?_
  simp only [elim_bareiss_r3, lid_hM, hrow_locM, set_locM, st_zeroM, E3, seval]
  first | refine (zof_pure 1 (by decide) (by decide)).acall ?_ | refine (zof_pure 1 (by decide) (by decide)).dcall ?_
  try simp only [E3, seval]
  simp only [lid_hM, hrow_locM, set_locM, st_zeroM, E3, seval]
  refine Safe.rg rfl ?_
  simp only [elim_bareiss_r4, lid_hM, hrow_locM, set_locM, st_zeroM, E3, seval]
  refine Safe.lp rfl ?_
  refine Safe.keep [6, 8, 9, 10, 11, 21, 22] ?_
  simp only [lid_hM, hrow_locM, set_locM, st_zeroM, E3, seval]
  have hlast0 : lastI n B 0 = 1 := by unfold lastI; rfl
  refine Safe.loopW (α := Nat × (Nat → Nat) × (Nat → Nat → AV) × ZI) (fun s => c - s.1)
    (fun s => [(6, .loc b0 0 0), (8, .mu β 0 n (some n)), (9, .mu (lid G 0) 0 (gproc n B s.1).cs.length none), (10, .loc (lid G 1) 0 0), (11, .bool (gproc n B s.1).odd), (21, .int .i64 c), (22, .int .i64 s.1)])
    (fun s => hap (hM G β n 2 c (some c) s.2.1 s.2.2.1) [some ⟨1, (gproc n B s.1).cs.map intV⟩, some ⟨2, [s.2.2.2.av]⟩])
    (fun s => s.1 ≤ c ∧ Lz n c (KB e + 1) s.2.1 s.2.2.1 (ZgI n B s.1) ∧ s.2.2.2.z = lastI n B s.1 ∧ Zok (KB e + 1) s.2.2.2) (0, fun i => i, zav b, canZ 1) rfl rfl
    ⟨Nat.zero_le _, ⟨fun a h => h, fun _ _ _ _ h => h, fun a k ha hk => ?_, hS0⟩, by rw [hlast0]; exact canZ_z 1, zok_can (lb_one _)⟩ ?_
  · refine ⟨(mg b a).getD k ⟨false, []⟩, rfl, ?_, ?_⟩
    · refine ZgI_unique B 0 k (a := a) ?_
      show ((zg (mg b a) k : Int) : Rat) = Zg (gproc n B 0) a k
      rw [Zg_low k (Nat.zero_le _)]
      show ((zg (mg b a) k : Int) : Rat) = lastD B [] * gauss B [] a k
      rw [lastD_nil, gauss_nil, hBb]; grind
    · have hr := hm.row a
      have hl : (mg b a).length = c := by rw [mg_lt (by omega)]; exact hb a (by omega)
      rw [List.getD_eq_getElem?_getD, List.getElem?_eq_getElem (by omega)]
      exact (hr.get (by omega)).mono (by unfold KB; omega)
  rintro ⟨t, π, S1, lx⟩ ⟨ht, hL, hlz, hlk⟩ ih
  simp only at ht hL hlz hlk ih ⊢
  have hok := gok_proc (n := n) hBi t
  have hrn := hok.len
  have hHr : ∀ {K : Nat} {π' : Nat → Nat} {S' : Nat → Nat → AV} {F : Nat → Nat → Int}, Lz n c K π' S' F → HRefs (hM G β n 2 c (some c) π' S') := fun h => hM_refs hG hGr h.lt fun a b _ _ => h.cl a b
  have htlt : t < 9223372036854775807 := by omega
  have htw : IntKind.wrap .i64 ((t : Int) + 1) = ((t + 1 : Nat) : Int) := by rw [wrap_i64] <;> omega
  refine Safe.inLoop ?_
  by_cases htc : t < c
  · have hlt : ((t : Int) < (c : Int)) = True := eq_true (by omega)
    refine Safe.rg rfl ?_
    simp only [elim_bareiss_r5, hlt, E3, seval]
    refine Safe.cd rfl ?_
    simp only [E3, seval]
    refine Safe.rg rfl ?_
    simp only [elim_bareiss_r6, E3, seval]
    refine Safe.rg rfl ?_
    simp only [elim_bareiss_r7, lid_hM, hrow_locM, set_locM, st_zeroM, E3, seval]
    refine Safe.rg rfl ?_
    simp only [elim_bareiss_r8, E3, seval]
    have entry : ∀ q, q < n → ∃ x : ZI, S1 (π q) t = x.av ∧ x.z = ZgI n B t q t ∧ Zok (KB e + 1) x := fun q hq => hL.at_ q t hq htc
    have hzg : ∀ q k, (gproc n B t).cs.length ≤ q → q < n → (ZgI n B t q k : Rat) = (gproc n B t).last * (gproc n B t).g q k := fun q k h1 h2 => by
      rw [(ZgI_eq B hB hn64 t k h2).1, Zg_low k h1]
    have hlne : (gproc n B t).last ≠ 0 := lastD_ne hok.piv
    have hz0 : ∀ q, (gproc n B t).cs.length ≤ q → q < n → (ZgI n B t q t = 0 ↔ (gproc n B t).g q t = 0) := fun q h1 h2 => by
      have h := hzg q t h1 h2
      constructor
      · intro h0; rw [h0] at h
        have : (gproc n B t).last * (gproc n B t).g q t = 0 := by rw [← h]; rfl
        rcases Rat.mul_eq_zero.1 this with h | h
        · exact absurd h hlne
        · exact h
      · intro h0; rw [h0, Rat.mul_zero] at h
        exact Rat.intCast_inj.1 (by rw [h]; rfl)
    rcases firstNZ_cases (fun p => (gproc n B t).g p t) (gproc n B t).cs.length n with ⟨p, hf, h1, h2, h3, h4⟩ | ⟨hf, h4⟩
    · have hcs : (gproc n B (t + 1)).cs = (gproc n B t).cs ++ [t] := by
        show (gstep n (gproc n B t) t).cs = _
        rw [gstep_some hf]
      have hodd : (gproc n B (t + 1)).odd = if p = (gproc n B t).cs.length then (gproc n B t).odd else !(gproc n B t).odd := by
        show (gstep n (gproc n B t) t).odd = _
        rw [gstep_some hf]
      have hr : (gproc n B t).cs.length < n := by omega
      obtain ⟨hlq, hlb⟩ := lastI_eq B hB hn64 t
      obtain ⟨hlq1, hlb1⟩ := lastI_eq B hB hn64 (t + 1)
      have hls := last_succ hf h1 hok
      have hgz := g_zero (n := n) hBi t
      have hgz1 := g_zero (n := n) hBi (t + 1)
      have hZab : ∀ a k, a < (gproc n B t).cs.length → ZgI n B (t + 1) a k = ZgI n B t a k := fun a k ha => by unfold ZgI; rw [Zg_above hf h1 k ha]
      have hZhd : ∀ k, ZgI n B (t + 1) (gproc n B t).cs.length k = ZgI n B t p k := fun k => by
        refine (ZgI_unique B (t + 1) k ?_).symm
        rw [hzg p k h1 h2, Zg_head hf h1 k]
      have hZpt : (ZgI n B t p t : Rat) = (gproc n B t).last * (gproc n B t).g p t := hzg p t h1 h2
      have hlast1 : ZgI n B t p t = lastI n B (t + 1) := Rat.intCast_inj.1 (by rw [hZpt, hlq1, hls])
      have hl0 : lastI n B t ≠ 0 := fun h => hlne (by rw [← hlq, h]; rfl)
      -- the new rows below
      have hrows : ∀ i k, (gproc n B t).cs.length < i → i < n → ZgI n B t p t * ZgI n B t (if i = p then (gproc n B t).cs.length else i) k - ZgI n B t (if i = p then (gproc n B t).cs.length else i) t * ZgI n B t p k = lastI n B t * ZgI n B (t + 1) i k := by
        intro i k hi hin
        have hσ1 : (gproc n B t).cs.length ≤ (if i = p then (gproc n B t).cs.length else i) := by split <;> omega
        have hσ2 : (if i = p then (gproc n B t).cs.length else i) < n := by split <;> omega
        obtain ⟨z, hz1, hz2⟩ := bareiss_exact hok (p := p) (c := t) (i := i) (k := k) h1 h3 hi hlq (hzg p t h1 h2) (hzg _ k hσ1 hσ2) (hzg _ t hσ1 hσ2) (hzg p k h1 h2)
        have : z = ZgI n B (t + 1) i k := by
          refine ZgI_unique B (t + 1) k ?_
          rw [hz2, Zg_below hf k hi, hls]
          have e : gproc n B (t + 1) = _ := gstep_some hf
          rw [e]; rfl
        rw [← this]; exact hz1
      have hzero : ∀ i k, (gproc n B t).cs.length < i → i < n → k < t → ZgI n B t (if i = p then (gproc n B t).cs.length else i) k = ZgI n B (t + 1) i k := by
        intro i k hi hin hk
        have hσ1 : (gproc n B t).cs.length ≤ (if i = p then (gproc n B t).cs.length else i) := by split <;> omega
        have hσ2 : (if i = p then (gproc n B t).cs.length else i) < n := by split <;> omega
        refine ZgI_unique B (t + 1) k ?_
        rw [hzg _ k hσ1 hσ2, hgz _ k hσ1 hσ2 hk, Zg_below hf k hi, hgz1 i k (by rw [hcs, len_snoc]; omega) hin (by omega)]
        grind
      have hZb : ∀ a k, a < n → (ZgI n B (t + 1) a k).natAbs < LB ^ (KB e + 1) := fun a k ha => by
        have h1 := (ZgI_eq B hB hn64 (t + 1) k ha).2
        have : LB ^ KB e < LB ^ (KB e + 1) := Nat.pow_lt_pow_right (by decide) (by omega)
        omega
      clear hlq hlq1 hls hgz hgz1 hzg
      generalize hcsl : (gproc n B t).cs.length = r at *
      let f0 : Nat → Nat → Int := fun a k => if a = p then ZgI n B t r k else if a = r then ZgI n B t p k else ZgI n B t a k
      have hf0r : ∀ k, f0 r k = ZgI n B t p k := fun k => by
        show (if r = p then ZgI n B t r k else if r = r then ZgI n B t p k else ZgI n B t r k) = _
        split
        · rename_i h; rw [h]
        · rw [if_pos rfl]
      have hf0i : ∀ i k, r < i → f0 i k = ZgI n B t (if i = p then r else i) k := fun i k hi => by
        show (if i = p then ZgI n B t r k else if i = r then ZgI n B t p k else ZgI n B t i k) = _
        split
        · rfl
        · rw [if_neg (by omega)]
      have hf0a : ∀ a k, a < r → f0 a k = ZgI n B t a k := fun a k ha => by
        show (if a = p then ZgI n B t r k else if a = r then ZgI n B t p k else ZgI n B t a k) = _
        rw [if_neg (by omega), if_neg (by omega)]
      have main : ∀ π', Lz n c (KB e + 1) π' S1 f0 → Safe ⟨Pr, fun _ _ => false, F_elim_bareiss, 147, [.tmp 4, .tmp 5, .cell 6 (some 2), .tmp 7], H.length⟩
          [.code (((ACode.region elim_bareiss_r15 false).seq (.block 4 (.loop elim_bareiss_l2))).seq ((ACode.region elim_bareiss_r23 false).seq (.region elim_bareiss_r24 false))),
            .inBlock 1, .code (.region elim_bareiss_r25 false), .inLoop elim_bareiss_l0, .inBlock 0, .code ((ACode.region elim_bareiss_r26 true).seq .ret), .inScope bScp]
          [(6, .loc b0 0 0), (8, .mu β 0 n (some n)), (9, .mu (lid G 0) 0 r none), (10, .loc (lid G 1) 0 0), (11, .bool (gproc n B (t + 1)).odd), (12, .int .i64 t), (13, .int .i64 r), (21, .int .i64 c), (22, .int .i64 t)]
          (hap (hM G β n 2 c (some c) π' S1) [some ⟨1, (gproc n B t).cs.map intV⟩, some ⟨2, [lx.av]⟩]) (bareissR H n c e B) := by
        intro π' hL'
        have hpr := hL'.lt r hr
        have hrw2 : IntKind.wrap .i64 ((r : Int) + 1) = ((r + 1 : Nat) : Int) := by rw [wrap_i64] <;> omega
        refine Safe.rg rfl ?_
        simp only [elim_bareiss_r15, hrw2, E3, seval]
        refine Safe.lp rfl ?_
        refine Safe.keep [6, 8, 9, 10, 11, 12, 13, 15, 21, 22] ?_
        try simp only [E3, seval]
        refine Safe.loopW (α := Nat × (Nat → Nat → AV)) (fun s => n - s.1)
          (fun s => [(6, .loc b0 0 0), (8, .mu β 0 n (some n)), (9, .mu (lid G 0) 0 r none), (10, .loc (lid G 1) 0 0), (11, .bool (gproc n B (t + 1)).odd), (12, .int .i64 t), (13, .int .i64 r), (15, .int .i64 s.1), (21, .int .i64 c), (22, .int .i64 t)])
          (fun s => hap (hM G β n 2 c (some c) π' s.2) [some ⟨1, (gproc n B t).cs.map intV⟩, some ⟨2, [lx.av]⟩])
          (fun s => r < s.1 ∧ s.1 ≤ n ∧ Lz n c (KB e + 1) π' s.2 (fun a k => if r < a ∧ a < s.1 then ZgI n B (t + 1) a k else f0 a k)) (r + 1, S1) rfl rfl
          ⟨Nat.lt_succ_self r, hr, hL'.lt, hL'.inj, fun a k ha hk => ?_, hL'.cl⟩ ?_
        · have := hL'.at_ a k ha hk
          show ∃ x : ZI, S1 (π' a) k = x.av ∧ x.z = (if r < a ∧ a < r + 1 then ZgI n B (t + 1) a k else f0 a k) ∧ Zok (KB e + 1) x
          rw [if_neg (by omega)]; exact this
        rintro ⟨i, S2⟩ ⟨hri, hin, hL2⟩ ih2
        simp only at hri hin hL2 ih2 ⊢
        refine Safe.inLoop ?_
        by_cases hi : i < n
        · have hlt2 : ((i : Int) < (n : Int)) = True := eq_true (by omega)
          have hiw : IntKind.wrap .i64 ((i : Int) + 1) = ((i + 1 : Nat) : Int) := by rw [wrap_i64] <;> omega
          have hcw : IntKind.wrap .i64 ((c : Int) - 1) = (c : Int) - 1 := wrap_i64 (by omega) (by omega)
          have hpi := hL2.lt i hi
          have hne : π' r ≠ π' i := fun h => by have := hL2.inj _ _ hr hi h; omega
          refine Safe.rg rfl ?_
          simp only [elim_bareiss_r16, M_len hG, hlt2, E3, seval]
          refine Safe.cd rfl ?_
          simp only [E3, seval]
          refine Safe.rg rfl ?_
          simp only [elim_bareiss_r17, M_idx hG hi, M_at hG hi, M_rlen hG hpi, hcw, E3, seval]
          refine Safe.lp rfl ?_
          refine Safe.keep [6, 8, 9, 10, 11, 12, 13, 15, 16, 21, 22] ?_
          try simp only [E3, seval]
          refine Safe.loopD (c - t) (fun m => [(6, .loc b0 0 0), (8, .mu β 0 n (some n)), (9, .mu (lid G 0) 0 r none), (10, .loc (lid G 1) 0 0), (11, .bool (gproc n B (t + 1)).odd), (12, .int .i64 t), (13, .int .i64 r), (15, .int .i64 i), (16, .int .i64 (((t + m : Nat) : Int) - 1)), (21, .int .i64 c), (22, .int .i64 t)])
            (fun m => hap (hM G β n 2 c (some c) π' (tailS S2 (π' i) (fun k => Z (ZgI n B (t + 1) i k)) (t + m))) [some ⟨1, (gproc n B t).cs.map intV⟩, some ⟨2, [lx.av]⟩]) ?_ ?_ (fun m hm ihm => ?_) ?_
          · rw [show t + (c - t) = c by omega]
          · rw [show t + (c - t) = c by omega]
            refine congrArg (fun x => hap x _) (hM_congr fun j k hj hk => ?_)
            unfold tailS; rw [if_neg (by omega)]
          · have hkc : t + m < c := by omega
            have e1 : (((t + (m + 1) : Nat) : Int) - 1) = ((t + m : Nat) : Int) := by omega
            rw [e1]
            have hge : (((t + m : Nat) : Int) ≥ (t : Int)) = True := eq_true (by omega)
            have hkw : IntKind.wrap .i64 (((t + m : Nat) : Int) - 1) = ((t + m : Nat) : Int) - 1 := wrap_i64 (by omega) (by omega)
            obtain ⟨x1, hx1, hz1, hk1⟩ := hL2.at_ r t hr htc
            obtain ⟨x2, hx2, hz2, hk2⟩ := hL2.at_ i (t + m) hi hkc
            obtain ⟨x3, hx3, hz3, hk3⟩ := hL2.at_ i t hi htc
            obtain ⟨x4, hx4, hz4, hk4⟩ := hL2.at_ r (t + m) hr hkc
            rw [if_neg (by omega), hf0r] at hz1 hz4
            rw [if_neg (by omega), hf0i i _ hri] at hz2 hz3
            have hex := hrows i (t + m) hri hi
            rw [← hz1, ← hz2, ← hz3, ← hz4, ← hlz] at hex
            have v1 : tailS S2 (π' i) (fun k => Z (ZgI n B (t + 1) i k)) (t + (m + 1)) (π' r) t = x1.av := by rw [tailS_ne hne]; exact hx1
            have v2 : tailS S2 (π' i) (fun k => Z (ZgI n B (t + 1) i k)) (t + (m + 1)) (π' i) (t + m) = x2.av := by rw [tailS_at (by omega)]; exact hx2
            have v3 : tailS S2 (π' i) (fun k => Z (ZgI n B (t + 1) i k)) (t + (m + 1)) (π' i) t = x3.av := by rw [tailS_at (by omega)]; exact hx3
            have v4 : tailS S2 (π' i) (fun k => Z (ZgI n B (t + 1) i k)) (t + (m + 1)) (π' r) (t + m) = x4.av := by rw [tailS_ne hne]; exact hx4
            have hstep := tailS_step S2 (π' i) (fun k => Z (ZgI n B (t + 1) i k)) (t + m)
            have hclS : ∀ a b, Cl (tailS S2 (π' i) (fun k => Z (ZgI n B (t + 1) i k)) (t + m) a b) := tailS_cl hL2.cl fun _ => Z_cl _
            have hm1 := mul_abs hk1.abs hk2.abs
            have hm2 := mul_abs hk3.abs hk4.abs
            have hs1 := sub_abs hm1 hm2
            rw [show t + (m + 1) = t + m + 1 by omega] at v1 v2 v3 v4 ⊢
            generalize tailS S2 (π' i) (fun k => Z (ZgI n B (t + 1) i k)) (t + m + 1) = St at *
            refine Safe.inLoop ?_
            refine Safe.rg rfl ?_
            simp only [elim_bareiss_r18, hge, E3, seval]
            refine Safe.cd rfl ?_
            simp only [E3, seval]
            refine Safe.rg rfl ?_
            simp only [elim_bareiss_r19, lid_hM, hrow_locM, set_locM, st_zeroM, M_idx hG hr, M_at hG hr, M_idx hG hi, M_at hG hi, E_idx hG hpr htc, E_at hG hpr htc, E_idx hG hpi hkc, E_at hG hpi hkc, E_idx hG hpi htc, E_at hG hpi htc, E_idx hG hpr hkc, E_at hG hpr hkc, v1, v2, v3, v4, E3, seval]
            refine (zmul_pure x1 x2 _ _ hk1 hk2 (by omega)).dcall ?_
            simp only [lid_hM, hrow_locM, set_locM, st_zeroM, M_idx hG hr, M_at hG hr, M_idx hG hi, M_at hG hi, E_idx hG hpi htc, E_at hG hpi htc, E_idx hG hpr hkc, E_at hG hpr hkc, v3, v4, E3, seval]
            refine (zmul_pure x3 x4 _ _ hk3 hk4 (by omega)).dcall ?_
            simp only [E3, seval]
            refine (zsub_can hm1 hm2 (by omega)).dcall ?_
            simp only [lid_hM, hrow_locM, set_locM, st_zeroM, E3, seval]
            have hfl := zfloor_exact (canZ (x1.z * x2.z - x3.z * x4.z)) lx (KB e + 1 + (KB e + 1) + 1) (zok_can hs1) (hlk.mono (by omega)) (by omega) (ZgI n B (t + 1) i (t + m)) (by rw [hlz]; exact hl0) (by rw [canZ_z]; exact hex)
            rw [canZ_av] at hfl
            refine Safe.rg rfl ?_
            simp only [elim_bareiss_r20, lid_hM, hrow_locM, set_locM, st_zeroM, M_idx hG hi, M_at hG hi, E_idx hG hpi hkc, E3, seval]
            refine hfl.dcall ?_
            simp only [lid_hM, hrow_locM, set_locM, st_zeroM, E_idx hG hpi hkc, E3, seval]
            simp only [E_st hG hpi hkc (Z_fit _) (show (Z _).cells.length = 2 from rfl), hstep, E3, seval]
            refine Safe.rg rfl ?_
            simp only [elim_bareiss_r21, hkw, E3, seval]
            refine Safe.keep [6, 8, 9, 10, 11, 12, 13, 15, 16, 21, 22] ?_
            simp only [E3, seval]
            have hnb2 : nref (lid G 2) (.mu β 0 n (some n)) = true := nref_ne (by unfold lid; omega)
            have hnb3 : nref (lid G 2) (.loc b0 0 0) = true := nref_iff.2 (.loc _ _ _ (by show b0 ≠ _; unfold lid; omega))
            refine Safe.dropM [some ⟨1, (gproc n B t).cs.map intV⟩, some ⟨2, [lx.av]⟩] (hM_refs hG hGr hL'.lt fun a b _ _ => hclS a b) (by show H.length ≤ _; exact hHn) (by simp only [List.all_cons, List.all_nil, hnb2, hnb3, E3, seval]) (RC.row intV_cl (RC.one (ZI.cl _) RC.nil)) ?_
            exact ihm
          · have hge : ((t : Int) - 1 ≥ (t : Int)) = False := eq_false (by omega)
            refine Safe.inLoop ?_
            refine Safe.rg rfl ?_
            simp only [elim_bareiss_r18, hge, E3, seval]
            refine Safe.cd rfl ?_
            simp only [E3, seval]
            refine Safe.rg rfl ?_
            simp only [elim_bareiss_r22, hiw, E3, seval]
            refine Safe.keep [6, 8, 9, 10, 11, 12, 13, 15, 21, 22] ?_
            simp only [E3, seval]
            refine ih2 (i + 1, _) ⟨Nat.lt_succ_of_lt hri, hi, hL2.lt, hL2.inj, fun a k ha hk => ?_, tailS_cl hL2.cl fun _ => Z_cl _⟩ (by show n - (i + 1) < n - i; omega)
            show ∃ x : ZI, tailS S2 (π' i) (fun k => Z (ZgI n B (t + 1) i k)) t (π' a) k = x.av ∧ x.z = (if r < a ∧ a < i + 1 then ZgI n B (t + 1) a k else f0 a k) ∧ Zok (KB e + 1) x
            by_cases hai : a = i
            · subst hai
              rw [if_pos ⟨hri, Nat.lt_succ_self a⟩]
              by_cases hkt : t ≤ k
              · refine ⟨canZ (ZgI n B (t + 1) a k), ?_, canZ_z _, zok_can (hZb a k ha)⟩
                unfold tailS; rw [if_pos ⟨rfl, hkt⟩, canZ_av]
              · obtain ⟨x, hx, hz, hk'⟩ := hL2.at_ a k ha hk
                rw [if_neg (by omega), hf0i a k hri, hzero a k hri ha (by omega)] at hz
                exact ⟨x, by rw [tailS_at (by omega)]; exact hx, hz, hk'⟩
            · obtain ⟨x, hx, hz, hk'⟩ := hL2.at_ a k ha hk
              refine ⟨x, by rw [tailS_ne (fun h => hai (hL2.inj _ _ ha hi h))]; exact hx, ?_, hk'⟩
              rw [hz]
              by_cases h5 : r < a ∧ a < i
              · rw [if_pos h5, if_pos ⟨h5.1, by omega⟩]
              · rw [if_neg h5, if_neg (by omega)]
        · have hin' : i = n := by omega
          subst hin'
          refine Safe.rg rfl ?_
          simp only [elim_bareiss_r16, M_len hG, Int.lt_irrefl, E3, seval]
          refine Safe.cd rfl ?_
          simp only [E3, seval]
          have hL3 : Lz i c (KB e + 1) π' S2 (ZgI i B (t + 1)) := by
            refine ⟨hL2.lt, hL2.inj, fun a k ha hk => ?_, hL2.cl⟩
            obtain ⟨x, hx, hz, hk'⟩ := hL2.at_ a k ha hk
            refine ⟨x, hx, ?_, hk'⟩
            rw [hz]
            rcases Nat.lt_trichotomy a r with h | h | h
            · rw [if_neg (by omega), hf0a a k h, hZab a k h]
            · subst h; rw [if_neg (by omega), hf0r, hZhd]
            · rw [if_pos ⟨h, ha⟩]
          obtain ⟨x1, hx1, hz1, hk1⟩ := hL3.at_ r t hr htc
          rw [hZhd, hlast1] at hz1
          have hnb2 : nref (lid G 0) (.mu β 0 i (some i)) = true := nref_ne (by unfold lid; omega)
          have hnb3 : nref (lid G 0) (.loc b0 0 0) = true := nref_iff.2 (.loc _ _ _ (by show b0 ≠ _; unfold lid; omega))
          refine Safe.rg rfl ?_
          simp only [elim_bareiss_r23, lid_hM, hrow_locM, set_locM, st_zeroM, M_idx hG hr, M_at hG hr, E_idx hG hpr htc, E_at hG hpr htc, hx1, E3, seval]
          have hRC : RC [some ⟨1, (gproc i B t).cs.map intV⟩, some ⟨2, [x1.av]⟩] := RC.row intV_cl (RC.one (ZI.cl _) RC.nil)
          refine Safe.rg rfl ?_
          simp only [elim_bareiss_r24, E3, seval]
          have happ := fun env : Env => app_rowM (hHr hL3) (L := [some ⟨1, (gproc i B t).cs.map intV⟩, some ⟨2, [x1.av]⟩]) 0 (n0 := H.length) (Nat.le_trans hHn (lid_ge G 0)) (env := env) (wd := 1) (bytes := 8) (f := intV) (y := .int .i64 (t : Int)) intV_cl (gproc i B t).cs t hcsl.symm rfl hRC rfl (by omega) (by omega)
          simp only [ZI.av] at happ
          rw [happ]
          simp only [hnb2, hnb3, List.set_cons_succ, List.set_cons_zero, E3, seval]
          refine Safe.rg rfl ?_
          simp only [elim_bareiss_r25, htw, E3, seval]
          refine Safe.keep [6, 8, 9, 10, 11, 21, 22] ?_
          simp only [E3, seval]
          have hfin := ih (t + 1, π', S2, x1) ⟨htc, hL3, hz1, hk1⟩ (by show c - (t + 1) < c - t; omega)
          simp only [hcs, len_snoc, hcsl] at hfin
          exact hfin
      -- the head's row
      refine Safe.lp rfl ?_
      refine Safe.keep [6, 8, 9, 10, 11, 12, 13, 14, 21, 22] ?_
      try simp only [E3, seval]
      refine Safe.loopN (p - r) (fun j => [(6, .loc b0 0 0), (8, .mu β 0 n (some n)), (9, .mu (lid G 0) 0 r none), (10, .loc (lid G 1) 0 0), (11, .bool (gproc n B t).odd), (12, .int .i64 t), (13, .int .i64 r), (14, .int .i64 ((r + j : Nat) : Int)), (21, .int .i64 c), (22, .int .i64 t)])
        (fun _ => hap (hM G β n 2 c (some c) π S1) [some ⟨1, (gproc n B t).cs.map intV⟩, some ⟨2, [lx.av]⟩]) rfl rfl (fun j hj2 ihj => ?_) ?_
      · have hq : r + j < n := by omega
        have hlt2 : (((r + j : Nat) : Int) < (n : Int)) = True := eq_true (by omega)
        have hpq := hL.lt (r + j) hq
        have hqw : IntKind.wrap .i64 (((r + j : Nat) : Int) + 1) = ((r + (j + 1) : Nat) : Int) := by rw [wrap_i64] <;> omega
        obtain ⟨x, v4, hxz, hxk⟩ := entry (r + j) hq
        have hz : ZgI n B t (r + j) t = 0 := (hz0 _ (by omega) hq).2 (h4 _ (by omega) (by omega))
        rw [hz] at hxz
        refine Safe.inLoop ?_
        refine Safe.rg rfl ?_
        simp only [elim_bareiss_r9, M_len hG, hlt2, M_idx hG hq, M_at hG hq, E_idx hG hpq htc, E_at hG hpq htc, v4, E3, seval]
        refine (zsign_pure x (hxk.mono (by omega))).acall ?_
        simp only [hxz, Int.sign_zero, E3, seval]
        refine Safe.cd rfl ?_
        simp only [E3, seval]
        refine Safe.rg rfl ?_
        simp only [elim_bareiss_r10, hqw, E3, seval]
        refine Safe.keep [6, 8, 9, 10, 11, 12, 13, 14, 21, 22] ?_
        simp only [E3, seval]
        refine Safe.inBlock ?_
        exact ihj
      · have hrp : r + (p - r) = p := by omega
        rw [hrp]
        have hlt2 : ((p : Int) < (n : Int)) = True := eq_true (by omega)
        have hpq := hL.lt p h2
        obtain ⟨x, v4, hxz, hxk⟩ := entry p h2
        have hz : (x.z.sign = 0) = False := eq_false (by rw [hxz, Int.sign_eq_zero_iff_zero, hz0 p h1 h2]; exact h3)
        have hpn : ((p : Int) = (n : Int)) = False := eq_false (by omega)
        refine Safe.inLoop ?_
        refine Safe.rg rfl ?_
        simp only [elim_bareiss_r9, M_len hG, hlt2, M_idx hG h2, M_at hG h2, E_idx hG hpq htc, E_at hG hpq htc, v4, E3, seval]
        refine (zsign_pure x (hxk.mono (by omega))).acall ?_
        simp only [hz, E3, seval]
        refine Safe.cd rfl ?_
        simp only [E3, seval]
        refine Safe.rg rfl ?_
        simp only [elim_bareiss_r11, M_len hG, hpn, E3, seval]
        refine Safe.cd rfl ?_
        simp only [E3, seval]
        by_cases hpr : p = r
        · have hpr1 : ((p : Int) = (r : Int)) = True := eq_true (by omega)
          refine Safe.rg rfl ?_
          simp only [elim_bareiss_r12, hpr1, E3, seval]
          refine Safe.cd rfl ?_
          simp only [E3, seval]
          refine Safe.keep [6, 8, 9, 10, 11, 12, 13, 21, 22] ?_
          simp only [E3, seval]
          have hm := main π (by
            refine ⟨hL.lt, hL.inj, fun a k ha hk => ?_, hL.cl⟩
            obtain ⟨x, hx, hz, hk'⟩ := hL.at_ a k ha hk
            refine ⟨x, hx, ?_, hk'⟩
            rw [hz]
            show _ = if a = p then ZgI n B t r k else if a = r then ZgI n B t p k else ZgI n B t a k
            split
            · rename_i h; rw [h, hpr]
            · split
              · rename_i h; omega
              · rfl)
          rw [hodd, if_pos hpr] at hm
          refine Safe.skip ?_
          exact hm
        · have hpr1 : ((p : Int) = (r : Int)) = False := eq_false (by omega)
          refine Safe.rg rfl ?_
          simp only [elim_bareiss_r12, hpr1, E3, seval]
          refine Safe.cd rfl ?_
          simp only [E3, seval]
          refine Safe.rg rfl ?_
          simp only [elim_bareiss_r13, M_idx hG h2, M_at hG h2, M_idx hG hr, M_at hG hr, E3, seval]
          simp only [M_st hG h2, M_idx hG hr, M_st hG hr, swp_at, E3, seval]
          refine Safe.rg rfl ?_
          simp only [elim_bareiss_r14, E3, seval]
          refine Safe.keep [6, 8, 9, 10, 11, 12, 13, 21, 22] ?_
          simp only [E3, seval]
          have hm := main (swp π p r) (Lz.swap hL h2 hr)
          rw [hodd, if_neg hpr] at hm
          exact hm
    · -- no head in this column
      have hcs : gproc n B (t + 1) = gproc n B t := gstep_none hf
      generalize hcsl : (gproc n B t).cs.length = r at *
      refine Safe.lp rfl ?_
      refine Safe.keep [6, 8, 9, 10, 11, 12, 13, 14, 21, 22] ?_
      try simp only [E3, seval]
      refine Safe.loopN (n - r) (fun j => [(6, .loc b0 0 0), (8, .mu β 0 n (some n)), (9, .mu (lid G 0) 0 r none), (10, .loc (lid G 1) 0 0), (11, .bool (gproc n B t).odd), (12, .int .i64 t), (13, .int .i64 r), (14, .int .i64 ((r + j : Nat) : Int)), (21, .int .i64 c), (22, .int .i64 t)])
        (fun _ => hap (hM G β n 2 c (some c) π S1) [some ⟨1, (gproc n B t).cs.map intV⟩, some ⟨2, [lx.av]⟩]) rfl rfl (fun j hj2 ihj => ?_) ?_
      · have hq : r + j < n := by omega
        have hlt2 : (((r + j : Nat) : Int) < (n : Int)) = True := eq_true (by omega)
        have hpq := hL.lt (r + j) hq
        have hqw : IntKind.wrap .i64 (((r + j : Nat) : Int) + 1) = ((r + (j + 1) : Nat) : Int) := by rw [wrap_i64] <;> omega
        obtain ⟨x, v4, hxz, hxk⟩ := entry (r + j) hq
        have hz : ZgI n B t (r + j) t = 0 := (hz0 _ (by omega) hq).2 (h4 _ (by omega) (by omega))
        rw [hz] at hxz
        refine Safe.inLoop ?_
        refine Safe.rg rfl ?_
        simp only [elim_bareiss_r9, M_len hG, hlt2, M_idx hG hq, M_at hG hq, E_idx hG hpq htc, E_at hG hpq htc, v4, E3, seval]
        refine (zsign_pure x (hxk.mono (by omega))).acall ?_
        simp only [hxz, Int.sign_zero, E3, seval]
        refine Safe.cd rfl ?_
        simp only [E3, seval]
        refine Safe.rg rfl ?_
        simp only [elim_bareiss_r10, hqw, E3, seval]
        refine Safe.keep [6, 8, 9, 10, 11, 12, 13, 14, 21, 22] ?_
        simp only [E3, seval]
        refine Safe.inBlock ?_
        exact ihj
      · have hrp : r + (n - r) = n := by omega
        rw [hrp]
        refine Safe.inLoop ?_
        refine Safe.rg rfl ?_
        simp only [elim_bareiss_r9, M_len hG, Int.lt_irrefl, E3, seval]
        refine Safe.cd rfl ?_
        simp only [E3, seval]
        refine Safe.rg rfl ?_
        simp only [elim_bareiss_r11, M_len hG, E3, seval]
        refine Safe.cd rfl ?_
        simp only [E3, seval]
        refine Safe.rg rfl ?_
        simp only [elim_bareiss_r25, htw, E3, seval]
        refine Safe.keep [6, 8, 9, 10, 11, 21, 22] ?_
        simp only [E3, seval]
        have hz1 : ZgI n B (t + 1) = ZgI n B t := by funext a k; unfold ZgI; rw [hcs]
        have hl1 : lastI n B (t + 1) = lastI n B t := by unfold lastI; rw [hcs]
        have hfin := ih (t + 1, π, S1, lx) ⟨htc, by rw [hz1]; exact hL, by rw [hl1]; exact hlz, hlk⟩ (by show c - (t + 1) < c - t; omega)
        simp only [hcs, hcsl] at hfin
        exact hfin
  · have htc' : t = c := by omega
    subst htc'
    refine Safe.rg rfl ?_
    simp only [elim_bareiss_r5, Int.lt_irrefl, E3, seval]
    refine Safe.cd rfl ?_
    simp only [E3, seval]
    have hnb2 : frz (lid G 0) ⟨1, (gproc n B t).cs.map intV⟩ (.mu β 0 n (some n)) = .mu β 0 n (some n) := frz_ref (.mu _ _ _ _ (by show β ≠ _; unfold lid; omega))
    have hnb3 : frz (lid G 0) ⟨1, (gproc n B t).cs.map intV⟩ (.loc b0 0 0) = .loc b0 0 0 := frz_ref (.loc _ _ _ (by show b0 ≠ _; unfold lid; omega))
    have hcl : frz (lid G 0) ⟨1, (gproc n B t).cs.map intV⟩ (.mu (lid G 0) 0 (gproc n B t).cs.length none) = hsV (gproc n B t).cs := frz_mu_map (H := G) 0 1 intV _ none
    refine Safe.freezeM 0 (hHr hL) (by show H.length ≤ _; exact hHn) rfl (blk_map 1 intV _ intV_cl) ?_
    refine Safe.keep [6, 8, 9, 10, 11] ?_
    simp only [hnb2, hnb3, hcl, frz_loc_other, ZI.av_frz, E3, seval]
    refine Safe.rg rfl ?_
    simp only [elim_bareiss_r26, lid_hM, hrow_locM, set_locM, st_zeroM, E3, seval]
    have hbox' : (G.set b0 (some ⟨2, [.agg [.bool lx.neg, natV lx.mag]]⟩))[b0]? = some (some ⟨2, [.agg [.bool lx.neg, natV lx.mag]]⟩) := by
      rw [List.getElem?_set]; simp; omega
    have hG' : β + n < (G.set b0 (some ⟨2, [.agg [.bool lx.neg, natV lx.mag]]⟩)).length := by rw [List.length_set]; exact hG
    simp only [st_low hG hb01 hbox (show (AV.agg [.bool lx.neg, natV lx.mag]).fit = true from rfl) (show (AV.agg [.bool lx.neg, natV lx.mag]).cells.length = 2 from rfl), E3, seval]
    refine Safe.rt rfl ?_
    simp only [at_low hG' hb01 hbox', E3, seval]
    obtain ⟨L0, hL0⟩ := hGH
    have hH1 : HRefs (hM (G.set b0 (some ⟨2, [.agg [.bool lx.neg, natV lx.mag]]⟩)) β n 2 t (some t) π S1) := by
      have e := set_low (L := []) (O := orow β n t (some t) π) (R := fun j => some ⟨2, fr t (S1 j)⟩) hG hb01 (some ⟨2, [.agg [.bool lx.neg, natV lx.mag]]⟩)
      rw [hap_nil, hap_nil] at e
      unfold hM
      rw [← e]
      refine HRefs.set (hHr hL) b0 fun a ha => ?_
      have := RC.one (wd := 2) (ZI.cl lx) RC.nil ⟨2, [lx.av]⟩ (by simp) a ha
      exact this.ref
    have hGs : G.set b0 (some ⟨2, [.agg [.bool lx.neg, natV lx.mag]]⟩) = hap H (L0.set 0 (some ⟨2, [.agg [.bool lx.neg, natV lx.mag]]⟩)) := by
      rw [hL0, hbl]
      simp only [hap]
      rw [List.set_append_right _ _ (Nat.le_refl _), Nat.sub_self]
    refine ⟨β, π, S1, L0.set 0 (some ⟨2, [.agg [.bool lx.neg, natV lx.mag]]⟩) ++ [none, some ⟨2, [lx.av]⟩], lx, hL, hb0, ?_, ?_, ?_, hlz, hlk, rfl⟩
    · have : G.length = H.length + L0.length := by rw [hL0]; simp [hap]
      simp [hap]; omega
    · rw [hap_hM _ _ _ _ _ _ _ _ _ hG', hGs, hap_hap']
    · exact hrefs_hap hH1 (RC.none (RC.one (ZI.cl _) RC.nil))
end
end Go.Abs
set_option linter.unusedVariables false
set_option linter.unusedSimpArgs false
namespace Go.Abs
/-- A matrix's entries as fractions. -/
def Bm (b : List (List ZI)) : Nat → Nat → Rat := fun a k => (zg (mg b a) k : Int)
theorem Bm_bd {b : List (List ZI)} {e : Nat} (h : Mok e b) : Bd e (Bm b) := fun a k => ⟨zg (mg b a) k, rfl, Nat.le_of_lt ((h.row a).abs k)⟩
/-- The determinant. -/
def detI (n : Nat) (B : Nat → Nat → Rat) : Int := (dv n B n).num
def rankN (n c : Nat) (B : Nat → Nat → Rat) : Nat := (gproc n B c).cs.length
theorem hs_len (H : Heap) (cs : List Nat) : lenV H (hsV cs) = some (.int .i64 cs.length) := sl_len H 1 intV cs
theorem rankN_le (n c : Nat) (B : Nat → Nat → Rat) : rankN n c B ≤ c := gproc_len n B c
section
variable (b : List (List ZI)) {e n c : Nat} (hm : Mok e b) (hn : b.length = n) (hn64 : n ≤ 64) (hK : KB e + 1 < 1099511627776)
include hm hn hn64 hK
theorem det_pure (hb : ∀ i, (h : i < b.length) → b[i].length = n) : PureC Pr F_elim_det [matV b] (Z (detI n (Bm b))) := by
  have hB := Bm_bd hm
  obtain ⟨hlq, hlb⟩ := lastI_eq (Bm b) hB hn64 n
  have hrl := rankN_le n n (Bm b)
  unfold rankN at hrl
  refine PureC.introL elim_det_fn elim_det_ok (Nat.le_of_ble_eq_true rfl) (Z_cl _) fun H hH => ?_
  refine Safe.rg rfl ?_
  simp only [elim_det_r0, E3, seval]
  refine Safe.rg rfl ?_
  simp only [elim_det_r1, hn, E3, seval]
  refine Safe.rg rfl ?_
  simp only [elim_det_r2, E3, seval]
  refine (bareiss_calls b (Bm b) hb (fun _ _ => rfl) hm hB hn hn64 (by omega) hK (hap H [some ⟨2, [.agg [.bool false, .nil]]⟩])).mono ?_
  rintro r' H' ⟨β, π, S, L, lx, hLz, hβ, hβn, rfl, hHr, hlz, hlk, rfl⟩
  obtain ⟨L', hL'⟩ := hM_hap (w := 2) (c := n) (oc := some n) (π := π) (S := S) hβ hβn
  rw [hL']
  have hA0 : (hap (hap H [some ⟨2, [.agg [.bool false, .nil]]⟩]) L')[lid H 0]? = some (some ⟨2, [.agg [.bool false, .nil]]⟩) := by
    simp [hap, lid]
  have hAH : ∃ L, hap (hap H [some ⟨2, [.agg [.bool false, .nil]]⟩]) L' = hap H L := ⟨_, hap_hap' _ _ _⟩
  clear hL' hHr hβn hβ
  rw [← hap_nil (hap (hap H _) L')]
  generalize hap (hap H [some ⟨2, [.agg [.bool false, .nil]]⟩]) L' = A at *
  simp only [E3, seval]
  refine Safe.rg rfl ?_
  simp only [elim_det_r3, hs_len, E3, seval]
  have hfinal : ∀ v : AV, v.fit = true → v.cells.length = 2 → ∀ L : Heap, ∃ L2, hap (A.set (lid H 0) (some ⟨2, [v]⟩)) L = hap H L2 := by
    intro v _ _ L
    obtain ⟨L0, hL0⟩ := hAH
    rw [hL0, set_hap]; exact ⟨_, hap_hap' _ _ _⟩
  have hld : ∀ v : AV, ∀ L : Heap, atV (hap (A.set (lid H 0) (some ⟨2, [v]⟩)) L) (.loc (lid H 0) 0 0) = some v.cells := by
    intro v L
    have hlt := lt_of_live hA0
    exact lat (b := ⟨2, [v]⟩) (by rw [List.getElem?_set]; simp [hlt]) (by simp)
  by_cases hlt : (gproc n (Bm b) n).cs.length < n
  · have hc : (((gproc n (Bm b) n).cs.length : Int) < (n : Int)) = True := eq_true (by omega)
    simp only [hc, E3, seval]
    refine Safe.cd rfl ?_
    simp only [E3, seval]
    refine Safe.rg rfl ?_
    simp only [elim_det_r4, E3, seval]
    rw [lst hA0 (by simp) rfl rfl]
    simp only [E3, seval]
    refine Safe.rt rfl ?_
    simp only [hld, E3, seval]
    refine ⟨?_, hfinal (.agg [.bool false, .nil]) rfl rfl _⟩
    have : detI n (Bm b) = 0 := by unfold detI dv; rw [if_neg (by omega)]; rfl
    rw [this]; exact le_zero
  · have hc : (((gproc n (Bm b) n).cs.length : Int) < (n : Int)) = False := eq_false (by omega)
    simp only [hc, E3, seval]
    refine Safe.cd rfl ?_
    simp only [E3, seval]
    refine Safe.rg rfl ?_
    simp only [elim_det_r5, E3, seval]
    have hdet : detI n (Bm b) = if (gproc n (Bm b) n).odd then -lastI n (Bm b) n else lastI n (Bm b) n := by
      unfold detI dv lastI
      rw [if_pos (by omega)]
      split
      · exact Rat.neg_num _
      · rfl
    cases ho : (gproc n (Bm b) n).odd
    · rw [ho] at hdet
      refine Safe.cd rfl ?_
      simp only [E3, seval]
      refine Safe.rg rfl ?_
      simp only [elim_det_r7, E3, seval]
      refine (zform_pure lx (hlk.mono (by omega))).acall ?_
      simp only [Z, E3, seval]
      rw [lst hA0 (by simp) rfl rfl]
      simp only [E3, seval]
      refine Safe.rt rfl ?_
      simp only [hld, E3, seval]
      refine ⟨?_, hfinal (Z lx.z) rfl rfl _⟩
      rw [hdet, hlz]
      exact Le.refl _
    · rw [ho] at hdet
      refine Safe.cd rfl ?_
      simp only [E3, seval]
      refine Safe.rg rfl ?_
      simp only [elim_det_r6, E3, seval]
      refine (zneg_pure lx (hlk.mono (by omega))).acall ?_
      simp only [Z, E3, seval]
      rw [lst hA0 (by simp) rfl rfl]
      simp only [E3, seval]
      refine Safe.rt rfl ?_
      simp only [hld, E3, seval]
      refine ⟨?_, hfinal (Z (-lx.z)) rfl rfl _⟩
      rw [hdet, hlz]
      exact Le.refl _
end
/-- The error of a matrix. -/
noncomputable def elE (b : List (List ZI)) : Int := @ite _ (Rect b) (Classical.propDecidable _) (if b.length > 64 ∨ wid b > 64 then 60 else 0) 8
theorem elE_cases (b : List (List ZI)) : (¬ Rect b ∧ elE b = 8) ∨ (Rect b ∧ (b.length > 64 ∨ wid b > 64) ∧ elE b = 60) ∨ (Rect b ∧ b.length ≤ 64 ∧ wid b ≤ 64 ∧ elE b = 0) := by
  unfold elE
  by_cases h : Rect b
  · by_cases h2 : b.length > 64 ∨ wid b > 64
    · exact .inr (.inl ⟨h, h2, by rw [if_pos h, if_pos h2]⟩)
    · exact .inr (.inr ⟨h, by omega, by omega, by rw [if_pos h, if_neg h2]⟩)
  · exact .inl ⟨h, by rw [if_neg h]⟩
noncomputable def askT (b : List (List ZI)) : AV := if elE b = 0 then .tup [.int .i64 b.length, .int .i64 (wid b), .int .i64 0] else .tup [.int .i64 0, .int .i64 0, .int .i64 (elE b)]
section
variable (b : List (List ZI)) {e : Nat} (hm : Mok e b)
include hm
theorem asked_pure : PureC Pr F_elim_asked [matV b] (askT b) := by
  have hw : wid b ≤ 2097152 := (hm.row 0).len
  rcases elE_cases b with ⟨hr, he⟩ | ⟨hr, h2, he⟩ | ⟨hr, h2, h3, he⟩
  · unfold askT
    rw [he, if_neg (by decide)]
    refine PureC.intro elim_asked_fn elim_asked_ok (Nat.le_of_ble_eq_true rfl) (cl3i _ _ _) fun H hH => ?_
    refine Safe.rg rfl ?_
    simp only [elim_asked_r0, E3, seval]
    refine Safe.rg rfl ?_
    simp only [elim_asked_r1, E3, seval]
    first | refine (mshape_bad b e hm hr).acall ?_ | refine (mshape_bad b e hm hr).dcall ?_
    try simp only [E3, seval]
    refine Safe.rg rfl ?_
    simp only [elim_asked_r2, E3, seval]
    refine Safe.cd rfl ?_
    simp only [E3, seval]
    refine Safe.rg rfl ?_
    simp only [elim_asked_r3, E3, seval]
    refine Safe.rt rfl ?_
    simp only [one3, E3, seval]
    first | exact ⟨rfl, _, rfl⟩ | exact ⟨_, rfl⟩ | exact ⟨trivial, _, rfl⟩
  · unfold askT
    rw [he, if_neg (by decide)]
    refine PureC.intro elim_asked_fn elim_asked_ok (Nat.le_of_ble_eq_true rfl) (cl3i _ _ _) fun H hH => ?_
    refine Safe.rg rfl ?_
    simp only [elim_asked_r0, E3, seval]
    refine Safe.rg rfl ?_
    simp only [elim_asked_r1, E3, seval]
    first | refine (mshape_ok b e hm hr).acall ?_ | refine (mshape_ok b e hm hr).dcall ?_
    try simp only [E3, seval]
    refine Safe.rg rfl ?_
    simp only [elim_asked_r2, E3, seval]
    refine Safe.cd rfl ?_
    simp only [E3, seval]
    by_cases h : b.length > 64
    · have hc : ((b.length : Int) > 64) = True := eq_true (by omega)
      refine Safe.rg rfl ?_
      simp only [elim_asked_r4, hc, E3, seval]
      refine Safe.cd rfl ?_
      simp only [E3, seval]
      refine Safe.rg rfl ?_
      simp only [elim_asked_r5, E3, seval]
      refine Safe.rt rfl ?_
      simp only [one3, E3, seval]
      first | exact ⟨rfl, _, rfl⟩ | exact ⟨_, rfl⟩ | exact ⟨trivial, _, rfl⟩
    · have hc : ((b.length : Int) > 64) = False := eq_false (by omega)
      have hc2 : ((wid b : Int) > 64) = True := eq_true (by omega)
      refine Safe.rg rfl ?_
      simp only [elim_asked_r4, hc, hc2, E3, seval]
      refine Safe.cd rfl ?_
      simp only [E3, seval]
      refine Safe.rg rfl ?_
      simp only [elim_asked_r5, E3, seval]
      refine Safe.rt rfl ?_
      simp only [one3, E3, seval]
      first | exact ⟨rfl, _, rfl⟩ | exact ⟨_, rfl⟩ | exact ⟨trivial, _, rfl⟩
  · unfold askT
    rw [he, if_pos rfl]
    have hc : ((b.length : Int) > 64) = False := eq_false (by omega)
    have hc2 : ((wid b : Int) > 64) = False := eq_false (by omega)
    refine PureC.intro elim_asked_fn elim_asked_ok (Nat.le_of_ble_eq_true rfl) (cl3i _ _ _) fun H hH => ?_
    refine Safe.rg rfl ?_
    simp only [elim_asked_r0, E3, seval]
    refine Safe.rg rfl ?_
    simp only [elim_asked_r1, E3, seval]
    first | refine (mshape_ok b e hm hr).acall ?_ | refine (mshape_ok b e hm hr).dcall ?_
    try simp only [E3, seval]
    refine Safe.rg rfl ?_
    simp only [elim_asked_r2, E3, seval]
    refine Safe.cd rfl ?_
    simp only [E3, seval]
    refine Safe.rg rfl ?_
    simp only [elim_asked_r4, hc, hc2, E3, seval]
    refine Safe.cd rfl ?_
    simp only [E3, seval]
    refine Safe.rg rfl ?_
    simp only [elim_asked_r6, E3, seval]
    refine Safe.rt rfl ?_
    simp only [one3, E3, seval]
    first | exact ⟨rfl, _, rfl⟩ | exact ⟨_, rfl⟩ | exact ⟨trivial, _, rfl⟩
end
/-- Square matrices only. -/
noncomputable def sqE (b : List (List ZI)) : Int := if elE b = 0 then (if b.length = wid b then 0 else 8) else elE b
noncomputable def sqT (b : List (List ZI)) : AV := .tup [.int .i64 (if elE b = 0 then (b.length : Int) else 0), .int .i64 (sqE b)]
theorem sqE_zero {b : List (List ZI)} (h : sqE b = 0) : elE b = 0 ∧ b.length = wid b := by
  unfold sqE at h
  split at h
  · rename_i h0
    split at h
    · exact ⟨h0, by assumption⟩
    · exact absurd h (by decide)
  · exact absurd h (by assumption)
theorem square_rows {b : List (List ZI)} (h : sqE b = 0) : b.length ≤ 64 ∧ ∀ i, (h : i < b.length) → b[i].length = b.length := by
  obtain ⟨h0, hw⟩ := sqE_zero h
  rcases elE_cases b with ⟨_, h⟩ | ⟨_, _, h⟩ | ⟨hr, h2, h3, _⟩
  · omega
  · omega
  · refine ⟨h2, fun i hi => ?_⟩
    have := hr i hi
    rw [mg_lt hi] at this
    rw [this, hw]; rfl
theorem rect_rows {b : List (List ZI)} (h : elE b = 0) : b.length ≤ 64 ∧ wid b ≤ 64 ∧ Rect b ∧ ∀ i, (h : i < b.length) → b[i].length = wid b := by
  rcases elE_cases b with ⟨_, h⟩ | ⟨_, _, h⟩ | ⟨hr, h2, h3, _⟩
  · omega
  · omega
  · refine ⟨h2, h3, hr, fun i hi => ?_⟩
    have := hr i hi
    rw [mg_lt hi] at this
    exact this
theorem cl2i (a b : Int) : Cl (.tup [.int .i64 a, .int .i64 b]) := cl_tup2 (.int _ _) (.int _ _)
section
variable (b : List (List ZI)) {e : Nat} (hm : Mok e b)
include hm
theorem square_pure : PureC Pr F_elim_square [matV b] (sqT b) := by
  have hask := asked_pure b hm
  unfold sqT askT at *
  by_cases h0 : elE b = 0
  · rw [if_pos h0] at hask ⊢
    by_cases hw : b.length = wid b
    · have hs : sqE b = 0 := by unfold sqE; rw [if_pos h0, if_pos hw]
      have hwi : (b.length : Int) = (wid b : Int) := by omega
      rw [hs]
      rw [← hwi] at hask
      refine PureC.intro elim_square_fn elim_square_ok (Nat.le_of_ble_eq_true rfl) (cl2i _ _) fun H hH => ?_
      refine Safe.rg rfl ?_
      simp only [elim_square_r0, E3, seval]
      refine Safe.rg rfl ?_
      simp only [elim_square_r1, E3, seval]
      first | refine (hask).acall ?_ | refine (hask).dcall ?_
      try simp only [E3, seval]
      refine Safe.rg rfl ?_
      simp only [elim_square_r2, E3, seval]
      refine Safe.cd rfl ?_
      simp only [E3, seval]
      refine Safe.rg rfl ?_
      simp only [elim_square_r4, E3, seval]
      refine Safe.rt rfl ?_
      simp only [E3, seval]
      first | exact ⟨rfl, _, rfl⟩ | exact ⟨_, rfl⟩ | exact ⟨trivial, _, rfl⟩
    · have hs : sqE b = 8 := by unfold sqE; rw [if_pos h0, if_neg hw]
      have hwi : ((b.length : Int) = (wid b : Int)) = False := eq_false (by omega)
      rw [hs]
      refine PureC.intro elim_square_fn elim_square_ok (Nat.le_of_ble_eq_true rfl) (cl2i _ _) fun H hH => ?_
      refine Safe.rg rfl ?_
      simp only [elim_square_r0, E3, seval]
      refine Safe.rg rfl ?_
      simp only [elim_square_r1, E3, seval]
      first | refine (hask).acall ?_ | refine (hask).dcall ?_
      try simp only [E3, seval]
      refine Safe.rg rfl ?_
      simp only [elim_square_r2, hwi, E3, seval]
      refine Safe.cd rfl ?_
      simp only [E3, seval]
      refine Safe.rg rfl ?_
      simp only [elim_square_r3, E3, seval]
      refine Safe.rg rfl ?_
      simp only [elim_square_r4, E3, seval]
      refine Safe.rt rfl ?_
      simp only [E3, seval]
      first | exact ⟨rfl, _, rfl⟩ | exact ⟨_, rfl⟩ | exact ⟨trivial, _, rfl⟩
  · rw [if_neg h0] at hask ⊢
    have hs : sqE b = elE b := by unfold sqE; rw [if_neg h0]
    have h0' : (elE b = 0) = False := eq_false h0
    rw [hs]
    refine PureC.intro elim_square_fn elim_square_ok (Nat.le_of_ble_eq_true rfl) (cl2i _ _) fun H hH => ?_
    refine Safe.rg rfl ?_
    simp only [elim_square_r0, E3, seval]
    refine Safe.rg rfl ?_
    simp only [elim_square_r1, E3, seval]
    first | refine (hask).acall ?_ | refine (hask).dcall ?_
    try simp only [E3, seval]
    refine Safe.rg rfl ?_
    simp only [elim_square_r2, h0', E3, seval]
    refine Safe.cd rfl ?_
    simp only [E3, seval]
    refine Safe.rg rfl ?_
    simp only [elim_square_r4, E3, seval]
    refine Safe.rt rfl ?_
    simp only [E3, seval]
    first | exact ⟨rfl, _, rfl⟩ | exact ⟨_, rfl⟩ | exact ⟨trivial, _, rfl⟩
end
end Go.Abs
set_option linter.unusedVariables false
set_option linter.unusedSimpArgs false
namespace Go.Abs
section
variable (b : List (List ZI)) {e : Nat} (hm : Mok e b) (hK : KB e + 1 < 1099511627776)
include hm hK
omit hK in
theorem dv_int (n : Nat) (hn : n ≤ 64) : (dv n (Bm b) n).num = detI n (Bm b) ∧ (detI n (Bm b)).natAbs ≤ LB ^ KB e := by
  obtain ⟨z, hz, hz1⟩ := dv_kb (Bm_bd hm) hn n
  refine ⟨rfl, ?_⟩
  unfold detI
  rw [(rat_num_int hz).1]; exact hz1
theorem pdet_ok (h0 : sqE b = 0) : PureC Pr F_elim_Det [matV b] (.tup [Z (detI b.length (Bm b)), .int .i64 0]) := by
  obtain ⟨hn, hrows⟩ := square_rows h0
  have hsq := square_pure b hm
  unfold sqT at hsq
  rw [if_pos (sqE_zero h0).1, h0] at hsq
  refine PureC.intro elim_Det_fn elim_Det_ok (Nat.le_of_ble_eq_true rfl) (cl_tup2 (Z_cl _) (.int _ _)) fun H hH => ?_
  refine Safe.rg rfl ?_
  simp only [elim_Det_r0, E3, seval]
  refine Safe.rg rfl ?_
  simp only [elim_Det_r1, E3, seval]
  first | refine (hsq).acall ?_ | refine (hsq).dcall ?_
  try simp only [E3, seval]
  refine Safe.rg rfl ?_
  simp only [elim_Det_r2, E3, seval]
  refine Safe.cd rfl ?_
  simp only [E3, seval]
  refine Safe.rg rfl ?_
  simp only [elim_Det_r4, E3, seval]
  first | refine (det_pure b hm rfl hn hK hrows).acall ?_ | refine (det_pure b hm rfl hn hK hrows).dcall ?_
  try simp only [E3, seval]
  simp only [Z, E3, seval]
  refine Safe.rt rfl ?_
  simp only [E3, seval]
  first | exact ⟨rfl, _, rfl⟩ | exact ⟨_, rfl⟩ | exact ⟨trivial, _, rfl⟩
omit hK in
theorem pdet_bad (h0 : sqE b ≠ 0) : PureC Pr F_elim_Det [matV b] (.tup [Z 0, .int .i64 (sqE b)]) := by
  have hsq := square_pure b hm
  unfold sqT at hsq
  have h0' : (sqE b = 0) = False := eq_false h0
  refine PureC.introL elim_Det_fn elim_Det_ok (Nat.le_of_ble_eq_true rfl) (cl_tup2 (Z_cl _) (.int _ _)) fun H hH => ?_
  refine Safe.rg rfl ?_
  simp only [elim_Det_r0, E3, seval]
  refine Safe.rg rfl ?_
  simp only [elim_Det_r1, E3, seval]
  first | refine (hsq).acall ?_ | refine (hsq).dcall ?_
  try simp only [E3, seval]
  refine Safe.rg rfl ?_
  simp only [elim_Det_r2, h0', E3, seval]
  refine Safe.cd rfl ?_
  simp only [E3, seval]
  refine Safe.rg rfl ?_
  simp only [elim_Det_r3, E3, seval]
  refine Safe.rt rfl ?_
  simp only [E3, seval]
  exact ⟨Le.tup2 le_zero (Le.refl _), _, rfl⟩
end
end Go.Abs
set_option linter.unusedVariables false
set_option linter.unusedSimpArgs false
namespace Go.Abs
theorem kb_fits : KB 1048576 + 1 < 1099511627776 := by decide
theorem det_zok {b : List (List ZI)} {e n : Nat} (hb : Mok e b) (hn : n ≤ 64) (hK : KB e + 1 < 1099511627776) : (detI n (Bm b)).natAbs < LB ^ (KB e + 1) := by
  have h := (dv_int b hb n hn).2
  have : LB ^ KB e < LB ^ (KB e + 1) := Nat.pow_lt_pow_right (by decide) (by omega)
  omega
theorem eqZ_pure {z : Int} {k : Nat} (h : z.natAbs < LB ^ k) (hk : k ≤ 17592186044416) : PureC Pr F_law06_eq [Z z, Z z] (.bool true) := by
  have := eq_pure (canZ z) ((zok_can h).mono hk)
  rwa [canZ_av] at this
end Go.Abs
set_option linter.unusedVariables false
set_option linter.unusedSimpArgs false
namespace Go.Abs
theorem Vok.take {k : Nat} {v : List ZI} (h : Vok k v) (n : Nat) : Vok k (v.take n) := ⟨by rw [List.length_take]; have := h.len; omega, fun x hx => h.el x (List.mem_of_mem_take hx)⟩
/-- The first square of a size. -/
def sub (b : List (List ZI)) (k : Nat) : List (List ZI) := mat k fun i => (mg b i).take k
theorem sq_zero {w : List (List ZI)} {k : Nat} (hl : w.length = k) (hrow : ∀ i, (h : i < w.length) → w[i].length = k) (hk : k ≤ 64) : sqE w = 0 := by
  have hr : Rect w := fun i hi => by rw [mg_lt hi, mg_lt (by omega), hrow i hi, hrow 0 (by omega)]
  have hw : wid w = k := by
    rcases Nat.eq_zero_or_pos k with h | h
    · subst h
      have : w = [] := List.length_eq_zero_iff.1 hl
      subst this; rfl
    · unfold wid; rw [mg_lt (by omega), hrow 0 (by omega)]
  rcases elE_cases w with ⟨h, _⟩ | ⟨_, h, _⟩ | ⟨_, _, _, h⟩
  · exact absurd hr h
  · omega
  · unfold sqE; rw [if_pos h, if_pos (by omega)]
end Go.Abs
set_option linter.unusedVariables false
set_option linter.unusedSimpArgs false
namespace Go.Abs
/-- Rows of whole numbers with such values. -/
structure Rz (n c K : Nat) (rows : List (List ZI)) (f : Nat → Nat → Int) : Prop where
  len : rows.length = n
  wid : ∀ i, i < n → (mg rows i).length = c
  at_ : ∀ i k, i < n → k < c → zg (mg rows i) k = f i k
  ok : ∀ i, i < n → Vok K (mg rows i)
end Go.Abs
set_option linter.unusedVariables false
set_option linter.unusedSimpArgs false
namespace Go.Abs
def lcmTo (x : Nat → Rat) : Nat → Nat
  | 0 => 1
  | n + 1 => lcmTo x n * ((x n).den / Nat.gcd (lcmTo x n) (x n).den)
def outI (x : Nat → Rat) (c i : Nat) : Int := (x i).num * ((lcmTo x c / (x i).den : Nat) : Int)
theorem lcmTo_succ (x : Nat → Rat) (n : Nat) : lcmTo x (n + 1) = Nat.lcm (lcmTo x n) (x n).den := by
  rw [lcmTo, Nat.lcm, Nat.mul_div_assoc _ (Nat.gcd_dvd_right _ _)]
theorem lcmTo_pos (x : Nat → Rat) : ∀ n, 0 < lcmTo x n
  | 0 => Nat.one_pos
  | n + 1 => by rw [lcmTo_succ]; exact Nat.lcm_pos (lcmTo_pos x n) (x n).den_pos
theorem den_dvd_lcm (x : Nat → Rat) : ∀ {n i : Nat}, i < n → (x i).den ∣ lcmTo x n
  | 0, _, h => absurd h (by omega)
  | n + 1, i, h => by
    rw [lcmTo_succ]
    by_cases e : i = n
    · subst e; exact Nat.dvd_lcm_right _ _
    · exact Nat.dvd_trans (den_dvd_lcm x (by omega)) (Nat.dvd_lcm_left _ _)
/-- All of them times one number are whole, of such a size. -/
structure Sz (x : Nat → Rat) (c K : Nat) : Prop where
  ex : ∃ D : Int, D ≠ 0 ∧ D.natAbs < LB ^ K ∧ ∀ i, i < c → ∃ z : Int, (D : Rat) * x i = z ∧ z.natAbs < LB ^ K
theorem outI_eq (x : Nat → Rat) {c i : Nat} (hi : i < c) : ((lcmTo x c : Nat) : Rat) * x i = ((outI x c i : Int) : Rat) := by
  obtain ⟨m, hm⟩ := den_dvd_lcm x hi
  unfold outI
  have hd := (x i).den_pos
  rw [hm, Nat.mul_div_cancel_left _ hd]
  have h1 : x i = ((x i).num : Rat) / ((x i).den : Rat) := by rw [← Rat.mkRat_eq_div, Rat.mkRat_self]
  have h2 : ((x i).den : Rat) ≠ 0 := by
    intro h
    have : ((x i).den : Nat) = 0 := by exact_mod_cast h
    omega
  rw [Rat.intCast_mul, Rat.natCast_mul]
  have h3 : (((m : Nat) : Int) : Rat) = ((m : Nat) : Rat) := rfl
  rw [h3]
  have h4 := Rat.div_mul_cancel (a := ((x i).num : Rat)) h2
  rw [← h1] at h4
  clear h1 hm
  generalize ((x i).den : Rat) = d at *
  generalize ((x i).num : Rat) = a at *
  generalize ((m : Nat) : Rat) = k
  generalize x i = y at *
  grind
end Go.Abs
set_option linter.unusedVariables false
set_option linter.unusedSimpArgs false
namespace Go.Abs
def InC (j : JS) (c : Nat) (v : Nat → Rat) : Prop := ∀ k, k < c → v k = sumR (fun i => v (j.s.cs.getD i 0) * j.M i k) j.s.cs.length
/-- Row i with the heads from m on cleared. -/
structure RowP (j : JS) (c m i : Nat) (f : Nat → Int) : Prop where
  inn : InC j c fun k => (f k : Rat)
  lo : ∀ t, t < i → f (j.s.cs.getD t 0) = 0
  hi : ∀ t, m ≤ t → t < j.s.cs.length → t ≠ i → f (j.s.cs.getD t 0) = 0
  piv : f (j.s.cs.getD i 0) ≠ 0
section
variable {j : JS} {c : Nat} (hcs : ∀ t, t < j.s.cs.length → j.s.cs.getD t 0 < c)
include hcs
theorem rowp_nz {m i : Nat} {f : Nat → Int} (hi : i < j.s.cs.length) (h : RowP j c m i f) : Nz f c := ⟨_, hcs i hi, h.piv⟩
omit hcs in
theorem rowp_self {m : Nat} {f : Nat → Int} (hf : RowP j c (m + 1) m f) : RowP j c m m f :=
  ⟨hf.inn, hf.lo, fun t h1 h2 h3 => hf.hi t (by omega) h2 h3, hf.piv⟩
/-- Cleared everywhere it is the row of the fractions. -/
theorem rowp_done {m i : Nat} {f : Nat → Int} (hmi : m ≤ i) (hi : i < j.s.cs.length) (hf : RowP j c m i f) (hpr : ∀ k, k < c → primI f c k = f k) : ∀ k, k < c → f k = primI (outI (j.M i) c) c k := by
  intro k hk
  have hall : ∀ t, t < j.s.cs.length → t ≠ i → ((f (j.s.cs.getD t 0) : Int) : Rat) = 0 := fun t ht hne => by
    have : f (j.s.cs.getD t 0) = 0 := by
      rcases Nat.lt_or_ge t i with h | h
      · exact hf.lo t h
      · exact hf.hi t (by omega) ht hne
    rw [this]; rfl
  have hM : ∀ k, k < c → ((f k : Int) : Rat) = (f (j.s.cs.getD i 0) : Rat) * j.M i k := fun k hk => by
    have h1 := hf.inn k hk
    rw [sumR_one hi fun t ht hne => by show ((f (j.s.cs.getD t 0) : Int) : Rat) * j.M t k = 0; rw [hall t ht hne]; grind] at h1
    exact h1
  rw [← hpr k hk]
  have hl := lcmTo_pos (j.M i) c
  refine prim_par (a := (lcmTo (j.M i) c : Int)) (b := f (j.s.cs.getD i 0)) (by omega) hf.piv (rowp_nz hcs hi hf) (fun t ht => ?_) hk
  refine Rat.intCast_inj.1 ?_
  rw [Rat.intCast_mul, Rat.intCast_mul, hM t ht, ← outI_eq (j.M i) ht]
  have h3 : (((lcmTo (j.M i) c : Nat) : Int) : Rat) = ((lcmTo (j.M i) c : Nat) : Rat) := rfl
  rw [h3]
  generalize ((lcmTo (j.M i) c : Nat) : Rat) = l
  generalize (f (j.s.cs.getD i 0) : Rat) = p
  generalize j.M i t = y
  grind
end
end Go.Abs
set_option linter.unusedVariables false
set_option linter.unusedSimpArgs false
namespace Go.Abs
def stepR (h c : Nat) (f g : Nat → Int) : Nat → Int := if f h = 0 then f else primI (fun k => g h * f k - f h * g k) c
/-- The rows after k heads have been cleared. -/
def Fs (cs : List Nat) (c : Nat) (F0 : Nat → Nat → Int) : Nat → Nat → Nat → Int
  | 0 => F0
  | k + 1 => fun i => if i < cs.length - (k + 1) then stepR (cs.getD (cs.length - (k + 1)) 0) c (Fs cs c F0 k i) (Fs cs c F0 k (cs.length - (k + 1))) else Fs cs c F0 k i
section
variable {n c e : Nat} {B : Nat → Nat → Rat} (hB : Bd e B) (hn : n ≤ 64)
include hB hn
def F0s (n : Nat) (B : Nat → Nat → Rat) (c : Nat) : Nat → Nat → Int := fun i => primI (ZgI n B c i) c
def Fk (n : Nat) (B : Nat → Nat → Rat) (c k : Nat) : Nat → Nat → Int := Fs (gproc n B c).cs c (F0s n B c) k
omit hB hn in
theorem hcs_lt : ∀ t, t < (jproc n B c).s.cs.length → (jproc n B c).s.cs.getD t 0 < c := by
  intro t ht
  rw [jproc_s] at ht ⊢
  exact cs_getD_lt ht
structure Fok (n c e : Nat) (B : Nat → Nat → Rat) (k : Nat) : Prop where
  row : ∀ i, i < (gproc n B c).cs.length → RowP (jproc n B c) c ((gproc n B c).cs.length - k) i (Fk n B c k i)
  idem : ∀ i, i < (gproc n B c).cs.length → ∀ t, t < c → primI (Fk n B c k i) c t = Fk n B c k i t
  sz : ∀ i, i < (gproc n B c).cs.length → ∀ t, t < c → (Fk n B c k i t).natAbs < LB ^ ((KB e + 1) + k * (KB e + 2))
omit hB hn in
theorem Fok.top {k i : Nat} (h : Fok n c e B k) (hi : i < (gproc n B c).cs.length) (hk : (gproc n B c).cs.length - k ≤ i + 1) : ∀ t, t < c → Fk n B c k i t = primI (outI ((jproc n B c).M i) c) c t := by
  have hrow : RowP (jproc n B c) c ((gproc n B c).cs.length - k) i (Fk n B c k i) := h.row i hi
  have hlen : (jproc n B c).s.cs.length = (gproc n B c).cs.length := by rw [jproc_s]
  by_cases e : (gproc n B c).cs.length - k ≤ i
  · exact rowp_done (hcs_lt) e (by rw [hlen]; exact hi) hrow (h.idem i hi)
  · have e2 : (gproc n B c).cs.length - k = i + 1 := by omega
    rw [e2] at hrow
    exact rowp_done (hcs_lt) (Nat.le_refl i) (by rw [hlen]; exact hi) (rowp_self hrow) (h.idem i hi)
end
end Go.Abs
set_option linter.unusedVariables false
set_option linter.unusedSimpArgs false
namespace Go.Abs
theorem detI_det {b : List (List ZI)} {e n : Nat} (hm : Mok e b) (hn : n ≤ 64) : ((detI n (Bm b) : Int) : Rat) = det n (Bm b) := by
  obtain ⟨z, hz, _⟩ := dv_kb (Bm_bd hm) hn n
  have h := dv_det (n := n) (B := Bm b) fun i k => ⟨_, rfl⟩
  rw [← h]
  unfold detI
  rw [(rat_num_int hz).1, hz]
theorem detI_eq {b c : List (List ZI)} {e f n : Nat} (hb : Mok e b) (hc : Mok f c) (hn : n ≤ 64) {z : Int} (h : det n (Bm c) = (z : Rat)) : detI n (Bm c) = z := Rat.intCast_inj.1 (by rw [detI_det hc hn, h])
theorem detI_turn {b : List (List ZI)} {e n : Nat} (hm : Mok e b) (hl : b.length = n) (hw : wid b = n) (hn : n ≤ 64) : detI n (Bm (turnM b)) = detI n (Bm b) := by
  refine detI_eq hm (turn_ok hm) hn ?_
  rw [detI_det hm hn, ← det_turn n (Bm b)]
  refine det_congr fun r c hr hc => ?_
  unfold Bm turnM
  rw [mg_mat (by omega), zg_vec (by omega)]
def swM (b : List (List ZI)) : List (List ZI) := mat b.length fun i => mg (formM b) (if i = 0 then 1 else if i = 1 then 0 else i)
theorem form_row {b : List (List ZI)} {i : Nat} (hi : i < b.length) : mg (formM b) i = vec (mg b i).length fun k => zg (mg b i) k := mg_mat hi
theorem sw_ok {b : List (List ZI)} {e : Nat} (hm : Mok e b) : Mok e (swM b) := mok_mat hm.len fun i _ => (mok_form hm).row _
theorem detI_swap {b : List (List ZI)} {e n : Nat} (hm : Mok e b) (hl : b.length = n) (hrow : ∀ i, (h : i < b.length) → b[i].length = n) (h1 : 1 < n) (hn : n ≤ 64) : detI n (Bm (swM b)) = -detI n (Bm b) := by
  refine detI_eq hm (sw_ok hm) hn ?_
  rw [Rat.intCast_neg, detI_det hm hn, ← det_swap (s := 0) (t := 1) (by decide) (by omega) h1]
  refine det_congr fun r c hr hc => ?_
  have hz : ∀ i, i < n → zg (mg (formM b) i) c = zg (mg b i) c := fun i hi => by
    rw [form_row (by omega), zg_vec (by rw [mg_lt (by omega), hrow i (by omega)]; exact hc)]
  have hmm : mg (swM b) r = mg (formM b) (if r = 0 then 1 else if r = 1 then 0 else r) := mg_mat (by omega)
  unfold swapR Bm
  rw [hmm]
  by_cases e0 : r = 0
  · rw [if_pos e0, if_pos e0, hz 1 h1]
  · rw [if_neg e0, if_neg e0]
    by_cases e1 : r = 1
    · rw [if_pos e1, if_pos e1, hz 0 (by omega)]
    · rw [if_neg e1, if_neg e1, hz r hr]
theorem sumTo_rat (f : Nat → Int) : ∀ m, ((sumTo f m : Int) : Rat) = sumR (fun j => (f j : Rat)) m
  | 0 => rfl
  | m + 1 => by rw [sumTo, sumR, ← sumTo_rat f m, Rat.intCast_add]
theorem detI_mul {a b : List (List ZI)} {e n : Nat} (ha : Mok e a) (hb : Mok e b) (hla : a.length = n) (hl : b.length = n) (hw : wid b = n) (hn : n ≤ 64) : detI n (Bm (prodM a b)) = detI n (Bm a) * detI n (Bm b) := by
  refine detI_eq hb (prod_ok ha hb) hn ?_
  rw [Rat.intCast_mul, detI_det ha hn, detI_det hb hn, ← det_mul]
  refine det_congr fun r c hr hc => ?_
  have e1 : mg (prodM a b) r = combV (mg a r) b := mg_mat (by omega)
  unfold Bm mulR
  rw [e1]
  unfold combV
  rw [zg_vec (by omega)]
  unfold cmbS
  rw [sumTo_rat, hl]
  exact sumR_congr fun j _ => by rw [Rat.intCast_mul]
theorem unit_det : detI 3 (Bm (unitM 3)) = 1 := by
  refine detI_eq (mok_unit 3 (by decide)) (mok_unit 3 (by decide)) (by decide) ?_
  rw [show ((1 : Int) : Rat) = 1 from rfl, ← det_oneR 3]
  refine det_congr fun r c hr hc => ?_
  unfold Bm unitM oneR
  rw [mg_mat hr, zg_vec hc]
  unfold updF
  by_cases e : r = c
  · rw [if_pos e, if_pos e.symm]; rfl
  · rw [if_neg e, if_neg (Ne.symm e)]; rfl
theorem rform_calls (b : List (List ZI)) (hb : Mok 17592186044415 b) (H : Heap) : ACalls Pr F_ref04_Form [matV b] H fun r' H' => r' = .mu (lid H 0) 0 b.length none ∧ H' = hap H [some ⟨1, (formM b).map vecV⟩] := by
  have hbl := hb.len
  refine ACalls.introH ref04_Form_fn ref04_Form_ok (Nat.le_of_ble_eq_true rfl) fun hH => ?_
  refine Safe.rg rfl ?_
  simp only [ref04_Form_r0, E3, seval]
  refine Safe.rg rfl ?_
  simp only [ref04_Form_r1, E3, seval]
  refine Safe.rg rfl ?_
  simp only [ref04_Form_r2, E3, seval]
  refine Safe.nilrow 3 1 (by decide) (by simp only [E3, seval]) ?_
  refine Safe.lp rfl ?_
  refine Safe.keep [0, 3, 4] ?_
  try simp only [E3, seval]
  refine Safe.loopN (b.length) (fun i => [(0, matV b), (3, .mu (lid H 0) 0 i none), (4, .int .i64 i)]) (fun i => hap H [some ⟨1, (mat i fun i => vec (mg b i).length fun k => zg (mg b i) k).map vecV⟩]) rfl rfl (fun i hi ih => ?_) ?_
  · have hlt : ((i : Int) < (b.length : Int)) = True := eq_true (by omega)
    have hiw : IntKind.wrap .i64 ((i : Int) + 1) = ((i + 1 : Nat) : Int) := by rw [wrap_i64] <;> omega
    have ht := times_pure (canZ 1) b[i] 1 17592186044415 (zok_small (by decide)) (hb.get (by omega)) (by omega)
    have he : (b[i].map fun x => (canZ 1).z * x.z) = b[i].map ZI.z := List.map_congr_left fun x _ => by rw [canZ_z, Int.one_mul]
    rw [he, cans_eq_vec b[i] fun x => x, ← mg_lt hi] at ht
    refine Safe.inLoop ?_
    refine Safe.rg rfl ?_
    simp only [ref04_Form_r3, hlt, E3, seval]
    refine Safe.cd rfl ?_
    simp only [E3, seval]
    refine Safe.rg rfl ?_
    simp only [ref04_Form_r4, mat_idx _ b _ i (by omega), E3, seval]
    refine of_one.dcall ?_
    simp only [mat_idx _ b _ i (show i < b.length by omega), E3, seval]
    rw [← mg_lt hi]
    refine ht.dcall ?_
    simp only [E3, seval]
    rw [app_row hH 0 (lid_ge H 0) vecV_cl (mat i fun i => vec (mg b i).length fun k => zg (mg b i) k) (vec (mg b i).length fun k => zg (mg b i) k) (mat (i + 1) fun i => vec (mg b i).length fun k => zg (mg b i) k) ?hlen ?hl ?hL ?hy ?hl2 ?hb ?hbb]
    case hlen => first | rfl | (simp only [vec_length, mat_length, List.length_map, List.length_take]; done) | (simp only [vec_length, mat_length, List.length_map, List.length_take]; omega)
    case hl => rfl
    case hL => repeat (first | exact RC.nil | refine RC.none ?_ | refine RC.row ZI.cl ?_ | refine RC.cons (blk_u32 _) ?_ | refine RC.row vecV_cl ?_ | refine RC.emp ?_ | refine RC.zero ?_ | refine RC.one (Z_cl _) ?_ | refine RC.one (ZI.cl _) ?_ | refine RC.one (vecV_cl _) ?_)
    case hy => rfl
    case hl2 => first | exact vec_succ _ _ | exact mat_succ _ _ | exact take_succ _ (by omega) | exact take_map_succ _ _ (by omega)
    case hb => omega
    case hbb => omega
    simp only [E3, seval]
    refine Safe.rg rfl ?_
    simp only [ref04_Form_r5, hiw, E3, seval]
    refine Safe.keep [0, 3, 4] ?_
    simp only [E3, seval]
    exact ih
  · refine Safe.inLoop ?_
    refine Safe.rg rfl ?_
    simp only [ref04_Form_r3, Int.lt_irrefl, E3, seval]
    refine Safe.cd rfl ?_
    simp only [E3, seval]
    refine Safe.rg rfl ?_
    simp only [ref04_Form_r6, E3, seval]
    refine Safe.rt rfl ?_
    simp only [E3, seval]
    exact rfl
theorem alive_pure : PureC Pr F_law06_alive [] (.bool true) := by
  have hu := mok_unit 3 (by decide)
  have h0 : sqE (unitM 3) = 0 := sq_zero (k := 3) (mat_length _ _) (fun i hi => by
    have : (unitM 3)[i] = vec 3 (updF (fun _ => 0) i 1) := mat_get hi
    rw [this, vec_length]) (by decide)
  have hd := pdet_ok (unitM 3) (hu.mono (show 1 ≤ 1048576 by decide)) kb_fits h0
  rw [show (unitM 3).length = 3 from mat_length _ _, unit_det] at hd
  refine PureC.intro law06_alive_fn law06_alive_ok (Nat.le_of_ble_eq_true rfl) (.bool _) fun H hH => ?_
  refine Safe.rg rfl ?_
  simp only [law06_alive_r0, E3, Nat.reduceLeDiff, Nat.reduceSub, Nat.reduceAdd, Nat.reduceEqDiff, reduceCtorEq, ↓reduceIte]
  refine Safe.rg rfl ?_
  simp only [law06_alive_r1, E3, Nat.reduceLeDiff, Nat.reduceSub, Nat.reduceAdd, Nat.reduceEqDiff, reduceCtorEq, ↓reduceIte]
  first | refine (munit_ok 3 (by decide)).acall ?_ | refine (munit_ok 3 (by decide)).dcall ?_
  try simp only [E3, Nat.reduceLeDiff, Nat.reduceSub, Nat.reduceAdd, Nat.reduceEqDiff, reduceCtorEq, ↓reduceIte]
  refine Safe.rg rfl ?_
  simp only [law06_alive_r2, E3, Nat.reduceLeDiff, Nat.reduceSub, Nat.reduceAdd, Nat.reduceEqDiff, reduceCtorEq, ↓reduceIte]
  first | refine (hd).acall ?_ | refine (hd).dcall ?_
  try simp only [E3, Nat.reduceLeDiff, Nat.reduceSub, Nat.reduceAdd, Nat.reduceEqDiff, reduceCtorEq, ↓reduceIte]
  refine Safe.rg rfl ?_
  simp only [law06_alive_r3, E3, Nat.reduceLeDiff, Nat.reduceSub, Nat.reduceAdd, Nat.reduceEqDiff, reduceCtorEq, ↓reduceIte]
  refine (zof_pure 1 (by decide) (by decide)).dcall ?_
  simp only [E3, Nat.reduceLeDiff, Nat.reduceSub, Nat.reduceAdd, Nat.reduceEqDiff, reduceCtorEq, ↓reduceIte]
  refine (eqZ_pure (z := 1) (k := 1) (by decide) (by decide)).dcall ?_
  simp only [E3, Nat.reduceLeDiff, Nat.reduceSub, Nat.reduceAdd, Nat.reduceEqDiff, reduceCtorEq, ↓reduceIte]
  have hl : (((limbs (Int.natAbs 1)).length : Nat) : Int) = 1 := by rw [limbs_pos (by decide), List.length_cons, show Int.natAbs 1 / LB = 0 by decide, limbs_zero]; rfl
  refine Safe.rt rfl ?_
  simp only [hl, E3, Nat.reduceLeDiff, Nat.reduceSub, Nat.reduceAdd, Nat.reduceEqDiff, reduceCtorEq, ↓reduceIte]
  first | exact ⟨rfl, _, rfl⟩ | exact ⟨_, rfl⟩ | exact ⟨trivial, _, rfl⟩
theorem st_m2 {H L : Heap} {a b : Option Blk} {rows : List (List ZI)} {j : Nat} {v : List ZI} {env : Env} (h : j < rows.length) : storeV 1 (.loc (lid H 2) j 0) (vecV v) env (hap H (a :: b :: some ⟨1, rows.map vecV⟩ :: L)) = some (.top, env, hap H (a :: b :: some ⟨1, (rows.set j v).map vecV⟩ :: L)) := by
  rw [storeV_loc env H _ 1 2 j 0 (vecV v) rfl (by rw [List.length_map]; exact h) rfl rfl (Nat.le_refl 1), upd_whole, List.map_set]; rfl
theorem at_m2 {H L : Heap} {a b : Option Blk} {rows : List (List ZI)} {j : Nat} (h : j < rows.length) : atV (hap H (a :: b :: some ⟨1, rows.map vecV⟩ :: L)) (.loc (lid H 2) j 0) = some [vecV (mg rows j)] := by
  rw [loc_load H _ 2 j rfl (by rw [List.length_map]; exact h), List.getD_eq_getElem?_getD, List.getElem?_map, List.getElem?_eq_getElem h, mg_lt h]; rfl
theorem sw_eq (b : List (List ZI)) (h : 1 < b.length) : ((formM b).set 0 (mg (formM b) 1)).set 1 (mg (formM b) 0) = swM b := by
  have hl : (formM b).length = b.length := mat_length _ _
  apply List.ext_getElem
  · rw [List.length_set, List.length_set, hl, swM, mat_length]
  · intro i h1 h2
    have hi : i < b.length := by rw [swM, mat_length] at h2; exact h2
    have e : (swM b)[i] = mg (formM b) (if i = 0 then 1 else if i = 1 then 0 else i) := mat_get h2
    rw [e, List.getElem_set, List.getElem_set]
    by_cases e1 : i = 1
    · subst e1; rfl
    · rw [if_neg (Ne.symm e1)]
      by_cases e0 : i = 0
      · subst e0; rfl
      · rw [if_neg (Ne.symm e0), if_neg e0, if_neg e1]; exact (mg_lt (by omega)).symm
theorem elimproducts_pure (a b : List (List ZI)) (ha : Mok 1048576 a) (hb : Mok 1048576 b) : PureC Pr F_law06_ElimProducts [matV a, matV b] (.bool true) := by
  refine PureC.intro law06_ElimProducts_fn law06_ElimProducts_ok (Nat.le_of_ble_eq_true rfl) (.bool _) fun H hH => ?_
  refine Safe.rg rfl ?_
  simp only [law06_ElimProducts_r0, E3, seval]
  refine Safe.rg rfl ?_
  simp only [law06_ElimProducts_r1, E3, seval]
  first | refine (alive_pure).acall ?_ | refine (alive_pure).dcall ?_
  try simp only [E3, seval]
  refine Safe.cd rfl ?_
  simp only [E3, seval]
  by_cases ha0 : sqE a = 0
  · by_cases hb0 : sqE b = 0
    · obtain ⟨hna, hra⟩ := square_rows ha0
      obtain ⟨hnb, hrb⟩ := square_rows hb0
      have hwb := (sqE_zero hb0).2
      have hRb := (rect_rows (sqE_zero hb0).1).2.2.1
      have hRa := (rect_rows (sqE_zero ha0).1).2.2.1
      have hwa := (sqE_zero ha0).2
      have hx := det_zok ha hna kb_fits
      have hy := det_zok hb hnb kb_fits
      refine Safe.rg rfl ?_
      simp only [law06_ElimProducts_r3, E3, seval]
      first | refine (pdet_ok a ha kb_fits ha0).acall ?_ | refine (pdet_ok a ha kb_fits ha0).dcall ?_
      try simp only [E3, seval]
      refine Safe.rg rfl ?_
      simp only [law06_ElimProducts_r4, E3, seval]
      first | refine (pdet_ok b hb kb_fits hb0).acall ?_ | refine (pdet_ok b hb kb_fits hb0).dcall ?_
      try simp only [E3, seval]
      refine Safe.rg rfl ?_
      simp only [law06_ElimProducts_r5, E3, seval]
      refine Safe.cd rfl ?_
      simp only [E3, seval]
      refine Safe.rg rfl ?_
      simp only [law06_ElimProducts_r7, E3, seval]
      first | refine (turn_rect b 1048576 hb (by decide) hRb).acall ?_ | refine (turn_rect b 1048576 hb (by decide) hRb).dcall ?_
      try simp only [E3, seval]
      obtain ⟨K, hK⟩ : ∃ K, K = KB 1048576 + 1 := ⟨_, rfl⟩
      have hKK : K < 1099511627776 := by rw [hK]; exact kb_fits
      rw [← hK] at hx hy
      generalize hX : detI a.length (Bm a) = x at *
      generalize hY : detI b.length (Bm b) = y at *
      refine Safe.rg rfl ?_
      simp only [law06_ElimProducts_r8, E3, seval]
      have fin : Safe ⟨Pr, fun _ _ => false, F_law06_ElimProducts, 121, [.tmp 4], H.length⟩ [.code (((ACode.region law06_ElimProducts_r18 false).seq (ACode.cond (.t 96) ((ACode.region law06_ElimProducts_r19 false).seq ACode.ret) ACode.skip)).seq ((ACode.region law06_ElimProducts_r20 false).seq ((ACode.region law06_ElimProducts_r21 false).seq ((ACode.region law06_ElimProducts_r22 true).seq ACode.ret))))] [(0, matV a), (1, matV b), (5, .loc (lid H 0) 0 0), (7, .loc (lid H 1) 0 0)] (hap H [some ⟨2, [Z x]⟩, some ⟨2, [Z y]⟩]) fun r' H' => r' = .bool true ∧ ∃ L, H' = hap H L := by
        by_cases hab : a.length = b.length
        · have hab' : ((a.length : Int) = (b.length : Int)) = True := eq_true (by omega)
          have hp0 : sqE (prodM a b) = 0 := sq_zero (k := b.length) (by rw [prodM, mat_length, hab]) (fun i hi => by
            have : (prodM a b)[i] = combV (mg a i) b := mat_get hi
            rw [this, combV, vec_length, hwb]) hnb
          have hpd := pdet_ok (prodM a b) (prod_ok ha hb) (show KB (1048576 + 1048576 + 2) + 1 < 1099511627776 by decide) hp0
          rw [show (prodM a b).length = b.length by rw [prodM, mat_length, hab], detI_mul ha hb hab rfl hwb.symm hnb, ← hab, hX, hab, hY] at hpd
          refine Safe.rg rfl ?_
          simp only [law06_ElimProducts_r18, hab', E3, seval]
          refine Safe.cd rfl ?_
          simp only [E3, seval]
          refine Safe.rg rfl ?_
          simp only [law06_ElimProducts_r20, E3, seval]
          first | refine (product_ok a b 1048576 1048576 ha hb (by decide) ⟨hRa, hRb, fun _ => by omega⟩).acall ?_ | refine (product_ok a b 1048576 1048576 ha hb (by decide) ⟨hRa, hRb, fun _ => by omega⟩).dcall ?_
          try simp only [E3, seval]
          refine Safe.rg rfl ?_
          simp only [law06_ElimProducts_r21, E3, seval]
          first | refine (hpd).acall ?_ | refine (hpd).dcall ?_
          try simp only [E3, seval]
          refine Safe.rg rfl ?_
          simp only [law06_ElimProducts_r22, E3, seval]
          have hml := zmul_pure (canZ x) (canZ y) K K (zok_can hx) (zok_can hy) (by omega)
          rw [canZ_z, canZ_z] at hml
          refine hml.dcall ?_
          simp only [E3, seval]
          refine (eqZ_pure (mul_abs hx hy) (by omega)).dcall ?_
          simp only [E3, seval]
          refine Safe.rt rfl ?_
          simp only [E3, seval]
          first | exact ⟨rfl, _, rfl⟩ | exact ⟨_, rfl⟩ | exact ⟨trivial, _, rfl⟩
        · have hab' : ((a.length : Int) = (b.length : Int)) = False := eq_false (by omega)
          refine Safe.rg rfl ?_
          simp only [law06_ElimProducts_r18, hab', E3, seval]
          refine Safe.cd rfl ?_
          simp only [E3, seval]
          refine Safe.rg rfl ?_
          simp only [law06_ElimProducts_r19, E3, seval]
          refine Safe.rt rfl ?_
          simp only [E3, seval]
          first | exact ⟨rfl, _, rfl⟩ | exact ⟨_, rfl⟩ | exact ⟨trivial, _, rfl⟩
      have mid : Safe ⟨Pr, fun _ _ => false, F_law06_ElimProducts, 121, [.tmp 4], H.length⟩ [.code (((ACode.region law06_ElimProducts_r12 false).seq (ACode.cond (.t 65) ((ACode.region law06_ElimProducts_r13 false).seq ((ACode.region law06_ElimProducts_r14 true).seq ((ACode.region law06_ElimProducts_r15 false).seq ((ACode.region law06_ElimProducts_r16 true).seq (ACode.cond (.t 91) ((ACode.region law06_ElimProducts_r17 false).seq ACode.ret) ACode.skip))))) ACode.skip)).seq (((ACode.region law06_ElimProducts_r18 false).seq (ACode.cond (.t 96) ((ACode.region law06_ElimProducts_r19 false).seq ACode.ret) ACode.skip)).seq ((ACode.region law06_ElimProducts_r20 false).seq ((ACode.region law06_ElimProducts_r21 false).seq ((ACode.region law06_ElimProducts_r22 true).seq ACode.ret)))))] [(0, matV a), (1, matV b), (5, .loc (lid H 0) 0 0), (7, .loc (lid H 1) 0 0)] (hap H [some ⟨2, [Z x]⟩, some ⟨2, [Z y]⟩]) fun r' H' => r' = .bool true ∧ ∃ L, H' = hap H L := by
        by_cases h1 : 1 < b.length
        · have h1' : ((1 : Int) < (b.length : Int)) = True := eq_true (by omega)
          refine Safe.rg rfl ?_
          simp only [law06_ElimProducts_r12, h1', E3, seval]
          refine Safe.cd rfl ?_
          simp only [E3, seval]
          refine Safe.rg rfl ?_
          simp only [law06_ElimProducts_r13, E3, seval]
          refine (rform_calls b (hb.mono (by omega)) (hap H [some ⟨2, [Z x]⟩, some ⟨2, [Z y]⟩])).mono ?_
          rintro r' H' ⟨rfl, rfl⟩
          have e0 : lid (hap H [some ⟨2, [Z x]⟩, some ⟨2, [Z y]⟩]) 0 = lid H 2 := by simp [hap, lid]
          rw [e0, hap_hap']
          simp only [E3, seval]
          have hfl : (formM b).length = b.length := mat_length _ _
          have hi0 : ∀ (rows : List (List ZI)), idxV (hap H [some ⟨2, [Z x]⟩, some ⟨2, [Z y]⟩, some ⟨1, rows.map vecV⟩]) 1 (.mu (lid H 2) 0 b.length none) (.int .i64 0) = some (.loc (lid H 2) 0 0) := fun rows => idx_r2 (j := 0) (by omega)
          have hi1 : ∀ (rows : List (List ZI)), idxV (hap H [some ⟨2, [Z x]⟩, some ⟨2, [Z y]⟩, some ⟨1, rows.map vecV⟩]) 1 (.mu (lid H 2) 0 b.length none) (.int .i64 1) = some (.loc (lid H 2) 1 0) := fun rows => idx_r2 (j := 1) (by omega)
          refine Safe.rg rfl ?_
          simp only [law06_ElimProducts_r14, List.cons_append, List.nil_append, hi0, hi1, at_m2 (show 0 < (formM b).length by omega), at_m2 (show 1 < (formM b).length by omega), st_m2 (show 0 < (formM b).length by omega), E3, seval]
          simp only [st_m2 (rows := (formM b).set 0 (mg (formM b) 1)) (show 1 < ((formM b).set 0 (mg (formM b) 1)).length by rw [List.length_set]; omega), sw_eq b h1, E3, seval]
          have hs0 : sqE (swM b) = 0 := sq_zero (k := b.length) (mat_length _ _) (fun i hi => by
            have hib : i < b.length := by rw [swM, mat_length] at hi; exact hi
            have : (swM b)[i] = mg (formM b) (if i = 0 then 1 else if i = 1 then 0 else i) := mat_get hi
            have hj : (if i = 0 then 1 else if i = 1 then 0 else i) < b.length := by split; omega; split <;> omega
            rw [this, form_row hj, vec_length, mg_lt hj, hrb _ hj]) hnb
          have hsd := pdet_ok (swM b) (sw_ok hb) kb_fits hs0
          rw [show (swM b).length = b.length from mat_length _ _, detI_swap hb rfl hrb h1 hnb, hY] at hsd
          refine Safe.rg rfl ?_
          simp only [law06_ElimProducts_r15, E3, seval]
          refine PureC.consumeL hH 2 rfl (blk_map 1 vecV _ vecV_cl) (r := .tup [Z (-y), .int .i64 0]) (by simp only [List.map_cons, List.map_nil, frz_mat H 2 (swM b) b.length none (by rw [swM, mat_length])]; exact hsd) ?_
          simp only [frzL_cons, frzL_nil, E3, seval]
          refine Safe.rg rfl ?_
          simp only [law06_ElimProducts_r16, E3, seval]
          have hng := zneg_pure (canZ y) ((zok_can hy).mono (by omega))
          rw [canZ_z] at hng
          refine hng.dcall ?_
          simp only [E3, seval]
          refine (eqZ_pure (z := -y) (k := K) (by rw [Int.natAbs_neg]; exact hy) (by omega)).dcall ?_
          simp only [E3, seval]
          refine Safe.cd rfl ?_
          simp only [E3, seval]
          refine Safe.keep [0, 1, 5, 7] ?_
          simp only [E3, seval]
          refine Safe.drop3 hH rfl (by simp only [List.all_cons, List.all_nil, E3, seval]) (by repeat (first | exact RC.nil | refine RC.none ?_ | refine RC.row ZI.cl ?_ | refine RC.cons (blk_u32 _) ?_ | refine RC.row vecV_cl ?_ | refine RC.emp ?_ | refine RC.zero ?_ | refine RC.one (Z_cl _) ?_ | refine RC.one (ZI.cl _) ?_ | refine RC.one (vecV_cl _) ?_)) ?_
          refine Safe.drop2 hH rfl (by simp only [List.all_cons, List.all_nil, E3, seval]) (by repeat (first | exact RC.nil | refine RC.none ?_ | refine RC.row ZI.cl ?_ | refine RC.cons (blk_u32 _) ?_ | refine RC.row vecV_cl ?_ | refine RC.emp ?_ | refine RC.zero ?_ | refine RC.one (Z_cl _) ?_ | refine RC.one (ZI.cl _) ?_ | refine RC.one (vecV_cl _) ?_)) ?_
          refine Safe.skip ?_
          exact fin
        · have h1' : ((1 : Int) < (b.length : Int)) = False := eq_false (by omega)
          refine Safe.rg rfl ?_
          simp only [law06_ElimProducts_r12, h1', E3, seval]
          refine Safe.cd rfl ?_
          simp only [E3, seval]
          refine Safe.keep [0, 1, 5, 7] ?_
          simp only [E3, seval]
          refine Safe.skip ?_
          exact fin
      have htd : PureC Pr F_elim_Det [matV (turnM b)] (.tup [Z y, .int .i64 0]) := by
        have ht0 : sqE (turnM b) = 0 := sq_zero (k := b.length) (by rw [turnM, mat_length, hwb]) (fun i hi => by
          have : (turnM b)[i] = vec b.length fun t => zg (mg b t) i := mat_get hi
          rw [this, vec_length]) hnb
        have := pdet_ok (turnM b) (turn_ok hb) kb_fits ht0
        rwa [show (turnM b).length = b.length by rw [turnM, mat_length, hwb], detI_turn hb rfl hwb.symm hnb, hY] at this
      by_cases hn0 : 0 < b.length
      · have hn0' : ((0 : Int) < (b.length : Int)) = True := eq_true (by omega)
        simp only [hn0', E3, seval]
        refine Safe.cd rfl ?_
        simp only [E3, seval]
        refine Safe.rg rfl ?_
        simp only [law06_ElimProducts_r9, E3, seval]
        first | refine (htd).acall ?_ | refine (htd).dcall ?_
        try simp only [E3, seval]
        refine Safe.rg rfl ?_
        simp only [law06_ElimProducts_r10, E3, seval]
        refine (eqZ_pure hy (by omega)).acall ?_
        simp only [E3, seval]
        refine Safe.cd rfl ?_
        simp only [E3, seval]
        refine Safe.keep [0, 1, 5, 7] ?_
        simp only [E3, seval]
        refine Safe.drop2 hH rfl (by simp only [List.all_cons, List.all_nil, E3, seval]) (by repeat (first | exact RC.nil | refine RC.none ?_ | refine RC.row ZI.cl ?_ | refine RC.cons (blk_u32 _) ?_ | refine RC.row vecV_cl ?_ | refine RC.emp ?_ | refine RC.zero ?_ | refine RC.one (Z_cl _) ?_ | refine RC.one (ZI.cl _) ?_ | refine RC.one (vecV_cl _) ?_)) ?_
        refine Safe.skip ?_
        exact mid
      · have hn0' : ((0 : Int) < (b.length : Int)) = False := eq_false (by omega)
        simp only [hn0', E3, seval]
        refine Safe.cd rfl ?_
        simp only [E3, seval]
        refine Safe.keep [0, 1, 5, 7] ?_
        simp only [E3, seval]
        refine Safe.skip ?_
        exact mid
    · have hb0' : (sqE b = 0) = False := eq_false hb0
      refine Safe.rg rfl ?_
      simp only [law06_ElimProducts_r3, E3, seval]
      first | refine (pdet_ok a ha kb_fits ha0).acall ?_ | refine (pdet_ok a ha kb_fits ha0).dcall ?_
      try simp only [E3, seval]
      refine Safe.rg rfl ?_
      simp only [law06_ElimProducts_r4, E3, seval]
      first | refine (pdet_bad b hb hb0).acall ?_ | refine (pdet_bad b hb hb0).dcall ?_
      try simp only [E3, seval]
      refine Safe.rg rfl ?_
      simp only [law06_ElimProducts_r5, hb0', E3, seval]
      refine Safe.cd rfl ?_
      simp only [E3, seval]
      refine Safe.rg rfl ?_
      simp only [law06_ElimProducts_r6, E3, seval]
      refine Safe.rt rfl ?_
      simp only [E3, seval]
      first | exact ⟨rfl, _, rfl⟩ | exact ⟨_, rfl⟩ | exact ⟨trivial, _, rfl⟩
  · have ha0' : (sqE a = 0) = False := eq_false ha0
    have hB : ∃ (y f : Int), PureC Pr F_elim_Det [matV b] (.tup [Z y, .int .i64 f]) := by
      by_cases hb0 : sqE b = 0
      · exact ⟨_, _, pdet_ok b hb kb_fits hb0⟩
      · exact ⟨_, _, pdet_bad b hb hb0⟩
    obtain ⟨y, f, hB⟩ := hB
    refine Safe.rg rfl ?_
    simp only [law06_ElimProducts_r3, E3, seval]
    first | refine (pdet_bad a ha ha0).acall ?_ | refine (pdet_bad a ha ha0).dcall ?_
    try simp only [E3, seval]
    refine Safe.rg rfl ?_
    simp only [law06_ElimProducts_r4, E3, seval]
    first | refine (hB).acall ?_ | refine (hB).dcall ?_
    try simp only [E3, seval]
    refine Safe.rg rfl ?_
    simp only [law06_ElimProducts_r5, ha0', E3, seval]
    refine Safe.cd rfl ?_
    simp only [E3, seval]
    refine Safe.rg rfl ?_
    simp only [law06_ElimProducts_r6, E3, seval]
    refine Safe.rt rfl ?_
    simp only [E3, seval]
    first | exact ⟨rfl, _, rfl⟩ | exact ⟨_, rfl⟩ | exact ⟨trivial, _, rfl⟩
end Go.Abs
set_option linter.unusedVariables false
set_option linter.unusedSimpArgs false
namespace Go.Abs
open Go.ChangeShapes Go.WideShapes
open Go.Proofs.Ytkljokmnimblnaa.Rows (uptoBulk uptoBulkAll)
section
variable {K : Type} {enc : TypeId × Value → K} {P : Program} {w : World} {base : Nat} {sp : Nat → Bool} {held : Bool}
theorem bulk_pos (d : DataW K) : 1 ≤ uptoBulk d := by
  cases d with
  | lit l => cases l <;> simp [uptoBulk]
  | nil => simp [uptoBulk]
  | ptr d => simp [uptoBulk]
  | slice elems spare => simp [uptoBulk]
  | agg parts => simp [uptoBulk]
  | iface t d => simp [uptoBulk]
  | map entries => simp [uptoBulk]
  | held h => simp [uptoBulk]
theorem bulk_mem {d : DataW K} : ∀ {l : List (DataW K)}, d ∈ l → uptoBulk d ≤ uptoBulkAll l
  | [], h => by cases h
  | x :: r, h => by
    simp only [uptoBulkAll]
    rcases List.mem_cons.1 h with e | e
    · subst e; omega
    · have := bulk_mem e; omega
theorem bulk_len : ∀ (l : List (DataW K)), l.length ≤ uptoBulkAll l
  | [] => by simp [uptoBulkAll]
  | x :: r => by have := bulk_pos x; have := bulk_len r; simp only [uptoBulkAll, List.length_cons]; omega
theorem bulk_slice (es rs : List (DataW K)) : uptoBulkAll es + 1 ≤ uptoBulk (.slice es rs) := by simp only [uptoBulk]; omega
theorem sum_le_bulk {α : Type} (W : α → Nat) : ∀ (ds : List (DataW K)) (xs : List α), xs.length = ds.length → (∀ (i : Nat) a, xs[i]? = some a → W a ≤ uptoBulk (ds.getD i .nil)) → (xs.map W).sum ≤ uptoBulkAll ds
  | [], [], _, _ => by simp
  | d :: ds, x :: xs, h, hw => by
    have h1 := hw 0 x rfl
    have h2 := sum_le_bulk W ds xs (by simpa using h) fun i a ha => by have := hw (i + 1) a (by simpa using ha); simpa using this
    simp only [List.map_cons, List.sum_cons, uptoBulkAll]
    simp at h1
    omega
  | [], _ :: _, h, _ => by simp at h
  | _ :: _, [], h, _ => by simp at h
theorem addr_add_add (a : Addr) (m j : Nat) : (a.add m).add j = a.add (m + j) := by
  unfold Addr.add
  by_cases hm : m = 0 <;> by_cases hj : j = 0 <;> simp [hm, hj, Nat.add_assoc]
/-- No row is the call's own yet. -/
theorem not_mut {φ : Nat → Option Nat} {b : Nat} : ¬ (Emb.mk φ [] w).Mut b := by
  rintro ⟨id, blk, h, _⟩; simp at h
theorem hok_nil (φ : Nat → Option Nat) (w : World) : HOk ⟨φ, [], w⟩ := ⟨fun id b h => by simp at h, fun id b h => by simp at h, fun id b _ h => by simp at h, fun id b h => by simp at h, fun i j b c _ h => by simp at h⟩
/-- A value read xs0 data d stands for the tree a. -/
structure Stands (w : World) (cs : List Value) (a : AV) : Prop where
  one : ∀ c ∈ cs, c.oneCell' = true
  len : cs.length = a.cells.length
  rep : ∀ (φ : Nat → Option Nat) (k : Nat) v c, cs[k]? = some v → a.cells[k]? = some c → Rep ⟨φ, [], w⟩ v c
/-- A slice whose elements' readings stand for trees. -/
theorem open_sl {α : Type} (f : α → AV) (good : α → DataW K → Prop) {t e : TypeId} (wd : Nat) (ht : P.underlying t = some (.slice e)) (hc : P.cellsOf e = wd) (hpos : 0 < wd) (hf : ∀ a, (f a).cells.length = wd) (hcl : ∀ a, Cl (f a))
    (hel : ∀ m cs y, DataW.trod enc P w base sp held m e cs = some y → cs.length = wd → ∃ a, good a y.1 ∧ Stands w cs (f a))
    {fuel : Nat} {cs : List Value} {x : DataW K × List MemPlace} (h : DataW.trod enc P w base sp held fuel t cs = some x) :
    ∃ xs0 : List α, Stands w cs (.sl wd (xs0.map f)) ∧ xs0.length ≤ uptoBulk x.1 ∧ (∀ a ∈ xs0, ∃ d : DataW K, good a d ∧ uptoBulk d ≤ uptoBulk x.1) ∧ ∀ W : α → Nat, (∀ a d, good a d → W a ≤ uptoBulk d) → (xs0.map W).sum + 1 ≤ uptoBulk x.1 := by
  rcases DataW.trod_slice ht h with ⟨rfl, rfl⟩ | ⟨ad, len, cap, elems, rest, n, rfl, rfl, rfl, hb, hl, hm, hlen, hget, _, _⟩
  · refine ⟨[], ⟨by simp [Value.oneCell'], rfl, ?_⟩, Nat.zero_le _, by simp, fun W _ => by simp [uptoBulk]⟩
    intro φ k v c hv hc'
    match k with
    | 0 => cases hv; cases hc'; exact rep_nil_sl wd hpos .nil
    | k + 1 => simp at hv
  · -- each element
    have each : ∀ i, i < len → ∃ a cs', good a ((elems.map (·.1)).getD i .nil) ∧ Stands w cs' (f a) ∧ cs'.length = wd ∧ ∀ j, j < wd → w.cell? (ad.add (i * wd + j)) = cs'[j]? := by
      intro i hi
      have h1 := hget i hi
      have hy : elems[i]? = some (elems[i]'(by omega)) := List.getElem?_eq_getElem (by omega)
      rw [hy, Option.bind_eq_some_iff] at h1
      obtain ⟨cs', h2, h3⟩ := h1
      rw [hc] at h2
      obtain ⟨_, hl2, hcell⟩ := World.cells?_some h2
      obtain ⟨a, g1, g2⟩ := hel n cs' _ h3 hl2
      refine ⟨a, cs', ?_, g2, hl2, fun j hj => ?_⟩
      · rw [List.getD_eq_getElem?_getD, List.getElem?_map, hy]; exact g1
      · have := hcell j hj
        rw [← this]
        rw [addr_add_add]
    -- the list
    have all : ∀ m, m ≤ len → ∃ (xs0 : List α) (vs : List Value), xs0.length = m ∧ vs.length = m * wd ∧ (∀ (i : Nat) a, xs0[i]? = some a → good a ((elems.map (·.1)).getD i .nil)) ∧
        (∀ (k : Nat) v, vs[k]? = some v → w.cell? (ad.add k) = some v ∧ v.oneCell' = true) ∧ (∀ (φ : Nat → Option Nat) (k : Nat) v c, vs[k]? = some v → ((xs0.map f).flatMap AV.cells)[k]? = some c → Rep ⟨φ, [], w⟩ v c) := by
      intro m
      induction m with
      | zero => exact fun _ => ⟨[], [], rfl, by simp, by simp, by simp, by simp⟩
      | succ m ih =>
        intro hm'
        obtain ⟨xs0, vs, q1, q2, q3, q4, q5⟩ := ih (by omega)
        obtain ⟨a, cs', r1, r2, r3, r4⟩ := each m (by omega)
        have hfl : ((xs0.map f).flatMap AV.cells).length = m * wd := by
          rw [cells_len_flat (wd := wd) (by intro y hy; obtain ⟨z, _, rfl⟩ := List.mem_map.1 hy; exact hf z), List.length_map, q1]
        refine ⟨xs0 ++ [a], vs ++ cs', by simp [q1], by simp [q2, r3, Nat.add_mul], ?_, ?_, ?_⟩
        · intro i b hb'
          rcases Nat.lt_or_ge i m with hi | hi
          · rw [List.getElem?_append_left (by omega)] at hb'; exact q3 i b hb'
          · have hi' := lt_of_live' hb'
            simp at hi'
            have : i = m := by omega
            subst this
            rw [List.getElem?_append_right (by omega)] at hb'
            simp [q1] at hb'
            subst hb'; exact r1
        · intro k v hv
          rcases Nat.lt_or_ge k (m * wd) with hk | hk
          · rw [List.getElem?_append_left (by omega)] at hv; exact q4 k v hv
          · rw [List.getElem?_append_right (by omega), q2] at hv
            have hk2 := lt_of_live' hv
            refine ⟨?_, r2.one v (List.mem_of_getElem? hv)⟩
            have := r4 (k - m * wd) (by omega)
            rw [hv] at this
            rw [← this]; congr 2; omega
        · intro φ k v c hv hc'
          rw [List.map_append, List.flatMap_append] at hc'
          rcases Nat.lt_or_ge k (m * wd) with hk | hk
          · rw [List.getElem?_append_left (by omega)] at hv
            rw [List.getElem?_append_left (by omega)] at hc'
            exact q5 φ k v c hv hc'
          · rw [List.getElem?_append_right (by omega), q2] at hv
            rw [List.getElem?_append_right (by omega), hfl] at hc'
            simp at hc'
            exact r2.rep φ (k - m * wd) v c hv hc'
    obtain ⟨xs0, vs, q1, q2, q3, q4, q5⟩ := all len (Nat.le_refl _)
    have hw : ∀ y ∈ xs0.map f, y.cells.length = wd := by intro y hy; obtain ⟨z, _, rfl⟩ := List.mem_map.1 hy; exact hf z
    have hcl' : ∀ c ∈ (xs0.map f).flatMap AV.cells, Cl c := by
      intro c hc'
      obtain ⟨y, hy, hc'⟩ := List.mem_flatMap.1 hc'
      obtain ⟨z, _, rfl⟩ := List.mem_map.1 hy
      exact clcells (hcl z) c hc'
    refine ⟨xs0, ⟨by simp [Value.oneCell'], rfl, ?_⟩, ?_, ?_, ?_⟩
    · intro φ k v c hv hc'
      match k with
      | 0 =>
        cases hv; cases hc'
        have hlen' : len = (xs0.map f).length := by rw [List.length_map, q1]
        rw [hlen']
        rcases Nat.eq_zero_or_pos len with h0 | h0
        · have : xs0 = [] := List.length_eq_zero_iff.1 (by omega)
          subst this
          exact .sl _ cap wd [] [] 0 0 (Nat.zero_le _) hpos (by simp) (by simp) (.inl rfl) rfl (by simp) (by simp)
        · have hv0 : vs[0]? = some (vs[0]'(by rw [q2]; exact Nat.mul_pos h0 hpos)) := List.getElem?_eq_getElem _
          have hspot : ad.spot = none := by
            have h00 := (q4 0 _ hv0).1
            rw [show ad.add 0 = ad by simp [Addr.add]] at h00
            exact World.cell?_spot h00
          obtain ⟨b, o, s⟩ := ad
          simp only at hspot
          subst hspot
          exact .sl (some ⟨b, o, none⟩) cap wd (xs0.map f) vs b o (by rw [List.length_map, q1]; exact hl) hpos hw hcl' (.inr ⟨rfl, not_mut⟩) (by rw [cells_len_flat hw, List.length_map, q1, q2])
            (fun k v hk => by have := q4 k v hk; rw [Go.WideShapes.add_plain] at this; exact this) (fun k v c hk hc2 => q5 φ k v c hk hc2)
      | k + 1 => simp at hv
    · have h1 := bulk_len (elems.map (·.1))
      have h2 := bulk_slice (elems.map (·.1)) (rest.map (·.1))
      rw [List.length_map] at h1
      show xs0.length ≤ uptoBulk (.slice (elems.map (·.1)) (rest.map (·.1)))
      omega
    · intro a ha
      obtain ⟨i, hi, rfl⟩ := List.getElem_of_mem ha
      refine ⟨_, q3 i _ (List.getElem?_eq_getElem hi), ?_⟩
      have hm' : (elems.map (·.1)).getD i .nil ∈ elems.map (·.1) := by
        have : i < (elems.map (·.1)).length := by rw [List.length_map]; omega
        rw [List.getD_eq_getElem?_getD, List.getElem?_eq_getElem this]; exact List.getElem_mem this
      have h1 := bulk_mem hm'
      have h2 := bulk_slice (elems.map (·.1)) (rest.map (·.1))
      show uptoBulk _ ≤ uptoBulk (.slice (elems.map (·.1)) (rest.map (·.1)))
      omega
    · intro W hW
      have h1 : (xs0.map W).sum ≤ uptoBulkAll (elems.map (·.1)) := sum_le_bulk W (elems.map (·.1)) xs0 (by rw [List.length_map]; omega) fun i a ha => hW a _ (q3 i a ha)
      have h2 := bulk_slice (elems.map (·.1)) (rest.map (·.1))
      show (xs0.map W).sum + 1 ≤ uptoBulk (.slice (elems.map (·.1)) (rest.map (·.1)))
      omega
/-- Limbs. -/
theorem open_nat {t e : TypeId} (ht : P.underlying t = some (.slice e)) (he : P.underlying e = some (.int .u32)) (hc : P.cellsOf e = 1) {fuel : Nat} {cs : List Value} {x : DataW K × List MemPlace} (h : DataW.trod enc P w base sp held fuel t cs = some x) :
    ∃ l : List Nat, Stands w cs (natV l) ∧ Lim l ∧ l.length ≤ uptoBulk x.1 := by
  obtain ⟨xs0, q1, q2, q3, _⟩ := open_sl (enc := enc) (P := P) (w := w) (base := base) (sp := sp) (held := held) (fun n : Nat => .int .u32 (n : Int)) (fun n (_ : DataW K) => n < LB) 1 ht hc (by decide) (fun _ => rfl) (fun _ => .int _ _) (by
    intro m cs y hy hl
    obtain ⟨n, rfl, hx, hwf⟩ := DataW.trod_int he hy
    have hb := bounds_u32 hwf
    refine ⟨n.toNat, by show n.toNat < 4294967296; omega, by simp [Value.oneCell'], rfl, ?_⟩
    intro φ k v c hv hc'
    match k with
    | 0 =>
      cases hv; cases hc'
      have : (n.toNat : Int) = n := by omega
      rw [this]; exact .int _ _
    | k + 1 => simp at hv) h
  exact ⟨xs0, q1, fun d hd => (q3 d hd).choose_spec.1, q2⟩
/-- A whole number. -/
theorem open_z {t tb tm e : TypeId} {fs : Array Field} {f0 f1 : Field} (ht : P.underlying t = some (.struct fs)) (hfs : fs.toList = [f0, f1]) (h0 : f0.type = tb ∧ f0.offset = 0) (h1 : f1.type = tm ∧ f1.offset = 1) (hb : P.underlying tb = some .bool) (hbc : P.cellsOf tb = 1) (hmc : P.cellsOf tm = 1)
    (hm : P.underlying tm = some (.slice e)) (he : P.underlying e = some (.int .u32)) (hc : P.cellsOf e = 1) {fuel : Nat} {cs : List Value} {x : DataW K × List MemPlace} (h : DataW.trod enc P w base sp held fuel t cs = some x) (hl2 : cs.length = 2) :
    ∃ z : ZI, Stands w cs z.av ∧ Zok (uptoBulk x.1) z := by
  obtain ⟨xs, n, rfl, rfl, hl, hxs, hget⟩ := DataW.trod_struct ht h
  have hf0 : fs[0]? = some f0 := by rw [← Array.getElem?_toList, hfs]; rfl
  have hf1 : fs[1]? = some f1 := by rw [← Array.getElem?_toList, hfs]; rfl
  have hsz : fs.size = 2 := by rw [← Array.length_toList, hfs]; rfl
  have g0 := hget 0 f0 hf0
  have g1 := hget 1 f1 hf1
  rw [h0.1, h0.2, hbc] at g0
  rw [h1.1, h1.2, hmc] at g1
  obtain ⟨c0, c1, rfl⟩ : ∃ c0 c1, cs = [c0, c1] := by
    match cs, hl2 with
    | [a, b], _ => exact ⟨a, b, rfl⟩
  have e0 : xs[0]? = some (xs[0]'(by omega)) := List.getElem?_eq_getElem (by omega)
  have e1 : xs[1]? = some (xs[1]'(by omega)) := List.getElem?_eq_getElem (by omega)
  rw [e0] at g0
  rw [e1] at g1
  simp only [List.drop_zero, List.take_succ_cons, List.take_zero, List.drop_succ_cons] at g0 g1
  obtain ⟨b, hb1, _⟩ := DataW.trod_bool hb g0
  obtain ⟨l, q1, q2, q3⟩ := open_nat hm he hc g1
  simp only [List.cons.injEq, and_true] at hb1
  subst hb1
  refine ⟨⟨b, l⟩, ⟨?_, rfl, ?_⟩, q2, ?_⟩
  · intro c hc'
    simp only [List.mem_cons, List.not_mem_nil, or_false] at hc'
    rcases hc' with rfl | rfl
    · rfl
    · exact q1.one _ (by simp)
  · intro φ k v c hv hc'
    match k with
    | 0 => cases hv; cases hc'; exact .bool b
    | 1 => cases hv; cases hc'; exact q1.rep φ 0 _ _ rfl rfl
    | k + 2 => simp at hv
  · have hm1 : (xs[1]'(by omega)).1 ∈ xs.map (·.1) := List.mem_map.2 ⟨_, List.getElem_mem _, rfl⟩
    have := bulk_mem hm1
    show l.length ≤ uptoBulk (.agg (xs.map (·.1)))
    simp only [uptoBulk]
    omega
/-- The types of numbers, vectors, matrices in a program. -/
structure Types (P : Program) (tm tv tz tb tn te : TypeId) : Prop where
  mat : P.underlying tm = some (.slice tv)
  vec : P.underlying tv = some (.slice tz)
  num : ∃ fs f0 f1, P.underlying tz = some (.struct fs) ∧ fs.toList = [f0, f1] ∧ (f0.type = tb ∧ f0.offset = 0) ∧ (f1.type = tn ∧ f1.offset = 1)
  bool : P.underlying tb = some .bool
  nat : P.underlying tn = some (.slice te)
  u32 : P.underlying te = some (.int .u32)
  cv : P.cellsOf tv = 1
  cz : P.cellsOf tz = 2
  cb : P.cellsOf tb = 1
  cn : P.cellsOf tn = 1
  ce : P.cellsOf te = 1
variable {tm tv tz tb tn te : TypeId}
theorem Types.open_z (T : Types P tm tv tz tb tn te) {fuel : Nat} {cs : List Value} {x : DataW K × List MemPlace} (h : DataW.trod enc P w base sp held fuel tz cs = some x) (hl2 : cs.length = 2) : ∃ z : ZI, Stands w cs z.av ∧ Zok (uptoBulk x.1) z := by
  obtain ⟨fs, f0, f1, h1, h2, h3, h4⟩ := T.num
  exact Abs.open_z h1 h2 h3 h4 T.bool T.cb T.cn T.nat T.u32 T.ce h hl2
theorem Types.open_vec (T : Types P tm tv tz tb tn te) {fuel : Nat} {cs : List Value} {x : DataW K × List MemPlace} (h : DataW.trod enc P w base sp held fuel tv cs = some x) : ∃ v : List ZI, Stands w cs (vecV v) ∧ v.length ≤ uptoBulk x.1 ∧ (∀ z ∈ v, Zok (uptoBulk x.1) z) ∧ (v.map fun z => z.mag.length).sum ≤ uptoBulk x.1 := by
  obtain ⟨xs0, q1, q2, q3, q4⟩ := open_sl (enc := enc) (P := P) (w := w) (base := base) (sp := sp) (held := held) ZI.av (fun z (d : DataW K) => Zok (uptoBulk d) z) 2 T.vec T.cz (by decide) (fun _ => rfl) ZI.cl (by
    intro m cs y hy hl
    obtain ⟨z, r1, r2⟩ := T.open_z hy hl
    exact ⟨z, r2, r1⟩) h
  exact ⟨xs0, q1, q2, fun z hz => (by obtain ⟨d, h1, h2⟩ := q3 z hz; exact h1.mono h2), by have := q4 (fun z => z.mag.length) (fun z d h => h.len); omega⟩
theorem Types.open_mat (T : Types P tm tv tz tb tn te) {fuel : Nat} {cs : List Value} {x : DataW K × List MemPlace} (h : DataW.trod enc P w base sp held fuel tm cs = some x) : ∃ b : List (List ZI), Stands w cs (matV b) ∧ b.length ≤ uptoBulk x.1 ∧ (∀ v ∈ b, v.length ≤ uptoBulk x.1 ∧ ∀ z ∈ v, Zok (uptoBulk x.1) z) ∧ (b.map fun v => v.length).sum ≤ uptoBulk x.1 ∧ (b.map fun v => (v.map fun z => z.mag.length).sum).sum ≤ uptoBulk x.1 := by
  obtain ⟨xs0, q1, q2, q3, q4⟩ := open_sl (enc := enc) (P := P) (w := w) (base := base) (sp := sp) (held := held) vecV (fun v (d : DataW K) => v.length ≤ uptoBulk d ∧ (∀ z ∈ v, Zok (uptoBulk d) z) ∧ (v.map fun z => z.mag.length).sum ≤ uptoBulk d) 1 T.mat T.cv (by decide) (fun _ => rfl) vecV_cl (by
    intro m cs y hy hl
    obtain ⟨v, r1, r2, r3, r4⟩ := T.open_vec hy
    exact ⟨v, ⟨r2, r3, r4⟩, r1⟩) h
  refine ⟨xs0, q1, q2, fun v hv => ?_, by have := q4 (fun v => v.length) (fun v d h => h.1); omega, by have := q4 (fun v => (v.map fun z => z.mag.length).sum) (fun v d h => h.2.2); omega⟩
  obtain ⟨d, h1, h2⟩ := q3 v hv
  exact ⟨Nat.le_trans h1.1 h2, fun z hz => (h1.2.1 z hz).mono h2⟩
/-- A value of one cell. -/
theorem Stands.rep1 {v : Value} {a : AV} (h : Stands w [v] a) (ha : a.cells = [a]) (φ : Nat → Option Nat) : Rep ⟨φ, [], w⟩ v a := h.rep φ 0 v a rfl (by rw [ha]; rfl)
end
end Go.Abs
set_option linter.unusedVariables false
set_option linter.unusedSimpArgs false
namespace Go.Abs
open Go.ChangeShapes Go.WideShapes Go.RowKit
/-- A law's walk: it answers, and below the old end nothing turns. -/
theorem law_calls {P : Program} {f : FuncId} {ss : List AV} {r : Bool} (hp : PureC P f ss (.bool r)) {args : Array Value} {W : World} (hl : args.size = ss.length) (hr : ∀ (k : Nat) v a, args.toList[k]? = some v → ss[k]? = some a → Rep ⟨fun _ => none, [], W⟩ v a) :
    Calls P f args W fun e W' => e = .returned (.bool r) ∧ Below W.heap.size W W' := by
  have h := (hp []).2 (fun _ => none) W args.toList (hok_nil _ _) (by simpa using hl) hr
  rw [Array.toArray_toList] at h
  refine h.mono ?_
  rintro e w' ⟨v, r', φ', H', rfl, ⟨rfl, rfl⟩, q1, q2, q3, q4⟩
  refine ⟨by rw [rep_bool_inv q2], q4.os, q4.tape, q4.output, q4.size, fun k hk => q4.keep k hk not_mut⟩
theorem Below.trodAll {K : Type} {enc : TypeId × Value → K} {P : Program} (hl : laidOutB P = true) {W W' : World} (hb : Below W.heap.size W W') : ∀ {ts : List TypeId} {vs : List Value} {ds : List (DataW K)} {ps : List MemPlace}, (ts.all fun t => P.readableRec t && decide (t < P.types.size)) = true →
    DataW.TrodAll enc P W 0 (fun _ => true) true ts vs ds ps → (∀ x ∈ ps, x.block < W.heap.size) → DataW.TrodAll enc P W' 0 (fun b => decide (b < W.heap.size)) true ts vs ds ps
  | [], [], [], _, _, h, _ => h
  | t :: ts, v :: vs, d :: ds, _, hts, ⟨p, q, h1, h2, e⟩, hlt => by
    simp only [List.all_cons, Bool.and_eq_true, decide_eq_true_eq] at hts
    exact ⟨p, q, Go.RowKit.Below.trod hl hts.1.1 hts.1.2 h1 hb (fun x hx => hlt x (by rw [e]; exact List.mem_append_left _ hx)), Below.trodAll hl hb (by simpa using hts.2) h2 (fun x hx => hlt x (by rw [e]; exact List.mem_append_right _ hx)), e⟩
  | [], _ :: _, _, _, _, h, _ => by simp [DataW.TrodAll] at h
  | [], [], _ :: _, _, _, h, _ => by simp [DataW.TrodAll] at h
  | _ :: _, [], _, _, _, h, _ => by simp [DataW.TrodAll] at h
  | _ :: _, _ :: _, [], _, _, h, _ => by simp [DataW.TrodAll] at h
theorem cells_slice {P : Program} {W : World} {base : Nat} {t e : TypeId} {v : Value} (ht : P.underlying t = some (.slice e)) (h : Value.okWide P W .any base t v) : v.cells.toList = [v] := by
  cases v <;> first | rfl | (exfalso; simp [Value.okWide, Cell.okWide, Cell.ok, ht] at h)
theorem vok_of {v : List ZI} {n : Nat} (hl : v.length ≤ n) (he : ∀ z ∈ v, Zok n z) (hn : n ≤ 1048576) : Vok 1048576 v := ⟨by omega, fun z hz => (he z hz).mono hn⟩
theorem mok_of {b : List (List ZI)} {n : Nat} (hl : b.length ≤ n) (he : ∀ v ∈ b, v.length ≤ n ∧ ∀ z ∈ v, Zok n z) (hn : n ≤ 1048576) : Mok 1048576 b := ⟨by omega, fun v hv => vok_of (he v hv).1 (he v hv).2 hn⟩
/-- A law's promise: it answers true; what was handed in reads as it did. -/
theorem row_post {K : Type} {enc : TypeId × Value → K} {P : Program} {f : Func} {s : ChangeSpec} {fresh handsOn : Bool} {W W' : World} {args : Array Value} {ds gs : List (DataW K)} {before : List MemPlace} {tb : TypeId}
    (hW : DataW.Whole enc P f.params.toList s.vars false W args.toList ds gs before) (hv : s.vars = []) (hfn : s.fn K ds = { results := [.lit (.bool true)], args := ds }) (ht : f.resultTypes = #[tb]) (htb : P.underlying tb = some .bool)
    (hl : laidOutB P = true) (hts : (f.params.toList.all fun t => P.readableRec t && decide (t < P.types.size)) = true) (hb : Below W.heap.size W W') :
    s.post enc P f false fresh handsOn false W args (.bool true) W' := by
  have hW0 := hW
  obtain ⟨p, q, hA, hV, rfl, hz, hn⟩ := hW
  rw [hv] at hV
  obtain ⟨rfl, rfl⟩ := trodVars_none hV
  have hlt : ∀ x ∈ p, x.block < W.heap.size := fun x hx => by simpa using hW0.lt x (by simpa using hx)
  have hA' := Below.trodAll (enc := enc) hl hb hts hA hlt
  refine ⟨ds, [], p ++ [], [], p, [], hW0, ?_, ?_, ?_, ?_, by simp⟩
  · rw [List.append_nil, hfn, ht]
    exact trodAll_cons_mk (shut_bool htb true) trodAll_mk0
  · rw [List.append_nil, hfn]; exact hA'
  · rw [List.append_nil, hfn, hv]; rfl
  · refine ⟨hb.os, hb.output, fun i hi => ?_⟩
    have := (World.keptBut_refl W (fun x => x ∈ p ++ [] ∧ (x ∈ [] ∨ x ∈ p ∨ x ∈ []))).2.2 i hi
    rw [hb.block i hi]
    exact this
end Go.Abs
set_option linter.unusedVariables false
set_option linter.unusedSimpArgs false
namespace Go.Abs
open Go.ChangeShapes Go.WideShapes Go.RowKit
open Go.Proofs.Ytkljokmnimblnaa.Rows (uptoBulk uptoBulkAll)
section
variable {K : Type} {enc : TypeId × Value → K} {P : Program} {w : World} {base : Nat} {sp : Nat → Bool} {held : Bool} {tm tv tz tb tn te : TypeId} {v : Value} {fuel : Nat} {x : DataW K × List MemPlace} {b1 : Nat}
theorem Types.arg_mat (T : Types P tm tv tz tb tn te) (hok : Value.okWide P w .any b1 tm v) (h : DataW.trod enc P w base sp held fuel tm v.cells.toList = some x) (hb : uptoBulk x.1 ≤ 1048576) : ∃ b, Mok 1048576 b ∧ ∀ φ, Rep ⟨φ, [], w⟩ v (matV b) := by
  obtain ⟨b, s, l, e, _⟩ := T.open_mat h
  rw [cells_slice T.mat hok] at s
  exact ⟨b, mok_of l e hb, fun φ => s.rep1 rfl φ⟩
end
end Go.Abs

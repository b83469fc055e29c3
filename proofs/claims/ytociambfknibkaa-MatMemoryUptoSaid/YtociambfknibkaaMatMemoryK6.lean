/- Part 6 of the proof of MatMemory: V1, V2, V3, V4, V5, V6, V7, V8, O1, O2, O3. -/
import Derived.Test.YtociambfknibkaaMatMemoryK5
import Derived.Test.YtociambfknibkaaRows
import Derived.OpenShut
import Derived.ChangeArms
import Derived.Carry
import Derived.WalkKit
import Derived.ProofKit
import Derived.JoinedCond
set_option linter.unusedVariables false
set_option linter.unusedSimpArgs false
namespace Go.Abs
theorem a6Q : ∀ a ∈ (Blk.mk 2 [AV.agg [.bool false, .nil]]).flat, Cl a := fun a ha => by
  simp only [Blk.flat, List.flatMap_cons, List.flatMap_nil, List.append_nil, AV.cells, List.mem_cons, List.not_mem_nil, or_false] at ha
  rcases ha with rfl | rfl
  · exact .bool _
  · exact .nil
theorem c1z (neg : Bool) (l : List Nat) (hl : Nt l) (H : Heap) (R : AV → Heap → Prop) (h0 : val l = 0 → R (.agg [.bool false, .nil]) (hap H [some ⟨2, [.agg [.bool false, .nil]]⟩]))
    (h1 : ∀ n, 0 < n → n ≤ l.length → limbs (val l) = l.take n → R (.agg [.bool neg, .mu (lid H 1) 0 n (some n)]) (hap H [some ⟨2, [.agg [.bool neg, .mu (lid H 1) 0 n (some n)]]⟩, some ⟨1, u32s (l.take n)⟩])) : a0i Pr a0q [.bool neg, natV l] H R := by
  have hll := hl.len
  refine a0i.open b2S b2R (Nat.le_of_ble_eq_true rfl) fun hH => ?_
  refine Safe.seq (Safe.region ?_)
  simp only [a6F, E2, seval]
  refine Safe.seq (Safe.region ?_)
  simp only [a6E, E2, seval]
  refine Safe.seq (Safe.block (Safe.loop ?_))
  have copy : ∀ (n : Nat), n ≤ l.length → limbs (val l) = l.take n → ∀ env : Env, look env 0 = .bool neg → look env 1 = natV l → look env 4 = .loc (lid H 0) 0 0 → look env 5 = .int .i64 n →
      Safe ⟨Pr, fun _ _ => false, a0q, 32, [.cell 4 (some 2)], H.length⟩ [.code (((ACode.region a1x false).seq (.cond (.t 22) ((ACode.region a1w false).seq .ret) .skip)).seq ((ACode.region a1v false).seq ((ACode.region a1u false).seq ((ACode.region a1t false).seq .ret))))]
        env (hap H [some ⟨2, [.agg [.bool false, .nil]]⟩]) R := by
    intro n hn hlim env e0 e1 e4 e5
    refine Safe.seq (Safe.seq (Safe.region ?_))
    simp only [a1x, E2, seval, e5]
    refine Safe.cond ?_
    simp only [E2, seval]
    by_cases hn0 : n = 0
    · subst hn0
      simp only [Int.natCast_zero, E2, seval]
      refine Safe.seq (Safe.region ?_)
      simp only [a1w, E2, seval, e4]
      refine Safe.retn ?_
      simp only [E2, seval, e4]
      refine h0 ?_
      have := a0v (val l)
      rw [hlim] at this
      simpa [val] using this.symm
    · have h0' : ¬ ((n : Int) = 0) := by omega
      simp only [h0', E2, seval]
      refine Safe.skip (Safe.seq (Safe.region ?_))
      simp only [a1v, E2, seval, e5, a5M _ H [some ⟨2, [.agg [.bool false, .nil]]⟩] _ _ n (by omega)]
      refine Safe.seq (Safe.region ?_)
      simp only [a1u, E2, seval, e1]
      rw [c0w _ H [some ⟨2, [.agg [.bool false, .nil]]⟩, some ⟨1, u32s (List.replicate n 0)⟩] 1 1 n (some n) (natV l) (u32s (List.replicate n 0)) (u32s l) rfl (by simp [a0w]) (b0V _ l) (by rw [a0w]; exact hn)]
      simp only [E2, seval, b5B]
      refine Safe.keep [0, 4, 6] ?_
      simp only [E2, seval, e0, e4]
      refine Safe.seq (Safe.region ?_)
      simp only [a1t, E2, seval]
      refine Safe.retn ?_
      simp only [E2, seval]
      exact h1 n (by omega) hn hlim
  have key : ∀ (n : Nat), n ≤ l.length → val (l.take n) = val l → ∀ env : Env, look env 0 = .bool neg → look env 1 = natV l → look env 4 = .loc (lid H 0) 0 0 → look env 5 = .int .i64 n →
      Safe ⟨Pr, fun _ _ => false, a0q, 32, [.cell 4 (some 2)], H.length⟩ [.inLoop a6G, .inBlock 0, .code (((ACode.region a1x false).seq (.cond (.t 22) ((ACode.region a1w false).seq .ret) .skip)).seq ((ACode.region a1v false).seq ((ACode.region a1u false).seq ((ACode.region a1t false).seq .ret))))]
        env (hap H [some ⟨2, [.agg [.bool false, .nil]]⟩]) R := by
    intro n
    induction n with
    | zero =>
      intro hn hv env e0 e1 e4 e5
      refine Safe.inLoop (Safe.seq (Safe.seq (Safe.region ?_)))
      simp only [a2G, E2, seval, e1, e5, Int.natCast_zero, Int.lt_irrefl]
      refine Safe.cond ?_
      simp only [E2, seval]
      refine Safe.exit rfl (copy 0 hn ?_ _ (by simp only [E2, seval, e0]) (by simp only [E2, seval, e1]) (by simp only [E2, seval, e4]) (by simp only [E2, seval, e5] <;> rfl))
      rw [← hv]; simp [val, a0x]
    | succ n ih =>
      intro hn hv env e0 e1 e4 e5
      refine Safe.inLoop (Safe.seq (Safe.seq (Safe.region ?_)))
      have h0 : (0 : Int) < ((n + 1 : Nat) : Int) := by omega
      have hw : IntKind.wrap .i64 (((n + 1 : Nat) : Int) - 1) = (n : Int) := by rw [a0e] <;> omega
      simp only [a2G, E2, seval, e1, e5, h0, hw, a0L _ l _ n (by omega)]
      refine Safe.cond ?_
      simp only [E2, seval]
      by_cases hd : l.getD n 0 = 0
      · simp only [hd, Int.natCast_zero, E2, seval]
        refine Safe.skip (Safe.block (Safe.region ?_))
        simp only [a6D, E2, seval, e5, hw]
        refine Safe.inBlock (ih (by omega) ?_ _ (by simp only [E2, seval, e0]) (by simp only [E2, seval, e1]) (by simp only [E2, seval, e4]) (by simp only [E2, seval]))
        rw [← hv, a0u, hd]; simp
      · have hd' : ¬ (((l.getD n 0 : Nat) : Int) = 0) := by omega
        simp only [hd', E2, seval]
        refine Safe.exit rfl (copy (n + 1) hn ?_ _ (by simp only [E2, seval, e0]) (by simp only [E2, seval, e1]) (by simp only [E2, seval, e4]) (by simp only [E2, seval, e5]))
        rw [← hv, a5j (hl.lim.take _)]
        rw [b0h (by omega)]; simpa using hd
  exact key l.length (Nat.le_refl _) (by rw [List.take_length]) _ (by simp only [E2, seval]) (by simp only [E2, seval]) (by simp only [E2, seval]) (by simp only [E2, seval])
theorem d3w {l : List Nat} (h0 : 0 < l.length) (h1 : l.length ≤ 17592186044416) : K0 ⟨1, u32s l⟩ := ⟨rfl, by rw [a0w]; exact h0, by rw [a0w]; exact h1, fun x hx => by
  obtain ⟨n, _, rfl⟩ := List.mem_map.1 hx
  exact ⟨_, rfl⟩⟩
theorem b1q (neg : Bool) (l : List Nat) (hl : Nt l) : OpC Pr a0q [.bool neg, natV l] IntT := by
  intro H hH
  have hLl := hl.limbs.len
  by_cases hz : val l = 0
  · refine ⟨.agg [.bool false, .nil], [some ⟨2, [.agg [.bool false, .nil]]⟩], c1z neg l hl H _ (fun _ => ⟨rfl, rfl⟩) fun n h0 h1 h2 => ?_, ⟨false, .nil, rfl, .inl rfl⟩, ?_⟩
    · rw [hz, a0x] at h2
      have := congrArg List.length h2
      rw [List.length_take, List.length_nil] at this
      omega
    · intro b hb a ha
      have : b = ⟨2, [.agg [.bool false, .nil]]⟩ := by simpa using hb
      subst this
      exact (a6Q a ha).ref
  · have hp : 0 < (limbs (val l)).length := by
      rcases Nat.eq_zero_or_pos (limbs (val l)).length with h | h
      · refine absurd ?_ hz
        rw [← a0v (val l), List.length_eq_zero_iff.1 h]; rfl
      · exact h
    refine ⟨.agg [.bool neg, .mu (lid H 1) 0 (limbs (val l)).length (some (limbs (val l)).length)], [some ⟨2, [.agg [.bool neg, .mu (lid H 1) 0 (limbs (val l)).length (some (limbs (val l)).length)]]⟩, some ⟨1, u32s (limbs (val l))⟩],
      c1z neg l hl H _ (fun h => absurd h hz) fun n h0 h1 h2 => ?_, ⟨neg, _, rfl, .inr ⟨lid H 1, ⟨1, u32s (limbs (val l))⟩, by rw [show (Blk.mk 1 (u32s (limbs (val l)))).xs = u32s (limbs (val l)) from rfl, a0w], a0V _ _, ?_, d3w hp hLl⟩⟩, ?_⟩
    · have hn : (limbs (val l)).length = n := by rw [h2, List.length_take]; omega
      rw [hn, h2]; exact ⟨rfl, rfl⟩
    · simp [hap, lid]
    · intro b hb a ha
      simp only [List.mem_cons, List.not_mem_nil, or_false, Option.some.injEq] at hb
      rcases hb with rfl | rfl
      · simp only [Blk.flat, List.flatMap_cons, List.flatMap_nil, List.append_nil, AV.cells, List.mem_cons, List.not_mem_nil, or_false] at ha
        rcases ha with rfl | rfl
        · exact .bool _
        · refine .mu _ _ _ _ ?_
          simp only [lid, List.length_cons, List.length_nil]; omega
      · exact (a0Y _ a ha).ref
end Go.Abs
namespace Go.Abs
/-- Boxes of a function: closed ones, and the answer's. -/
theorem b1O {H B L : Heap} {b : Bool} {k : AV} (hB : ∀ b, some b ∈ B → ∀ a ∈ b.flat, Cl a) (hk : IntT H.length (hap H ((B ++ ([some ⟨2, [.agg [.bool b, k]]⟩] : Heap)) ++ L)) (.agg [.bool b, k])) :
    ∀ c, some c ∈ B ++ ([some ⟨2, [.agg [.bool b, k]]⟩] : Heap) → ∀ a ∈ c.flat, Ref (fun j => H.length ≤ j ∧ j < H.length + ((B ++ ([some ⟨2, [.agg [.bool b, k]]⟩] : Heap)) ++ L).length) a := fun c hc a ha => by
  rcases List.mem_append.1 hc with hc | hc
  · exact (hB c hc a ha).ref
  · simp only [List.mem_cons, List.not_mem_nil, or_false, Option.some.injEq] at hc
    subst hc
    simp only [Blk.flat, List.flatMap_cons, List.flatMap_nil, List.append_nil] at ha
    exact (hk.cells a ha).mono fun j hj => by simp only [hap, List.length_append] at hj ⊢; omega
theorem b1T (x : ZI) (hx : Zok 17592186044416 x) : OpC Pr a0N [x.av] IntT := by
  obtain ⟨n, m⟩ := x
  have hm : Nt m := ⟨hx.lim, hx.len⟩
  have hcl := ZI.cl ⟨n, m⟩
  simp only [ZI.av] at hcl ⊢
  intro H hH
  obtain ⟨r, L, h1, ⟨b, k, rfl, hk⟩, ho⟩ := b1q n m hm (hap H [some ⟨2, [.agg [.bool n, natV m]]⟩, some ⟨2, [.agg [.bool false, .nil]]⟩]) (a1c hH (RC.one hcl (RC.zero RC.nil)))
  have hi : IntT _ _ (.agg [.bool b, k]) := ⟨b, k, rfl, hk⟩
  have ht := b2C (B' := [some ⟨2, [.agg [.bool n, natV m]]⟩] ++ [some ⟨2, [.agg [.bool b, k]]⟩]) hi rfl
  refine ⟨.agg [.bool b, k], [some ⟨2, [.agg [.bool n, natV m]]⟩] ++ [some ⟨2, [.agg [.bool b, k]]⟩] ++ L, ?_, ht, b2B ho rfl (b1O (RC.one hcl RC.nil) ht)⟩
  refine a0i.open b3g b3f (Nat.le_of_ble_eq_true rfl) fun hH => ?_
  refine Safe.rg rfl ?_
  simp only [a6K, E3, a0c, a0b, a0a, a0d, seval]
  refine Safe.rg rfl ?_
  simp only [a6J, E3, a0c, a0b, a0a, a0d, seval]
  refine h1.mono ?_
  rintro r' H' ⟨rfl, rfl⟩
  simp only [a1V, E3, a0c, a0b, a0a, a0d, seval]
  refine Safe.rt rfl ?_
  simp only [E3, a0c, a0b, a0a, a0d, seval]
theorem c6b (x : ZI) (hx : Zok 17592186044416 x) : OpC Pr a2d [x.av] IntT := by
  obtain ⟨n, m⟩ := x
  have hm : Nt m := ⟨hx.lim, hx.len⟩
  have hcl := ZI.cl ⟨n, m⟩
  simp only [ZI.av] at hcl ⊢
  intro H hH
  obtain ⟨r, L, h1, ⟨b, k, rfl, hk⟩, ho⟩ := b1q (!n) m hm (hap H [some ⟨2, [.agg [.bool n, natV m]]⟩, some ⟨2, [.agg [.bool false, .nil]]⟩]) (a1c hH (RC.one hcl (RC.zero RC.nil)))
  have hi : IntT _ _ (.agg [.bool b, k]) := ⟨b, k, rfl, hk⟩
  have ht := b2C (B' := [some ⟨2, [.agg [.bool n, natV m]]⟩] ++ [some ⟨2, [.agg [.bool b, k]]⟩]) hi rfl
  refine ⟨.agg [.bool b, k], [some ⟨2, [.agg [.bool n, natV m]]⟩] ++ [some ⟨2, [.agg [.bool b, k]]⟩] ++ L, ?_, ht, b2B ho rfl (b1O (RC.one hcl RC.nil) ht)⟩
  refine a0i.open b5o b5n (Nat.le_of_ble_eq_true rfl) fun hH => ?_
  refine Safe.rg rfl ?_
  simp only [a9i, E3, a0c, a0b, a0a, a0d, seval]
  refine Safe.rg rfl ?_
  simp only [a9h, E3, a0c, a0b, a0a, a0d, seval]
  refine h1.mono ?_
  rintro r' H' ⟨rfl, rfl⟩
  simp only [a1V, E3, a0c, a0b, a0a, a0d, seval]
  refine Safe.rt rfl ?_
  simp only [E3, a0c, a0b, a0a, a0d, seval]
theorem c6d (x y : ZI) (k l : Nat) (hx : Zok k x) (hy : Zok l y) (hkl : k + l ≤ 17592186044416) : OpC Pr a2y [x.av, y.av] IntT := by
  have hcx := ZI.cl x
  have hcy := ZI.cl y
  obtain ⟨n, a⟩ := x
  obtain ⟨m, b⟩ := y
  have hal := hx.len
  have hbl := hy.len
  simp only at hal hbl
  have ha : Nt a := ⟨hx.lim, by omega⟩
  have hb : Nt b := ⟨hy.lim, by omega⟩
  simp only [ZI.av] at hcx hcy ⊢
  have hn : Nt (limbs (val a * val b)) := ⟨a0T _, by
    have h1 := a2U ha.lim
    have h2 := a2U hb.lim
    have h3 : val a * val b < LB ^ (a.length + b.length) := by
      rw [Nat.pow_add]
      exact Nat.mul_lt_mul'' h1 h2
    exact Nat.le_trans (a0R h3) (by omega)⟩
  intro H hH
  obtain ⟨r, L, h1, ⟨c, k, rfl, hk⟩, ho⟩ := b1q (!(n == m)) _ hn (hap H [some ⟨2, [.agg [.bool n, natV a]]⟩, some ⟨2, [.agg [.bool m, natV b]]⟩, some ⟨2, [.agg [.bool false, .nil]]⟩]) (a1c hH (RC.one hcx (RC.one hcy (RC.zero RC.nil))))
  have hi : IntT _ _ (.agg [.bool c, k]) := ⟨c, k, rfl, hk⟩
  have ht := b2C (B' := [some ⟨2, [.agg [.bool n, natV a]]⟩, some ⟨2, [.agg [.bool m, natV b]]⟩] ++ [some ⟨2, [.agg [.bool c, k]]⟩]) hi rfl
  refine ⟨.agg [.bool c, k], [some ⟨2, [.agg [.bool n, natV a]]⟩, some ⟨2, [.agg [.bool m, natV b]]⟩] ++ [some ⟨2, [.agg [.bool c, k]]⟩] ++ L, ?_, ht, b2B ho rfl (b1O (RC.one hcx (RC.one hcy RC.nil)) ht)⟩
  refine a0i.open c0G c0F (Nat.le_of_ble_eq_true rfl) fun hH => ?_
  refine Safe.rg rfl ?_
  simp only [b3e, E3, a0c, a0b, a0a, a0d, seval]
  refine Safe.rg rfl ?_
  simp only [b3d, E3, a0c, a0b, a0a, a0d, seval]
  first | refine (a5I a b ha hb (by omega)).acall ?_ | refine (a5I a b ha hb (by omega)).dcall ?_ | refine (a5I a b ha hb (by omega)).dgcall ?_
  try simp only [E3, a0c, a0b, a0a, a0d, seval]
  refine ⟨_, _, h1, ?_⟩
  rw [b2G]
  simp only [E3, a0c, a0b, a0a, a0d, seval]
  refine Safe.rt rfl ?_
  simp only [E3, a0c, a0b, a0a, a0d, seval]
theorem b9T {f : FuncId} {args : List AV} {H B : Heap} (hH : a0S H) (hB : ∀ b, some b ∈ B → ∀ a ∈ b.flat, Cl a) (neg : Bool) {l : List Nat} (hl : Nt l)
    (K : ∀ b k L, (a0i Pr a0q [.bool neg, natV l] (hap H (B ++ ([some ⟨2, [.agg [.bool false, .nil]]⟩] : Heap))) fun r' H' => r' = .agg [.bool b, k] ∧ H' = hap (hap H (B ++ ([some ⟨2, [.agg [.bool false, .nil]]⟩] : Heap))) L) →
      a0i Pr f args H fun r' H' => r' = .agg [.bool b, k] ∧ H' = hap H (B ++ ([some ⟨2, [.agg [.bool b, k]]⟩] : Heap) ++ L)) : ∃ r L, (a0i Pr f args H fun r' H' => r' = r ∧ H' = hap H L) ∧ IntT H.length (hap H L) r ∧ Own H.length L := by
  obtain ⟨r, L, h1, ⟨b, k, rfl, hk⟩, ho⟩ := b1q neg l hl (hap H (B ++ ([some ⟨2, [.agg [.bool false, .nil]]⟩] : Heap))) (a1c hH fun c hc a ha => by
    rcases List.mem_append.1 hc with hc | hc
    · exact hB c hc a ha
    · simp only [List.mem_cons, List.not_mem_nil, or_false, Option.some.injEq] at hc
      subst hc
      exact a6Q a ha)
  have hi : IntT _ _ (.agg [.bool b, k]) := ⟨b, k, rfl, hk⟩
  have hlen : (B ++ ([some ⟨2, [.agg [.bool false, .nil]]⟩] : Heap)).length = (B ++ ([some ⟨2, [.agg [.bool b, k]]⟩] : Heap)).length := by simp
  have ht := b2C hi hlen
  exact ⟨_, _, K b k L h1, ht, b2B ho hlen (b1O hB ht)⟩
theorem c0J (x y : ZI) (k : Nat) (hx : Zok k x) (hy : Zok k y) (hk : k < 17592186044416) : OpC Pr a1j [x.av, y.av] IntT := by
  have hcx := ZI.cl x
  have hcy := ZI.cl y
  obtain ⟨n, a⟩ := x
  obtain ⟨m, b⟩ := y
  have hal := hx.len
  have hbl := hy.len
  have hav := hx.lt
  have hbv := hy.lt
  simp only at hal hbl hav hbv
  have ha : Nt a := ⟨hx.lim, by omega⟩
  have hb : Nt b := ⟨hy.lim, by omega⟩
  have hle : ∀ v, v < LB ^ k → Nt (limbs v) := fun v hv => ⟨a0T _, Nat.le_trans (a0R hv) (by omega)⟩
  simp only [ZI.av] at hcx hcy ⊢
  intro H hH
  by_cases hnm : n = m
  · subst hnm
    have hn : Nt (limbs (val a + val b)) := ⟨a0T _, by
      have h3 : val a + val b < LB ^ (k + 1) := by
        rw [Nat.pow_succ]
        have : LB ^ k * 2 ≤ LB ^ k * LB := Nat.mul_le_mul_left _ (by decide)
        omega
      exact Nat.le_trans (a0R h3) (by omega)⟩
    refine b9T hH (B := [some ⟨2, [.agg [.bool n, natV a]]⟩, some ⟨2, [.agg [.bool n, natV b]]⟩]) (RC.one hcx (RC.one hcy RC.nil)) n hn fun c k L h1 => ?_
    refine a0i.open a6P a6O (Nat.le_of_ble_eq_true rfl) fun hH => ?_
    refine Safe.rg rfl ?_
    simp only [a4i, E3, a0c, a0b, a0a, a0d, seval]
    refine Safe.rg rfl ?_
    simp only [a4h, beq_self_eq_true, E3, a0c, a0b, a0a, a0d, seval]
    refine Safe.cd rfl ?_
    simp only [E3, a0c, a0b, a0a, a0d, seval]
    refine Safe.rg rfl ?_
    simp only [b3i, E3, a0c, a0b, a0a, a0d, seval]
    first | refine (a5J a b ha.lim hb.lim (by omega) (by omega)).acall ?_ | refine (a5J a b ha.lim hb.lim (by omega) (by omega)).dcall ?_ | refine (a5J a b ha.lim hb.lim (by omega) (by omega)).dgcall ?_
    try simp only [E3, a0c, a0b, a0a, a0d, seval]
    refine ⟨_, _, h1, ?_⟩
    rw [b2G]
    simp only [E3, a0c, a0b, a0a, a0d, seval]
    refine Safe.rt rfl ?_
    simp only [E3, a0c, a0b, a0a, a0d, seval]
  · have hnm' : (n == m) = false := by simpa using hnm
    by_cases hlt : val a < val b
    · refine b9T hH (B := [some ⟨2, [.agg [.bool m, natV b]]⟩, some ⟨2, [.agg [.bool n, natV a]]⟩]) (RC.one hcy (RC.one hcx RC.nil)) m (hle (val b - val a) (by omega)) fun c k L h1 => ?_
      refine a0i.open a6P a6O (Nat.le_of_ble_eq_true rfl) fun hH => ?_
      refine Safe.rg rfl ?_
      simp only [a4i, E3, a0c, a0b, a0a, a0d, seval]
      refine Safe.rg rfl ?_
      simp only [a4h, hnm', E3, a0c, a0b, a0a, a0d, seval]
      refine Safe.cd rfl ?_
      simp only [E3, a0c, a0b, a0a, a0d, seval]
      refine Safe.rg rfl ?_
      simp only [a6N, E3, a0c, a0b, a0a, a0d, seval]
      first | refine (a1B a b ha hb).acall ?_ | refine (a1B a b ha hb).dcall ?_ | refine (a1B a b ha hb).dgcall ?_
      try simp only [E3, a0c, a0b, a0a, a0d, seval]
      simp only [c3M, c3N, hlt, E3, a0c, a0b, a0a, a0d, seval]
      refine Safe.cd rfl ?_
      simp only [E3, a0c, a0b, a0a, a0d, seval]
      refine Safe.rg rfl ?_
      simp only [b3h, E3, a0c, a0b, a0a, a0d, seval]
      refine Safe.rg rfl ?_
      simp only [a6M, E3, a0c, a0b, a0a, a0d, seval]
      first | refine (a1A b a hb ha (by omega)).acall ?_ | refine (a1A b a hb ha (by omega)).dcall ?_ | refine (a1A b a hb ha (by omega)).dgcall ?_
      try simp only [E3, a0c, a0b, a0a, a0d, seval]
      refine Safe.rg rfl ?_
      simp only [a6L, E3, a0c, a0b, a0a, a0d, seval]
      refine h1.mono ?_
      rintro r' H' ⟨rfl, rfl⟩
      simp only [a1V, E3, a0c, a0b, a0a, a0d, seval]
      refine Safe.rt rfl ?_
      simp only [E3, a0c, a0b, a0a, a0d, seval]
    · refine b9T hH (B := [some ⟨2, [.agg [.bool n, natV a]]⟩, some ⟨2, [.agg [.bool m, natV b]]⟩]) (RC.one hcx (RC.one hcy RC.nil)) n (hle (val a - val b) (by omega)) fun c k L h1 => ?_
      refine a0i.open a6P a6O (Nat.le_of_ble_eq_true rfl) fun hH => ?_
      refine Safe.rg rfl ?_
      simp only [a4i, E3, a0c, a0b, a0a, a0d, seval]
      refine Safe.rg rfl ?_
      simp only [a4h, hnm', E3, a0c, a0b, a0a, a0d, seval]
      refine Safe.cd rfl ?_
      simp only [E3, a0c, a0b, a0a, a0d, seval]
      refine Safe.rg rfl ?_
      simp only [a6N, E3, a0c, a0b, a0a, a0d, seval]
      first | refine (a1B a b ha hb).acall ?_ | refine (a1B a b ha hb).dcall ?_ | refine (a1B a b ha hb).dgcall ?_
      try simp only [E3, a0c, a0b, a0a, a0d, seval]
      simp only [c3M, c3N, hlt, E3, a0c, a0b, a0a, a0d, seval]
      refine Safe.cd rfl ?_
      simp only [E3, a0c, a0b, a0a, a0d, seval]
      refine Safe.rg rfl ?_
      simp only [a6M, E3, a0c, a0b, a0a, a0d, seval]
      first | refine (a1A a b ha hb (by omega)).acall ?_ | refine (a1A a b ha hb (by omega)).dcall ?_ | refine (a1A a b ha hb (by omega)).dgcall ?_
      try simp only [E3, a0c, a0b, a0a, a0d, seval]
      refine Safe.rg rfl ?_
      simp only [a6L, E3, a0c, a0b, a0a, a0d, seval]
      refine h1.mono ?_
      rintro r' H' ⟨rfl, rfl⟩
      simp only [a1V, E3, a0c, a0b, a0a, a0d, seval]
      refine Safe.rt rfl ?_
      simp only [E3, a0c, a0b, a0a, a0d, seval]
end Go.Abs
namespace Go.Abs
theorem b5h (g : FuncId) (caps : List AV) (v : List ZI) (hv : v.length ≤ 2097152) (hc : ∀ c ∈ caps, Cl c) (hf : ∀ (i : Nat) (h : i < v.length), GrC Pr g (v[i].av :: caps) IntT) : GrC Pr a0t [vecV v, .fn g caps] VecT := by
  intro H hH
  refine a0i.open b4S b4Q (Nat.le_of_ble_eq_true rfl) fun hH => ?_
  refine Safe.rg rfl ?_
  simp only [a6B, E3, a0c, a0b, a0a, a0d, seval]
  refine Safe.rg rfl ?_
  simp only [a6A, a3p _ _ 2 32 _ _ _ v.length (by decide) (by omega) (by omega), E3, a0c, a0b, a0a, a0d, seval]
  refine Safe.rg rfl ?_
  simp only [a6z, E3, a0c, a0b, a0a, a0d, seval]
  refine Safe.lp rfl ?_
  refine Safe.keep [1, 5, 11, 12, 13] ?_
  simp only [E3, a0c, a0b, a0a, a0d, seval]
  have hG0 : Gw H (hap H [some ⟨2, []⟩]) := (Gw.refl H).cl (RC.emp RC.nil)
  refine Safe.loopW (fun a : Nat × Heap => v.length - a.1) (fun a => [(1, .fn g caps), (5, .mu (lid H 0) 0 a.1 (some v.length)), (11, vecV v), (12, .int .i64 v.length), (13, .int .i64 a.1)]) (fun a => a.2)
    (fun a => a.1 ≤ v.length ∧ Gw H a.2 ∧ ∃ xs, a.2[H.length]? = some (some ⟨2, xs⟩) ∧ xs.length = a.1 ∧ ∀ x ∈ xs, IntT H.length a.2 x) (0, hap H [some ⟨2, []⟩]) rfl rfl ⟨Nat.zero_le _, hG0, [], by simp [hap], rfl, by simp⟩ ?_
  rintro ⟨i, G⟩ ⟨hi, hG, xs, hrow, hxl, hxs⟩ ih
  simp only at hi hG hrow hxl hxs
  have hGl := hG.len
  refine Safe.inLoop ?_
  by_cases hlt' : i < v.length
  · have hlt : ((i : Int) < (v.length : Int)) = True := eq_true (by omega)
    have hiw : IntKind.wrap .i64 ((i : Int) + 1) = ((i + 1 : Nat) : Int) := by rw [a0e] <;> omega
    refine Safe.rg rfl ?_
    simp only [a2S, hlt, E3, a0c, a0b, a0a, a0d, seval]
    refine Safe.cd rfl ?_
    simp only [E3, a0c, a0b, a0a, a0d, seval]
    rw [← a1C G]
    refine Safe.rg rfl ?_
    simp only [a6y, a0I _ v _ i (by omega), E3, a0c, a0b, a0a, a0d, seval]
    refine Safe.rg rfl ?_
    simp only [a6x, E3, a0c, a0b, a0a, a0d, seval]
    refine (hf i hlt').acall (a1c (hG.refs hH) (RC.one (ZI.cl v[i]) RC.nil)) fun r L hT hO => ?_
    obtain ⟨hfit, hcel⟩ := a0z.fit hT
    simp only [hfit, hcel, E3, a0c, a0b, a0a, a0d, seval]
    have hb3 : (hap (hap G [some ⟨2, [v[i].av]⟩]) (L ++ [some ⟨2, [r]⟩]))[lid H 0]? = some (some ⟨2, xs⟩) := a0B (a0B hrow)
    have hl3 : (hap (hap G [some ⟨2, [v[i].av]⟩]) (L ++ [some ⟨2, [r]⟩]))[lid (hap G [some ⟨2, [v[i].av]⟩]) L.length]? = some (some ⟨2, [r]⟩) := b1H _ _ _
    rw [c4v hb3 hxl (a0V H 0) hl3 hlt']
    simp only [E3, a0c, a0b, a0a, a0d, seval]
    refine Safe.rg rfl ?_
    simp only [a6w, hiw, E3, a0c, a0b, a0a, a0d, seval]
    refine Safe.keep [1, 5, 11, 12, 13] ?_
    simp only [E3, a0c, a0b, a0a, a0d, seval]
    have hG1 : Gw H (hap G [some ⟨2, [v[i].av]⟩]) := hG.cl (RC.one (ZI.cl v[i]) RC.nil)
    have hG2 := hG1.own_app hO
    have hT2 : IntT H.length (hap (hap G [some ⟨2, [v[i].av]⟩]) L) r := a0z.low hG1.len hT
    have hG3 : Gw H (hap (hap (hap G [some ⟨2, [v[i].av]⟩]) L) [some ⟨2, [r]⟩]) := hG2.app fun b hb a ha => by
      have e : b = ⟨2, [r]⟩ := by simpa using hb
      subst e
      simp only [Blk.flat, List.flatMap_cons, List.flatMap_nil, List.append_nil] at ha
      exact (a0z.cells hT2 a ha).mono fun j hj => ⟨hj.1, by omega⟩
    have hxs3 : ∀ x ∈ xs, IntT H.length (hap (hap (hap G [some ⟨2, [v[i].av]⟩]) L) [some ⟨2, [r]⟩]) x := fun x hx => a0z.app _ (a0z.app _ (a0z.app _ (hxs x hx)))
    have hT3 : IntT H.length (hap (hap (hap G [some ⟨2, [v[i].av]⟩]) L) [some ⟨2, [r]⟩]) r := a0z.app _ hT2
    have hrow3 : (hap (hap (hap G [some ⟨2, [v[i].av]⟩]) L) [some ⟨2, [r]⟩])[H.length]? = some (some ⟨2, xs⟩) := a0B (a0B (a0B hrow))
    rw [← a1V]
    refine ih (i + 1, _) ⟨by simp only; omega, hG3.set (Nat.le_refl _) ?_, xs ++ [r], ?_, by simp [hxl], ?_⟩ (by simp only; omega)
    · intro a ha
      simp only [Blk.flat, List.flatMap_append, List.mem_append, List.flatMap_cons, List.flatMap_nil, List.append_nil] at ha
      rcases ha with ha | ha
      · obtain ⟨x, hx, ha⟩ := List.mem_flatMap.1 ha
        exact a0z.cells (hxs3 x hx) a ha
      · exact a0z.cells hT3 a ha
    · exact (a1p (x := some ⟨2, xs ++ [r]⟩) (a0f hrow3)).trans (if_pos rfl)
    · intro x hx
      rcases List.mem_append.1 hx with hx | hx
      · exact a0z.set hrow3 hxs3 (hxs3 x hx)
      · have e : x = r := by simpa using hx
        subst e
        exact a0z.set hrow3 hxs3 hT3
  · have hin : i = v.length := by omega
    subst hin
    refine Safe.rg rfl ?_
    simp only [a2S, Int.lt_irrefl, E3, a0c, a0b, a0a, a0d, seval]
    refine Safe.cd rfl ?_
    simp only [E3, a0c, a0b, a0a, a0d, seval]
    refine Safe.keep [5] ?_
    simp only [E3, a0c, a0b, a0a, a0d, seval]
    refine Safe.rg rfl ?_
    simp only [a6v, E3, a0c, a0b, a0a, a0d, seval]
    refine Safe.rt rfl ?_
    simp only [E3, a0c, a0b, a0a, a0d, seval]
    obtain ⟨L, hL, hO⟩ := hG.out
    exact ⟨L, hL, .inr ⟨_, _, _, _, ⟨2, xs⟩, rfl, Nat.le_refl _, hrow, ⟨rfl, hxs⟩, by simp [hxl], hv⟩, hO⟩
theorem c9T (g : FuncId) (caps : List AV) (v : List (List ZI)) (hv : v.length ≤ 2097152) (hc : ∀ c ∈ caps, Cl c) (hf : ∀ (i : Nat) (h : i < v.length), GrC Pr g (vecV v[i] :: caps) IntT) : GrC Pr a5a [matV v, .fn g caps] VecT := by
  intro H hH
  refine a0i.open b4P b4N (Nat.le_of_ble_eq_true rfl) fun hH => ?_
  refine Safe.rg rfl ?_
  simp only [a6u, E3, a0c, a0b, a0a, a0d, seval]
  refine Safe.rg rfl ?_
  simp only [a6t, a3p _ _ 2 32 _ _ _ v.length (by decide) (by omega) (by omega), E3, a0c, a0b, a0a, a0d, seval]
  refine Safe.rg rfl ?_
  simp only [a6s, E3, a0c, a0b, a0a, a0d, seval]
  refine Safe.lp rfl ?_
  refine Safe.keep [1, 5, 11, 12, 13] ?_
  simp only [E3, a0c, a0b, a0a, a0d, seval]
  have hG0 : Gw H (hap H [some ⟨2, []⟩]) := (Gw.refl H).cl (RC.emp RC.nil)
  refine Safe.loopW (fun a : Nat × Heap => v.length - a.1) (fun a => [(1, .fn g caps), (5, .mu (lid H 0) 0 a.1 (some v.length)), (11, matV v), (12, .int .i64 v.length), (13, .int .i64 a.1)]) (fun a => a.2)
    (fun a => a.1 ≤ v.length ∧ Gw H a.2 ∧ ∃ xs, a.2[H.length]? = some (some ⟨2, xs⟩) ∧ xs.length = a.1 ∧ ∀ x ∈ xs, IntT H.length a.2 x) (0, hap H [some ⟨2, []⟩]) rfl rfl ⟨Nat.zero_le _, hG0, [], by simp [hap], rfl, by simp⟩ ?_
  rintro ⟨i, G⟩ ⟨hi, hG, xs, hrow, hxl, hxs⟩ ih
  simp only at hi hG hrow hxl hxs
  have hGl := hG.len
  refine Safe.inLoop ?_
  by_cases hlt' : i < v.length
  · have hlt : ((i : Int) < (v.length : Int)) = True := eq_true (by omega)
    have hiw : IntKind.wrap .i64 ((i : Int) + 1) = ((i + 1 : Nat) : Int) := by rw [a0e] <;> omega
    refine Safe.rg rfl ?_
    simp only [a2R, hlt, E3, a0c, a0b, a0a, a0d, seval]
    refine Safe.cd rfl ?_
    simp only [E3, a0c, a0b, a0a, a0d, seval]
    rw [← a1C G]
    refine Safe.rg rfl ?_
    simp only [a6r, a1o _ v _ i (by omega), E3, a0c, a0b, a0a, a0d, seval]
    refine Safe.rg rfl ?_
    simp only [a6q, E3, a0c, a0b, a0a, a0d, seval]
    refine (hf i hlt').acall (a1c (hG.refs hH) (RC.nil)) fun r L hT hO => ?_
    obtain ⟨hfit, hcel⟩ := a0z.fit hT
    simp only [hfit, hcel, E3, a0c, a0b, a0a, a0d, seval]
    have hb3 : (hap (hap G []) (L ++ [some ⟨2, [r]⟩]))[lid H 0]? = some (some ⟨2, xs⟩) := a0B (a0B hrow)
    have hl3 : (hap (hap G []) (L ++ [some ⟨2, [r]⟩]))[lid (hap G []) L.length]? = some (some ⟨2, [r]⟩) := b1H _ _ _
    rw [c4v hb3 hxl (a0V H 0) hl3 hlt']
    simp only [E3, a0c, a0b, a0a, a0d, seval]
    refine Safe.rg rfl ?_
    simp only [a6p, hiw, E3, a0c, a0b, a0a, a0d, seval]
    refine Safe.keep [1, 5, 11, 12, 13] ?_
    simp only [E3, a0c, a0b, a0a, a0d, seval]
    have hG1 : Gw H (hap G []) := hG.cl (RC.nil)
    have hG2 := hG1.own_app hO
    have hT2 : IntT H.length (hap (hap G []) L) r := a0z.low hG1.len hT
    have hG3 : Gw H (hap (hap (hap G []) L) [some ⟨2, [r]⟩]) := hG2.app fun b hb a ha => by
      have e : b = ⟨2, [r]⟩ := by simpa using hb
      subst e
      simp only [Blk.flat, List.flatMap_cons, List.flatMap_nil, List.append_nil] at ha
      exact (a0z.cells hT2 a ha).mono fun j hj => ⟨hj.1, by omega⟩
    have hxs3 : ∀ x ∈ xs, IntT H.length (hap (hap (hap G []) L) [some ⟨2, [r]⟩]) x := fun x hx => a0z.app _ (a0z.app _ (a0z.app _ (hxs x hx)))
    have hT3 : IntT H.length (hap (hap (hap G []) L) [some ⟨2, [r]⟩]) r := a0z.app _ hT2
    have hrow3 : (hap (hap (hap G []) L) [some ⟨2, [r]⟩])[H.length]? = some (some ⟨2, xs⟩) := a0B (a0B (a0B hrow))
    rw [← a1V]
    refine ih (i + 1, _) ⟨by simp only; omega, hG3.set (Nat.le_refl _) ?_, xs ++ [r], ?_, by simp [hxl], ?_⟩ (by simp only; omega)
    · intro a ha
      simp only [Blk.flat, List.flatMap_append, List.mem_append, List.flatMap_cons, List.flatMap_nil, List.append_nil] at ha
      rcases ha with ha | ha
      · obtain ⟨x, hx, ha⟩ := List.mem_flatMap.1 ha
        exact a0z.cells (hxs3 x hx) a ha
      · exact a0z.cells hT3 a ha
    · exact (a1p (x := some ⟨2, xs ++ [r]⟩) (a0f hrow3)).trans (if_pos rfl)
    · intro x hx
      rcases List.mem_append.1 hx with hx | hx
      · exact a0z.set hrow3 hxs3 (hxs3 x hx)
      · have e : x = r := by simpa using hx
        subst e
        exact a0z.set hrow3 hxs3 hT3
  · have hin : i = v.length := by omega
    subst hin
    refine Safe.rg rfl ?_
    simp only [a2R, Int.lt_irrefl, E3, a0c, a0b, a0a, a0d, seval]
    refine Safe.cd rfl ?_
    simp only [E3, a0c, a0b, a0a, a0d, seval]
    refine Safe.keep [5] ?_
    simp only [E3, a0c, a0b, a0a, a0d, seval]
    refine Safe.rg rfl ?_
    simp only [a6o, E3, a0c, a0b, a0a, a0d, seval]
    refine Safe.rt rfl ?_
    simp only [E3, a0c, a0b, a0a, a0d, seval]
    obtain ⟨L, hL, hO⟩ := hG.out
    exact ⟨L, hL, .inr ⟨_, _, _, _, ⟨2, xs⟩, rfl, Nat.le_refl _, hrow, ⟨rfl, hxs⟩, by simp [hxl], hv⟩, hO⟩
theorem c4m (g : FuncId) (caps : List AV) (v : List (List ZI)) (hv : v.length ≤ 2097152) (hc : ∀ c ∈ caps, Cl c) (hf : ∀ (i : Nat) (h : i < v.length), GrC Pr g (vecV v[i] :: caps) VecT) : GrC Pr a1l [matV v, .fn g caps] MatT := by
  intro H hH
  refine a0i.open b4M b4K (Nat.le_of_ble_eq_true rfl) fun hH => ?_
  refine Safe.rg rfl ?_
  simp only [a6n, E3, a0c, a0b, a0a, a0d, seval]
  refine Safe.rg rfl ?_
  simp only [a6m, a3p _ _ 1 24 _ _ _ v.length (by decide) (by omega) (by omega), E3, a0c, a0b, a0a, a0d, seval]
  refine Safe.rg rfl ?_
  simp only [a6l, E3, a0c, a0b, a0a, a0d, seval]
  refine Safe.lp rfl ?_
  refine Safe.keep [1, 5, 11, 12, 13] ?_
  simp only [E3, a0c, a0b, a0a, a0d, seval]
  have hG0 : Gw H (hap H [some ⟨1, []⟩]) := (Gw.refl H).cl (RC.emp RC.nil)
  refine Safe.loopW (fun a : Nat × Heap => v.length - a.1) (fun a => [(1, .fn g caps), (5, .mu (lid H 0) 0 a.1 (some v.length)), (11, matV v), (12, .int .i64 v.length), (13, .int .i64 a.1)]) (fun a => a.2)
    (fun a => a.1 ≤ v.length ∧ Gw H a.2 ∧ ∃ xs, a.2[H.length]? = some (some ⟨1, xs⟩) ∧ xs.length = a.1 ∧ ∀ x ∈ xs, VecT H.length a.2 x) (0, hap H [some ⟨1, []⟩]) rfl rfl ⟨Nat.zero_le _, hG0, [], by simp [hap], rfl, by simp⟩ ?_
  rintro ⟨i, G⟩ ⟨hi, hG, xs, hrow, hxl, hxs⟩ ih
  simp only at hi hG hrow hxl hxs
  have hGl := hG.len
  refine Safe.inLoop ?_
  by_cases hlt' : i < v.length
  · have hlt : ((i : Int) < (v.length : Int)) = True := eq_true (by omega)
    have hiw : IntKind.wrap .i64 ((i : Int) + 1) = ((i + 1 : Nat) : Int) := by rw [a0e] <;> omega
    refine Safe.rg rfl ?_
    simp only [a2Q, hlt, E3, a0c, a0b, a0a, a0d, seval]
    refine Safe.cd rfl ?_
    simp only [E3, a0c, a0b, a0a, a0d, seval]
    rw [← a1C G]
    refine Safe.rg rfl ?_
    simp only [a6k, a1o _ v _ i (by omega), E3, a0c, a0b, a0a, a0d, seval]
    refine Safe.rg rfl ?_
    simp only [a6j, E3, a0c, a0b, a0a, a0d, seval]
    refine (hf i hlt').acall (a1c (hG.refs hH) (RC.nil)) fun r L hT hO => ?_
    obtain ⟨hfit, hcel⟩ := a3W.fit hT
    simp only [hfit, hcel, E3, a0c, a0b, a0a, a0d, seval]
    have hb3 : (hap (hap G []) (L ++ [some ⟨1, [r]⟩]))[lid H 0]? = some (some ⟨1, xs⟩) := a0B (a0B hrow)
    have hl3 : (hap (hap G []) (L ++ [some ⟨1, [r]⟩]))[lid (hap G []) L.length]? = some (some ⟨1, [r]⟩) := b1H _ _ _
    rw [c4v hb3 hxl (a0V H 0) hl3 hlt']
    simp only [E3, a0c, a0b, a0a, a0d, seval]
    refine Safe.rg rfl ?_
    simp only [a6i, hiw, E3, a0c, a0b, a0a, a0d, seval]
    refine Safe.keep [1, 5, 11, 12, 13] ?_
    simp only [E3, a0c, a0b, a0a, a0d, seval]
    have hG1 : Gw H (hap G []) := hG.cl (RC.nil)
    have hG2 := hG1.own_app hO
    have hT2 : VecT H.length (hap (hap G []) L) r := a3W.low hG1.len hT
    have hG3 : Gw H (hap (hap (hap G []) L) [some ⟨1, [r]⟩]) := hG2.app fun b hb a ha => by
      have e : b = ⟨1, [r]⟩ := by simpa using hb
      subst e
      simp only [Blk.flat, List.flatMap_cons, List.flatMap_nil, List.append_nil] at ha
      exact (a3W.cells hT2 a ha).mono fun j hj => ⟨hj.1, by omega⟩
    have hxs3 : ∀ x ∈ xs, VecT H.length (hap (hap (hap G []) L) [some ⟨1, [r]⟩]) x := fun x hx => a3W.app _ (a3W.app _ (a3W.app _ (hxs x hx)))
    have hT3 : VecT H.length (hap (hap (hap G []) L) [some ⟨1, [r]⟩]) r := a3W.app _ hT2
    have hrow3 : (hap (hap (hap G []) L) [some ⟨1, [r]⟩])[H.length]? = some (some ⟨1, xs⟩) := a0B (a0B (a0B hrow))
    rw [← a1V]
    refine ih (i + 1, _) ⟨by simp only; omega, hG3.set (Nat.le_refl _) ?_, xs ++ [r], ?_, by simp [hxl], ?_⟩ (by simp only; omega)
    · intro a ha
      simp only [Blk.flat, List.flatMap_append, List.mem_append, List.flatMap_cons, List.flatMap_nil, List.append_nil] at ha
      rcases ha with ha | ha
      · obtain ⟨x, hx, ha⟩ := List.mem_flatMap.1 ha
        exact a3W.cells (hxs3 x hx) a ha
      · exact a3W.cells hT3 a ha
    · exact (a1p (x := some ⟨1, xs ++ [r]⟩) (a0f hrow3)).trans (if_pos rfl)
    · intro x hx
      rcases List.mem_append.1 hx with hx | hx
      · exact a3W.set hrow3 hxs3 (hxs3 x hx)
      · have e : x = r := by simpa using hx
        subst e
        exact a3W.set hrow3 hxs3 hT3
  · have hin : i = v.length := by omega
    subst hin
    refine Safe.rg rfl ?_
    simp only [a2Q, Int.lt_irrefl, E3, a0c, a0b, a0a, a0d, seval]
    refine Safe.cd rfl ?_
    simp only [E3, a0c, a0b, a0a, a0d, seval]
    refine Safe.keep [5] ?_
    simp only [E3, a0c, a0b, a0a, a0d, seval]
    refine Safe.rg rfl ?_
    simp only [a6h, E3, a0c, a0b, a0a, a0d, seval]
    refine Safe.rt rfl ?_
    simp only [E3, a0c, a0b, a0a, a0d, seval]
    obtain ⟨L, hL, hO⟩ := hG.out
    exact ⟨L, hL, .inr ⟨_, _, _, _, ⟨1, xs⟩, rfl, Nat.le_refl _, hrow, ⟨rfl, hxs⟩, by simp [hxl], hv⟩, hO⟩
end Go.Abs
namespace Go.Abs
/-- A number got by a call and stored aXs the answer. -/
theorem d0J {g : FuncId} {gargs : List AV} (hg : GrC Pr g gargs IntT) {H B : Heap} (hH : a0S H) (hB : ∀ b, some b ∈ B → ∀ a ∈ b.flat, Cl a) {R : AV → Heap → Prop}
    (k : ∀ b k L, IntT H.length (hap H (B ++ ([some ⟨2, [.agg [.bool b, k]]⟩] : Heap) ++ L)) (.agg [.bool b, k]) → Own H.length (B ++ ([some ⟨2, [.agg [.bool b, k]]⟩] : Heap) ++ L) →
      R (.agg [.bool b, k]) (hap H ((B ++ ([some ⟨2, [.agg [.bool false, .nil]]⟩] : Heap)) ++ L))) : a0i Pr g gargs (hap H (B ++ ([some ⟨2, [.agg [.bool false, .nil]]⟩] : Heap))) R := by
  refine hg.acall (a1c hH fun c hc a ha => ?_) fun r L hT ho => ?_
  · rcases List.mem_append.1 hc with hc | hc
    · exact hB c hc a ha
    · simp only [List.mem_cons, List.not_mem_nil, or_false, Option.some.injEq] at hc
      subst hc
      exact a6Q a ha
  · obtain ⟨b, m, rfl, hm⟩ := hT
    have hi : IntT _ _ (.agg [.bool b, m]) := ⟨b, m, rfl, hm⟩
    have hlen : (B ++ ([some ⟨2, [.agg [.bool false, .nil]]⟩] : Heap)).length = (B ++ ([some ⟨2, [.agg [.bool b, m]]⟩] : Heap)).length := by simp
    have ht := b2C hi hlen
    rw [a1V]
    exact k b m L ht (b2B ho hlen (b1O hB ht))
/-- A vector got by a call over rows of the caller's. -/
theorem a5Z {H B L : Heap} (T : Nat → Heap → AV → Prop) (hT : ∀ {n0 n1 A a}, n0 ≤ n1 → T n1 A a → T n0 A a) (hB : ∀ b, some b ∈ B → ∀ a ∈ b.flat, Cl a) {a : AV} (t : T (hap H B).length (hap (hap H B) L) a) (ho : Own (hap H B).length L) : ∃ M, hap (hap H B) L = hap H M ∧ T H.length (hap (hap H B) L) a ∧ Own H.length M := by
  have hG := (Gw.refl H).cl hB
  obtain ⟨M, hM, hO⟩ := (hG.own_app ho).out
  exact ⟨M, hM, hT hG.len t, hO⟩
theorem c2u (k x : ZI) (p q : Nat) (hk : Zok p k) (hx : Zok q x) (hpq : p + q ≤ 17592186044416) : GrC Pr a3u [x.av, .ro k.av 0] IntT := by
  have hm := (c6d k x p q hk hx hpq).gr
  have hcx := ZI.cl x
  obtain ⟨n, m⟩ := k
  obtain ⟨n', m'⟩ := x
  simp only [ZI.av] at hm hcx ⊢
  intro H hH
  refine a0i.open b8h b8g (Nat.le_of_ble_eq_true rfl) fun hH => ?_
  refine Safe.rg rfl ?_
  simp only [a8X, E3, a0c, a0b, a0a, a0d, seval]
  refine Safe.rg rfl ?_
  simp only [a8W, E3, a0c, a0b, a0a, a0d, seval]
  refine d0J (B := [some ⟨2, [.agg [.bool n', natV m']]⟩]) hm hH (RC.one hcx RC.nil) fun b k L ht ho => ?_
  simp only [E3, a0c, a0b, a0a, a0d, seval]
  refine Safe.rt rfl ?_
  simp only [E3, a0c, a0b, a0a, a0d, seval]
  exact ⟨_, rfl, ht, ho⟩
theorem c2S (k : ZI) (v : List ZI) (p q : Nat) (hk : Zok p k) (hv : Vok q v) (hpq : p + q ≤ 17592186044416) : GrC Pr b0b [k.av, vecV v] VecT := by
  have hvl := hv.len
  have hcl := ZI.cl k
  have he := b5h a3u [.ro k.av 0] v hv.len (c7X (.ro _ _ (a2w hcl))) fun i h => c2u k v[i] p q hk (hv.get h) hpq
  obtain ⟨n, m⟩ := k
  simp only [ZI.av] at he hcl ⊢
  intro H hH
  refine a0i.open c1u c1t (Nat.le_of_ble_eq_true rfl) fun hH => ?_
  refine Safe.rg rfl ?_
  simp only [b4d, E3, a0c, a0b, a0a, a0d, seval]
  refine Safe.freeze 0 (b := ⟨2, [.agg [.bool n, natV m]]⟩) hH rfl rfl (by simpa only [Blk.flat, List.flatMap_cons, List.flatMap_nil, List.append_nil] using a2w hcl) ?_
  simp only [a7W, E3, a0c, a0b, a0a, a0d, seval]
  refine Safe.rg rfl ?_
  simp only [b4c, E3, a0c, a0b, a0a, a0d, seval]
  refine he.acall (a1c hH (RC.none RC.nil)) fun r L hT ho => ?_
  simp only [E3, a0c, a0b, a0a, a0d, seval]
  refine Safe.rt rfl ?_
  simp only [E3, a0c, a0b, a0a, a0d, seval]
  exact a5Z VecT VecT.low (RC.none RC.nil) hT ho
theorem c2V (v : List ZI) (hv : Vok 17592186044416 v) : GrC Pr a2f [vecV v] VecT := by
  have he := b5h a0N [] v hv.len (fun c hc => by cases hc) fun i h => (b1T v[i] (hv.get h)).gr
  intro H hH
  refine a0i.open b1p b1o (Nat.le_of_ble_eq_true rfl) fun hH => ?_
  refine Safe.rg rfl ?_
  simp only [a5T, E3, a0c, a0b, a0a, a0d, seval]
  refine Safe.rg rfl ?_
  simp only [a5S, E3, a0c, a0b, a0a, a0d, seval]
  refine he.acall (a1c hH RC.nil) fun r L hT ho => ?_
  simp only [E3, a0c, a0b, a0a, a0d, seval]
  refine Safe.rt rfl ?_
  simp only [E3, a0c, a0b, a0a, a0d, seval]
  exact a5Z VecT VecT.low RC.nil hT ho
theorem MatT.low {n0 n1 : Nat} {A : Heap} {a : AV} (h : n0 ≤ n1) (t : MatT n1 A a) : MatT n0 A a := by
  rcases t with rfl | ⟨id, off, l, oc, r, rfl, h0, h1, h2, h3⟩
  · exact .inl rfl
  · exact .inr ⟨id, off, l, oc, r, rfl, by omega, h1, ⟨h2.wd, fun x hx => (h2.el x hx).low h⟩, h3⟩
theorem c5w (b : List (List ZI)) (hb : Mok 17592186044416 b) : GrC Pr a5p [matV b] MatT := by
  have he := c4m a2f [] b hb.len (fun c hc => by cases hc) fun i h => c2V b[i] (hb.get h)
  intro H hH
  refine a0i.open b7t b7s (Nat.le_of_ble_eq_true rfl) fun hH => ?_
  refine Safe.rg rfl ?_
  simp only [a9T, E3, a0c, a0b, a0a, a0d, seval]
  refine Safe.rg rfl ?_
  simp only [a9S, E3, a0c, a0b, a0a, a0d, seval]
  refine he.acall (a1c hH RC.nil) fun r L hT ho => ?_
  simp only [E3, a0c, a0b, a0a, a0d, seval]
  refine Safe.rt rfl ?_
  simp only [E3, a0c, a0b, a0a, a0d, seval]
  exact a5Z MatT MatT.low RC.nil hT ho
theorem c1W (v : List ZI) (hv : Vok 17592186044416 v) : GrC Pr a0t [vecV v, .fn a2d []] VecT :=
  b5h a2d [] v hv.len (fun c hc => by cases hc) fun i h => (c6b v[i] (hv.get h)).gr
theorem b1J (v : List ZI) (hv : Vok 17592186044416 v) : GrC Pr a0t [vecV v, .fn a0N []] VecT :=
  b5h a0N [] v hv.len (fun c hc => by cases hc) fun i h => (b1T v[i] (hv.get h)).gr
theorem b9V (v : List ZI) (hv : Vok 17592186044416 v) : GrC Pr a2s [vecV v] VecT := by
  have hvl := hv.len
  intro H hH
  refine a0i.open a8V a8U (Nat.le_of_ble_eq_true rfl) fun hH => ?_
  refine Safe.rg rfl ?_
  simp only [a4U, E3, a0c, a0b, a0a, a0d, seval]
  refine Safe.rg rfl ?_
  simp only [a4T, E3, a0c, a0b, a0a, a0d, seval]
  first | refine (a3w v hv).acall ?_ | refine (a3w v hv).dcall ?_ | refine (a3w v hv).dgcall ?_
  try simp only [E3, a0c, a0b, a0a, a0d, seval]
  rcases a3x v with ⟨m, hm, h0, hz, hl, hu⟩ | ⟨hz, hl, hu⟩
  · by_cases hn : zg v m < 0
    · rw [hl]
      have hs : v[m].z < 0 := by rwa [← a4M hm]
      refine Safe.rg rfl ?_
      simp only [a0X, b2y, ge_iff_le, Int.natCast_nonneg, a0I _ v _ m hm, E3, a0c, a0b, a0a, a0d, seval]
      first | refine (a0o v[m] (hv.get (by omega))).acall ?_ | refine (a0o v[m] (hv.get (by omega))).dcall ?_ | refine (a0o v[m] (hv.get (by omega))).dgcall ?_
      try simp only [E3, a0c, a0b, a0a, a0d, seval]
      refine Safe.cd rfl ?_
      simp only [a6S, hs, E3, a0c, a0b, a0a, a0d, seval]
      refine Safe.rg rfl ?_
      simp only [a4S, E3, a0c, a0b, a0a, a0d, seval]
      refine (c1W v hv).acall (a1c hH RC.nil) fun r L hT ho => ?_
      simp only [E3, a0c, a0b, a0a, a0d, seval]
      refine Safe.rt rfl ?_
      simp only [E3, a0c, a0b, a0a, a0d, seval]
      exact a5Z VecT VecT.low RC.nil hT ho
    · rw [hl]
      have hs : ¬ v[m].z < 0 := by rwa [← a4M hm]
      refine Safe.rg rfl ?_
      simp only [a0X, b2y, ge_iff_le, Int.natCast_nonneg, a0I _ v _ m hm, E3, a0c, a0b, a0a, a0d, seval]
      first | refine (a0o v[m] (hv.get (by omega))).acall ?_ | refine (a0o v[m] (hv.get (by omega))).dcall ?_ | refine (a0o v[m] (hv.get (by omega))).dgcall ?_
      try simp only [E3, a0c, a0b, a0a, a0d, seval]
      refine Safe.cd rfl ?_
      simp only [a6S, hs, E3, a0c, a0b, a0a, a0d, seval]
      refine Safe.rg rfl ?_
      simp only [a1O, E3, a0c, a0b, a0a, a0d, seval]
      refine (b1J v hv).acall (a1c hH RC.nil) fun r L hT ho => ?_
      simp only [E3, a0c, a0b, a0a, a0d, seval]
      refine Safe.rt rfl ?_
      simp only [E3, a0c, a0b, a0a, a0d, seval]
      exact a5Z VecT VecT.low RC.nil hT ho
  · rw [hl]
    refine Safe.rg rfl ?_
    simp only [a0X, show ¬ (-1 : Int) ≥ 0 by decide, show ¬ (0 : Int) ≤ -1 by decide, E3, a0c, a0b, a0a, a0d, seval]
    refine Safe.cd rfl ?_
    simp only [E3, a0c, a0b, a0a, a0d, seval]
    refine Safe.rg rfl ?_
    simp only [a1O, E3, a0c, a0b, a0a, a0d, seval]
    refine (b1J v hv).acall (a1c hH RC.nil) fun r L hT ho => ?_
    simp only [E3, a0c, a0b, a0a, a0d, seval]
    refine Safe.rt rfl ?_
    simp only [E3, a0c, a0b, a0a, a0d, seval]
    exact a5Z VecT VecT.low RC.nil hT ho
theorem c4E {a b : Int} {k : Nat} (ha : a.natAbs < LB ^ k) (hb : b.natAbs < LB ^ k) (hk : k < 17592186044416) : OpC Pr a1j [Z a, Z b] IntT := by
  have := c0J (canZ a) (canZ b) k (a6C ha) (a6C hb) hk
  rwa [b2D, b2D] at this
theorem c9V (u v : List ZI) (p : Nat) (hu : Vok p u) (hv : Vok p v) (hp : p + p + 2 < 17592186044416) (hl : u.length = v.length) : GrC Pr b7Y [vecV u, vecV v] IntT := by
  have hul := hu.len
  intro H hH
  refine a0i.open c2Z c2X (Nat.le_of_ble_eq_true rfl) fun hH => ?_
  refine Safe.rg rfl ?_
  simp only [b6O, E3, a0c, a0b, a0a, a0d, seval]
  refine Safe.rg rfl ?_
  simp only [b6N, E3, a0c, a0b, a0a, a0d, seval]
  by_cases h0 : u.length = 0
  · refine Safe.rg rfl ?_
    simp only [a9I, E3, a0c, a0b, a0a, a0d, seval]
    refine Safe.lp rfl (Safe.inLoop ?_)
    refine Safe.rg rfl ?_
    simp only [a3I, h0, Int.natCast_zero, Int.lt_irrefl, E3, a0c, a0b, a0a, a0d, seval]
    refine Safe.cd rfl ?_
    simp only [E3, a0c, a0b, a0a, a0d, seval]
    refine Safe.rg rfl ?_
    simp only [a9E, E3, a0c, a0b, a0a, a0d, seval]
    refine Safe.rt rfl ?_
    simp only [E3, a0c, a0b, a0a, a0d, seval]
    exact ⟨_, rfl, ⟨false, .nil, rfl, .inl rfl⟩, fun b hb a ha => (RC.zero (RC.zero RC.nil) b hb a ha).ref⟩
  · obtain ⟨m, hm⟩ : ∃ m, u.length = m + 1 := ⟨u.length - 1, by omega⟩
    refine Safe.told0 1 rfl ?_
    refine Safe.rg rfl ?_
    simp only [a9I, E3, a0c, a0b, a0a, a0d, seval]
    refine Safe.lp rfl ?_
    refine Safe.keep [0, 1, 4, 5, 8, 9, 7] ?_
    simp only [E3, a0c, a0b, a0a, a0d, seval]
    refine Safe.loopN m (fun i => [(0, vecV u), (1, vecV v), (4, .loc (lid H 0) 0 0), (5, .loc (lid H 1) 0 0), (8, .int .i64 u.length), (9, .int .i64 i), (7, vecV u)]) (fun i => hap H [some ⟨2, [.agg [.bool false, .nil]]⟩, some ⟨2, [Z (b9x (fun i => zg u i * zg v i) i)]⟩]) rfl rfl (fun i hi ih => ?_) ?_
    · have hlt : (i : Int) < (u.length : Int) := by omega
      have hiw : IntKind.wrap .i64 ((i : Int) + 1) = ((i + 1 : Nat) : Int) := by rw [a0e] <;> omega
      refine Safe.inLoop ?_
      refine Safe.rg rfl ?_
      simp only [a3I, hlt, E3, a0c, a0b, a0a, a0d, seval]
      refine Safe.cd rfl ?_
      simp only [E3, a0c, a0b, a0a, a0d, seval]
      refine Safe.rg rfl ?_
      simp only [a9H, E3, a0c, a0b, a0a, a0d, seval]
      refine Safe.rg rfl ?_
      simp only [a9G, a0I _ u _ i (by omega), a0I _ v _ i (by omega), E3, a0c, a0b, a0a, a0d, seval]
      first | refine (b1R u v hu hv (by omega) (by omega) (by omega)).acall ?_ | refine (b1R u v hu hv (by omega) (by omega) (by omega)).dcall ?_ | refine (b1R u v hu hv (by omega) (by omega) (by omega)).dgcall ?_
      try simp only [E3, a0c, a0b, a0a, a0d, seval]
      first | refine (b9q (c0t hu hv (show i ≤ u.length by omega)) (Nat.lt_of_lt_of_le (a5g hu hv i) (c0i (by omega))) hp).acall ?_ | refine (b9q (c0t hu hv (show i ≤ u.length by omega)) (Nat.lt_of_lt_of_le (a5g hu hv i) (c0i (by omega))) hp).dcall ?_ | refine (b9q (c0t hu hv (show i ≤ u.length by omega)) (Nat.lt_of_lt_of_le (a5g hu hv i) (c0i (by omega))) hp).dgcall ?_
      try simp only [E3, a0c, a0b, a0a, a0d, seval]
      refine Safe.rg rfl ?_
      simp only [a9F, hiw, E3, a0c, a0b, a0a, a0d, seval]
      refine Safe.keep [0, 1, 4, 5, 8, 9, 7] ?_
      simp only [E3, a0c, a0b, a0a, a0d, seval]
      exact ih
    · have hlt : (m : Int) < (u.length : Int) := by omega
      have hiw : IntKind.wrap .i64 ((m : Int) + 1) = ((m + 1 : Nat) : Int) := by rw [a0e] <;> omega
      obtain ⟨r, L, h1, ⟨b, k, rfl, hk⟩, ho⟩ := c4E (c0t hu hv (show m ≤ u.length by omega)) (Nat.lt_of_lt_of_le (a5g hu hv m) (c0i (by omega))) hp (hap H [some ⟨2, [.agg [.bool false, .nil]]⟩, some ⟨2, [Z (b9x (fun i => zg u i * zg v i) m)]⟩]) (a1c hH (RC.zero (RC.one (Z_cl _) RC.nil)))
      have hi : IntT _ _ (.agg [.bool b, k]) := ⟨b, k, rfl, hk⟩
      have ht := b2C (B' := [some ⟨2, [.agg [.bool b, k]]⟩, some ⟨2, [.agg [.bool b, k]]⟩]) hi rfl
      refine Safe.inLoop ?_
      refine Safe.rg rfl ?_
      simp only [a3I, hlt, E3, a0c, a0b, a0a, a0d, seval]
      refine Safe.cd rfl ?_
      simp only [E3, a0c, a0b, a0a, a0d, seval]
      refine Safe.rg rfl ?_
      simp only [a9H, E3, a0c, a0b, a0a, a0d, seval]
      refine Safe.rg rfl ?_
      simp only [a9G, a0I _ u _ m (by omega), a0I _ v _ m (by omega), E3, a0c, a0b, a0a, a0d, seval]
      first | refine (b1R u v hu hv (by omega) (by omega) (by omega)).acall ?_ | refine (b1R u v hu hv (by omega) (by omega) (by omega)).dcall ?_ | refine (b1R u v hu hv (by omega) (by omega) (by omega)).dgcall ?_
      try simp only [E3, a0c, a0b, a0a, a0d, seval]
      refine ⟨_, _, h1, ?_⟩
      rw [b2G]
      simp only [E3, a0c, a0b, a0a, a0d, seval]
      refine Safe.rg rfl ?_
      simp only [a9F, hiw, E3, a0c, a0b, a0a, a0d, seval]
      refine Safe.inLoop ?_
      refine Safe.rg rfl ?_
      simp only [a3I, hm, Int.lt_irrefl, E3, a0c, a0b, a0a, a0d, seval]
      refine Safe.cd rfl ?_
      simp only [E3, a0c, a0b, a0a, a0d, seval]
      refine Safe.rg rfl ?_
      simp only [a9E, E3, a0c, a0b, a0a, a0d, seval]
      refine Safe.rt rfl ?_
      simp only [E3, a0c, a0b, a0a, a0d, seval]
      refine ⟨_, rfl, ht, b2B (B' := [some ⟨2, [.agg [.bool b, k]]⟩, some ⟨2, [.agg [.bool b, k]]⟩]) ho rfl fun c hc a ha => ?_⟩
      have e : c = ⟨2, [.agg [.bool b, k]]⟩ := by simpa using hc
      subst e
      simp only [Blk.flat, List.flatMap_cons, List.flatMap_nil, List.append_nil] at ha
      exact (ht.cells a ha).mono fun j hj => by simp only [hap, List.length_append] at hj ⊢; omega
theorem c3F (u v : List ZI) (p : Nat) (hu : Vok p u) (hv : Vok p v) (hp : p + p + 2 < 17592186044416) (hl : u.length = v.length) : GrC Pr a2F [vecV v, .ro (vecV u) 0] IntT := by
  intro H hH
  refine a0i.open b7r b7q (Nat.le_of_ble_eq_true rfl) fun hH => ?_
  refine Safe.rg rfl ?_
  simp only [a7I, E3, a0c, a0b, a0a, a0d, seval]
  refine Safe.rg rfl ?_
  simp only [a7H, E3, a0c, a0b, a0a, a0d, seval]
  refine d0J (B := []) (c9V u v p hu hv hp hl) hH RC.nil fun b k L ht ho => ?_
  simp only [E3, a0c, a0b, a0a, a0d, seval]
  refine Safe.rt rfl ?_
  simp only [E3, a0c, a0b, a0a, a0d, seval]
  exact ⟨_, rfl, ht, ho⟩
theorem c5M (u : List ZI) (b : List (List ZI)) (p : Nat) (hu : Vok p u) (hb : Mok p b) (hp : p + p + 2 < 17592186044416) (hl : ∀ i (h : i < b.length), u.length = b[i].length) : GrC Pr a4K [vecV u, .ro (matV b) 0] VecT := by
  have he := c9T a2F [.ro (vecV u) 0] b hb.len (c7X (c6K u 0)) fun i h => c3F u b[i] p hu (hb.get h) hp (hl i h)
  intro H hH
  refine a0i.open c0f c0e (Nat.le_of_ble_eq_true rfl) fun hH => ?_
  refine Safe.rg rfl ?_
  simp only [b1n, E3, a0c, a0b, a0a, a0d, seval]
  refine Safe.freeze 0 (b := ⟨1, [vecV u]⟩) hH rfl rfl (c8f (a0n u)) ?_
  simp only [a7W, AV.cells, d0L, E3, a0c, a0b, a0a, a0d, seval]
  refine Safe.rg rfl ?_
  simp only [b1m, E3, a0c, a0b, a0a, a0d, seval]
  refine he.acall (a1c hH (RC.none RC.nil)) fun r L hT ho => ?_
  simp only [E3, a0c, a0b, a0a, a0d, seval]
  refine Safe.rt rfl ?_
  simp only [E3, a0c, a0b, a0a, a0d, seval]
  exact a5Z VecT VecT.low (RC.none RC.nil) hT ho
theorem c7E (b : List (List ZI)) (p : Nat) (hb : Mok p b) (hp : p + p + 2 < 17592186044416) : ∃ e : Int, GrC Pr b2P [matV b] fun n A a => ∃ t, a = .tup [t, .int .i64 e] ∧ MatT n A t := by
  by_cases hr : Rect b
  · have he := c4m a4K [.ro (matV b) 0] b hb.len (c7X (c6L b 0)) fun i h => c5M b[i] b p (hb.get h) hb hp fun j hj => by rw [c1g hr h, c1g hr hj]
    refine ⟨0, fun H hH => ?_⟩
    refine a0i.open b7p b7o (Nat.le_of_ble_eq_true rfl) fun hH => ?_
    refine Safe.rg rfl ?_
    simp only [a9R, E3, a0c, a0b, a0a, a0d, seval]
    refine Safe.freeze 0 (b := ⟨1, [matV b]⟩) hH rfl rfl (c8f (a1Y b)) ?_
    simp only [a7W, E3, a0c, a0b, a0a, a0d, seval]
    refine Safe.rg rfl ?_
    simp only [a9Q, E3, a0c, a0b, a0a, a0d, seval]
    first | refine (a2k b p hb hr).acall ?_ | refine (a2k b p hb hr).dcall ?_ | refine (a2k b p hb hr).dgcall ?_
    try simp only [E3, a0c, a0b, a0a, a0d, seval]
    refine Safe.rg rfl ?_
    simp only [a9P, E3, a0c, a0b, a0a, a0d, seval]
    refine Safe.cd rfl ?_
    simp only [E3, a0c, a0b, a0a, a0d, seval]
    refine Safe.rg rfl ?_
    simp only [b7m, E3, a0c, a0b, a0a, a0d, seval]
    refine he.acall (a1c hH (RC.none RC.nil)) fun r L hT ho => ?_
    simp only [E3, a0c, a0b, a0a, a0d, seval]
    refine Safe.rt rfl ?_
    simp only [E3, a0c, a0b, a0a, a0d, seval]
    obtain ⟨M, h1, h2, h3⟩ := a5Z MatT MatT.low (RC.none RC.nil) hT ho
    exact ⟨M, h1, ⟨r, rfl, h2⟩, h3⟩
  · refine ⟨8, fun H hH => ?_⟩
    refine a0i.open b7p b7o (Nat.le_of_ble_eq_true rfl) fun hH => ?_
    refine Safe.rg rfl ?_
    simp only [a9R, E3, a0c, a0b, a0a, a0d, seval]
    refine Safe.rg rfl ?_
    simp only [a9Q, E3, a0c, a0b, a0a, a0d, seval]
    first | refine (a1G b p hb hr).acall ?_ | refine (a1G b p hb hr).dcall ?_ | refine (a1G b p hb hr).dgcall ?_
    try simp only [E3, a0c, a0b, a0a, a0d, seval]
    refine Safe.rg rfl ?_
    simp only [a9P, b5g, E3, a0c, a0b, a0a, a0d, seval]
    refine Safe.cd rfl ?_
    simp only [E3, a0c, a0b, a0a, a0d, seval]
    refine Safe.rg rfl ?_
    simp only [b7n, E3, a0c, a0b, a0a, a0d, seval]
    refine Safe.rt rfl ?_
    simp only [E3, a0c, a0b, a0a, a0d, seval]
    exact ⟨_, rfl, ⟨.nil, rfl, .inl rfl⟩, fun c hc a ha => ((RC.one (a1Y b) RC.nil) c hc a ha).ref⟩
end Go.Abs
namespace Go.Abs
theorem Ref.ne {n0 m β : Nat} {a : AV} (h : Ref (fun j => n0 ≤ j ∧ j < m) a) (hb : β < n0) : Ref (· ≠ β) a := h.mono fun j hj => by show j ≠ β; omega
theorem c5a (u v : List ZI) (p : Nat) (hu : Vok p u) (hv : Vok p v) (hp : p < 17592186044416) (hl : u.length = v.length) : GrC Pr b0a [vecV u, vecV v, .fn a1j []] fun n A a => ∃ t, a = .tup [t, .int .i64 0] ∧ VecT n A t := by
  have hl' : (u.length : Int) = (v.length : Int) := by omega
  have hul := hu.len
  intro H hH
  refine a0i.open c0b b9Z (Nat.le_of_ble_eq_true rfl) fun hH => ?_
  refine Safe.rg rfl ?_
  simp only [b1f, E3, a0c, a0b, a0a, a0d, seval]
  refine Safe.rg rfl ?_
  simp only [b1e, hl', E3, a0c, a0b, a0a, a0d, seval]
  refine Safe.cd rfl ?_
  simp only [E3, a0c, a0b, a0a, a0d, seval]
  refine Safe.rg rfl ?_
  simp only [b1d, E3, a0c, a0b, a0a, a0d, seval]
  refine Safe.rg rfl ?_
  simp only [b1c, E3, a0c, a0b, a0a, a0d, seval]
  refine Safe.nilrow 8 2 (by decide) (by simp only [E3, a0c, a0b, a0a, a0d, seval]) ?_
  refine Safe.lp rfl ?_
  refine Safe.keep [0, 1, 2, 8, 16, 17] ?_
  simp only [E3, a0c, a0b, a0a, a0d, seval]
  have hG0 : Gw H (hap H [some ⟨2, []⟩]) := (Gw.refl H).cl (RC.emp RC.nil)
  refine Safe.loopW (fun a : Nat × Heap => u.length - a.1) (fun a => [(0, vecV u), (1, vecV v), (2, .fn a1j []), (8, .mu (lid H 0) 0 a.1 none), (16, .int .i64 u.length), (17, .int .i64 a.1)]) (fun a => a.2)
    (fun a => a.1 ≤ u.length ∧ Gw H a.2 ∧ Free a.2 H.length ∧ ∃ xs, a.2[H.length]? = some (some ⟨2, xs⟩) ∧ xs.length = a.1 ∧ (∀ x ∈ xs, IntT H.length a.2 x) ∧ ∀ x ∈ xs, ∀ c ∈ x.cells, Ref (· ≠ H.length) c) (0, hap H [some ⟨2, []⟩]) rfl rfl
    ⟨Nat.zero_le _, hG0, Free.last hH _, [], by simp [hap], rfl, by simp, by simp⟩ ?_
  rintro ⟨i, G⟩ ⟨hi, hG, hF, xs, hrow, hxl, hxs, hxr⟩ ih
  simp only at hi hG hF hrow hxl hxs hxr
  have hβ := a0f hrow
  refine Safe.inLoop ?_
  by_cases hlt' : i < u.length
  · have hlt : ((i : Int) < (u.length : Int)) = True := eq_true (by omega)
    have hiw : IntKind.wrap .i64 ((i : Int) + 1) = ((i + 1 : Nat) : Int) := by rw [a0e] <;> omega
    refine Safe.rg rfl ?_
    simp only [a5O, hlt, E3, a0c, a0b, a0a, a0d, seval]
    refine Safe.cd rfl ?_
    simp only [E3, a0c, a0b, a0a, a0d, seval]
    rw [← a1C G]
    refine Safe.rg rfl ?_
    simp only [b1b, E3, a0c, a0b, a0a, a0d, seval]
    refine Safe.rg rfl ?_
    simp only [b1a, a0I _ u _ i (by omega), a0I _ v _ i (by omega), E3, a0c, a0b, a0a, a0d, seval]
    rw [a1C]
    refine (c0J u[i] v[i] p (hu.get hlt') (hv.get (by omega)) hp).dgcall (hG.refs hH) fun r L hT hO => ?_
    obtain ⟨hfit, hcel⟩ := hT.fit
    simp only [hfit, hcel, E3, a0c, a0b, a0a, a0d, seval]
    have hb3 : (hap G (L ++ [some ⟨2, [r]⟩]))[lid H 0]? = some (some ⟨2, xs⟩) := a0B hrow
    have hl3 : (hap G (L ++ [some ⟨2, [r]⟩]))[lid G L.length]? = some (some ⟨2, [r]⟩) := b1H _ _ _
    have hrr : ∀ c ∈ r.cells, Ref (· ≠ H.length) c := fun c hc => (hT.cells c hc).ne hβ
    have hF2 : Free (hap (hap G L) [some ⟨2, [r]⟩]) H.length := (hF.own hβ hO).app fun b hb a ha => by
      have e : b = ⟨2, [r]⟩ := by simpa using hb
      subst e
      simp only [Blk.flat, List.flatMap_cons, List.flatMap_nil, List.append_nil] at ha
      exact hrr a ha
    rw [a1V] at hF2
    rw [c4u hb3 hxl (a0V H 0) hl3 hF2 hxr hrr (by omega) (by omega)]
    simp only [E3, a0c, a0b, a0a, a0d, seval]
    refine Safe.rg rfl ?_
    simp only [b0Z, hiw, E3, a0c, a0b, a0a, a0d, seval]
    refine Safe.keep [0, 1, 2, 8, 16, 17] ?_
    simp only [E3, a0c, a0b, a0a, a0d, seval]
    have hG2 := hG.own_app hO
    have hT2 : IntT H.length (hap G L) r := hT.low hG.len
    have hG3 : Gw H (hap (hap G L) [some ⟨2, [r]⟩]) := hG2.app fun b hb a ha => by
      have e : b = ⟨2, [r]⟩ := by simpa using hb
      subst e
      simp only [Blk.flat, List.flatMap_cons, List.flatMap_nil, List.append_nil] at ha
      exact (hT2.cells a ha).mono fun j hj => ⟨hj.1, by omega⟩
    have hxs3 : ∀ x ∈ xs, IntT H.length (hap (hap G L) [some ⟨2, [r]⟩]) x := fun x hx => a0z.app _ (a0z.app _ (hxs x hx))
    have hT3 : IntT H.length (hap (hap G L) [some ⟨2, [r]⟩]) r := a0z.app _ hT2
    have hrow3 : (hap (hap G L) [some ⟨2, [r]⟩])[H.length]? = some (some ⟨2, xs⟩) := a0B (a0B hrow)
    rw [← a1V] at hF2 ⊢
    refine ih (i + 1, _) ⟨by simp only; omega, hG3.set (Nat.le_refl _) ?_, hF2.self _, xs ++ [r], ?_, by simp [hxl], ?_, ?_⟩ (by simp only; omega)
    · intro a ha
      simp only [Blk.flat, List.flatMap_append, List.mem_append, List.flatMap_cons, List.flatMap_nil, List.append_nil] at ha
      rcases ha with ha | ha
      · obtain ⟨x, hx, ha⟩ := List.mem_flatMap.1 ha
        exact (hxs3 x hx).cells a ha
      · exact hT3.cells a ha
    · exact (a1p (x := some ⟨2, xs ++ [r]⟩) (a0f hrow3)).trans (if_pos rfl)
    · intro x hx
      rcases List.mem_append.1 hx with hx | hx
      · exact a0z.set hrow3 hxs3 (hxs3 x hx)
      · have e : x = r := by simpa using hx
        subst e
        exact a0z.set hrow3 hxs3 hT3
    · intro x hx
      rcases List.mem_append.1 hx with hx | hx
      · exact hxr x hx
      · have e : x = r := by simpa using hx
        subst e
        exact hrr
  · have hin : i = u.length := by omega
    subst hin
    refine Safe.rg rfl ?_
    simp only [a5O, Int.lt_irrefl, E3, a0c, a0b, a0a, a0d, seval]
    refine Safe.cd rfl ?_
    simp only [E3, a0c, a0b, a0a, a0d, seval]
    refine Safe.keep [8] ?_
    simp only [E3, a0c, a0b, a0a, a0d, seval]
    refine Safe.rg rfl ?_
    simp only [b0Y, E3, a0c, a0b, a0a, a0d, seval]
    refine Safe.rt rfl ?_
    simp only [E3, a0c, a0b, a0a, a0d, seval]
    obtain ⟨L, hL, hO⟩ := hG.out
    exact ⟨L, hL, ⟨_, rfl, .inr ⟨_, _, _, _, ⟨2, xs⟩, rfl, Nat.le_refl _, hrow, ⟨rfl, hxs⟩, by simp [hxl], hul⟩⟩, hO⟩
theorem c6O (u v : List ZI) (p : Nat) (hu : Vok p u) (hv : Vok p v) (hp : p < 17592186044416) (hl : u.length = v.length) : GrC Pr b2N [vecV u, vecV v] fun n A a => ∃ t, a = .tup [t, .int .i64 0] ∧ VecT n A t := by
  intro H hH
  refine a0i.open c3n c3m (Nat.le_of_ble_eq_true rfl) fun hH => ?_
  refine Safe.rg rfl ?_
  simp only [b7h, E3, a0c, a0b, a0a, a0d, seval]
  refine Safe.rg rfl ?_
  simp only [b7g, E3, a0c, a0b, a0a, a0d, seval]
  refine (c5a u v p hu hv hp hl).acall (a1c hH RC.nil) fun r L hT ho => ?_
  obtain ⟨t, rfl, hT⟩ := hT
  simp only [E3, a0c, a0b, a0a, a0d, seval]
  refine Safe.rt rfl ?_
  simp only [E3, a0c, a0b, a0a, a0d, seval]
  obtain ⟨M, h1, h2, h3⟩ := a5Z VecT VecT.low RC.nil hT ho
  exact ⟨M, h1, ⟨t, rfl, h2⟩, h3⟩
end Go.Abs
namespace Go.Abs
theorem d3U {G : Heap} {id wd len lo hi mx : Nat} {X : List AV} {oc : Option Nat} {k k' k2 : IntKind} (h : G[id]? = some (some ⟨wd, X⟩)) (h1 : lo ≤ hi) (h2 : hi ≤ mx) (h3 : mx ≤ len) :
    slcV G wd (.mu id 0 len oc) (some (.int k lo)) (some (.int k' hi)) (some (.int k2 mx)) = some (.mu id lo (hi - lo) (some (mx - lo))) := by
  have hr : hrow G id = some ⟨wd, X⟩ := by simp [hrow, h]
  simp only [slcV, hr, a3X, Option.bind_some]
  rw [if_pos ⟨trivial, rfl, by omega, by omega, by omega, by omega⟩]
  simp
theorem b5a {H : Heap} {n k : Nat} {a : AV} (h : a ∈ a0p H n k) : ∃ j, j < k ∧ a = .mu (lid H 0) (j * n) n (some n) := by
  obtain ⟨j, hj, rfl⟩ := List.mem_map.1 h
  exact ⟨j, List.mem_range.1 hj, rfl⟩
theorem c6q (b : List (List ZI)) (p : Nat) (hb : Mok p b) (hp : p ≤ 17592186044416) : ∃ e : Int, GrC Pr a2e [matV b] fun n A a => ∃ t, a = .tup [t, .int .i64 e] ∧ MatT n A t := by
  by_cases hr : Rect b
  · have hbl := hb.len
    have hwl := (hb.row 0).len
    rw [show (mg b 0).length = wid b from rfl] at hwl
    have hnm : b.length * wid b ≤ 2097152 * 2097152 := Nat.mul_le_mul hbl hwl
    have hcm : wid b * b.length = b.length * wid b := Nat.mul_comm _ _
    have hmw : IntKind.wrap .i64 ((b.length : Int) * (wid b : Int)) = ((b.length * wid b : Nat) : Int) := by
      rw [← Int.natCast_mul, a0e] <;> omega
    refine ⟨0, fun H hH => ?_⟩
    have h01 : lid H 0 ≠ lid H 1 := by simp [lid]
    refine a0i.open b4b b4a (Nat.le_of_ble_eq_true rfl) fun hH => ?_
    refine Safe.rg rfl ?_
    simp only [a7C, E3, a0c, a0b, a0a, a0d, seval]
    refine Safe.rg rfl ?_
    simp only [a7B, E3, a0c, a0b, a0a, a0d, seval]
    first | refine (a2k b p hb hr).acall ?_ | refine (a2k b p hb hr).dcall ?_ | refine (a2k b p hb hr).dgcall ?_
    try simp only [E3, a0c, a0b, a0a, a0d, seval]
    refine Safe.rg rfl ?_
    simp only [a7A, E3, a0c, a0b, a0a, a0d, seval]
    refine Safe.cd rfl ?_
    simp only [E3, a0c, a0b, a0a, a0d, seval]
    refine Safe.rg rfl ?_
    simp only [b3Y, hmw, a3p _ [] 2 32 _ _ _ (b.length * wid b) (by decide) (by omega) (by omega), E3, a0c, a0b, a0a, a0d, seval]
    refine Safe.rg rfl ?_
    simp only [b3X, E3, a0c, a0b, a0a, a0d, seval]
    refine Safe.nilrow 8 1 (by decide) (by simp only [E3, a0c, a0b, a0a, a0d, seval]) ?_
    refine Safe.rg rfl ?_
    simp only [b3W, E3, a0c, a0b, a0a, a0d, seval]
    refine Safe.lp rfl ?_
    refine Safe.keep [0, 4, 7, 8, 24, 25] ?_
    simp only [E3, a0c, a0b, a0a, a0d, seval]
    have hG0 : Gw H (hap H [some ⟨2, []⟩, some ⟨1, []⟩]) := (Gw.refl H).cl (RC.emp (RC.emp RC.nil))
    refine Safe.loopW (fun a : Nat × Heap => wid b - a.1) (fun a => [(0, matV b), (4, .int .i64 b.length), (7, .mu (lid H 0) 0 (a.1 * b.length) (some (b.length * wid b))), (8, .mu (lid H 1) 0 a.1 none), (24, .int .i64 (wid b)), (25, .int .i64 a.1)]) (fun a => a.2)
      (fun a => a.1 ≤ wid b ∧ Gw H a.2 ∧ Free a.2 (lid H 1) ∧ a.2[lid H 1]? = some (some ⟨1, a0p H b.length a.1⟩) ∧ ∃ xs, a.2[lid H 0]? = some (some ⟨2, xs⟩) ∧ xs.length = a.1 * b.length ∧ ∀ x ∈ xs, IntT H.length a.2 x)
      (0, hap H [some ⟨2, []⟩, some ⟨1, []⟩]) (by simp only [Nat.zero_mul]; rfl) rfl ⟨Nat.zero_le _, hG0, ?_, by simp [hap, lid, a0p], [], by simp [hap, lid], by simp, by simp⟩ ?_
    · have hF := Free.last (a1c hH (RC.emp (wd := 2) RC.nil)) (some ⟨1, []⟩)
      rw [a1V, show (hap H [some ⟨2, []⟩]).length = lid H 1 by simp [hap, lid]] at hF
      exact hF
    rintro ⟨k, G⟩ ⟨hk, hG, hF, hrow1, xs, hrow, hxl, hxs⟩ ih
    simp only at hk hG hF hrow1 hrow hxl hxs
    refine Safe.inLoop ?_
    by_cases hlt' : k < wid b
    · have hlt : ((k : Int) < (wid b : Int)) = True := eq_true (by omega)
      have hle : (k + 1) * b.length ≤ wid b * b.length := Nat.mul_le_mul_right _ hlt'
      rw [Nat.succ_mul] at hle
      have hiw : IntKind.wrap .i64 ((k : Int) + 1) = ((k + 1 : Nat) : Int) := by rw [a0e] <;> omega
      have hk0 : IntKind.wrap .i64 ((k : Int) * (b.length : Int)) = ((k * b.length : Nat) : Int) := by
        rw [← Int.natCast_mul, a0e] <;> omega
      have hk1 : IntKind.wrap .i64 (((k + 1 : Nat) : Int) * (b.length : Int)) = ((k * b.length + b.length : Nat) : Int) := by
        rw [← Int.natCast_mul, Nat.succ_mul, a0e] <;> omega
      refine Safe.rg rfl ?_
      simp only [a7z, hlt, E3, a0c, a0b, a0a, a0d, seval]
      refine Safe.cd rfl ?_
      simp only [E3, a0c, a0b, a0a, a0d, seval]
      refine Safe.rg rfl ?_
      simp only [b3V, E3, a0c, a0b, a0a, a0d, seval]
      refine Safe.rg rfl ?_
      simp only [b3U, E3, a0c, a0b, a0a, a0d, seval]
      refine Safe.lp rfl ?_
      refine Safe.keep [0, 4, 7, 8, 9, 24, 25, 28, 29] ?_
      simp only [E3, a0c, a0b, a0a, a0d, seval]
      refine Safe.loopW (fun a : Nat × Heap => b.length - a.1) (fun a => [(0, matV b), (4, .int .i64 b.length), (7, .mu (lid H 0) 0 (k * b.length + a.1) (some (b.length * wid b))), (8, .mu (lid H 1) 0 k none), (9, .int .i64 k), (24, .int .i64 (wid b)), (25, .int .i64 k), (28, .int .i64 b.length), (29, .int .i64 a.1)]) (fun a => a.2)
        (fun a => a.1 ≤ b.length ∧ Gw H a.2 ∧ Free a.2 (lid H 1) ∧ a.2[lid H 1]? = some (some ⟨1, a0p H b.length k⟩) ∧ ∃ xs, a.2[lid H 0]? = some (some ⟨2, xs⟩) ∧ xs.length = k * b.length + a.1 ∧ ∀ x ∈ xs, IntT H.length a.2 x)
        (0, G) rfl rfl ⟨Nat.zero_le _, hG, hF, hrow1, xs, hrow, hxl, hxs⟩ ?_
      clear hG hF hrow1 hrow hxl hxs
      rintro ⟨i, G⟩ ⟨hi, hG, hF, hrow1, xs, hrow, hxl, hxs⟩ ih2
      simp only at hi hG hF hrow1 hrow hxl hxs
      have hγ := a0f hrow1
      refine Safe.inLoop ?_
      by_cases hlt2' : i < b.length
      · have hlt2 : ((i : Int) < (b.length : Int)) = True := eq_true (by omega)
        have hjw : IntKind.wrap .i64 ((i : Int) + 1) = ((i + 1 : Nat) : Int) := by rw [a0e] <;> omega
        have hri := c1g hr hlt2'
        have hf := (b1T b[i][k] (((hb.get hlt2').get (by omega)).mono hp)).gr
        refine Safe.rg rfl ?_
        simp only [a5P, hlt2, E3, a0c, a0b, a0a, a0d, seval]
        refine Safe.cd rfl ?_
        simp only [E3, a0c, a0b, a0a, a0d, seval]
        refine Safe.rg rfl ?_
        simp only [b1l, E3, a0c, a0b, a0a, a0d, seval]
        rw [← a1C G]
        refine Safe.rg rfl ?_
        simp only [b1k, a1o _ b _ i hlt2', a0I _ b[i] _ k (by omega), E3, a0c, a0b, a0a, a0d, seval]
        rw [a1C]
        refine hf.acall (hG.refs hH) fun r L hT hO => ?_
        obtain ⟨hfit, hcel⟩ := hT.fit
        simp only [hfit, hcel, E3, a0c, a0b, a0a, a0d, seval]
        have hb3 : (hap G (L ++ [some ⟨2, [r]⟩]))[lid H 0]? = some (some ⟨2, xs⟩) := a0B hrow
        have hl3 : (hap G (L ++ [some ⟨2, [r]⟩]))[lid G L.length]? = some (some ⟨2, [r]⟩) := b1H _ _ _
        rw [c4v hb3 hxl (a0V H 0) hl3 (by omega)]
        simp only [E3, a0c, a0b, a0a, a0d, seval]
        refine Safe.rg rfl ?_
        simp only [b1j, hjw, E3, a0c, a0b, a0a, a0d, seval]
        refine Safe.keep [0, 4, 7, 8, 9, 24, 25, 28, 29] ?_
        simp only [E3, a0c, a0b, a0a, a0d, seval]
        have hrr : ∀ c ∈ r.cells, Ref (· ≠ lid H 1) c := fun c hc => (hT.cells c hc).ne hγ
        have hG2 := hG.own_app hO
        have hT2 : IntT H.length (hap G L) r := hT.low hG.len
        have hG3 : Gw H (hap (hap G L) [some ⟨2, [r]⟩]) := hG2.app fun b hb a ha => by
          have e : b = ⟨2, [r]⟩ := by simpa using hb
          subst e
          simp only [Blk.flat, List.flatMap_cons, List.flatMap_nil, List.append_nil] at ha
          exact (hT2.cells a ha).mono fun j hj => ⟨hj.1, by omega⟩
        have hF3 : Free (hap (hap G L) [some ⟨2, [r]⟩]) (lid H 1) := (hF.own hγ hO).app fun b hb a ha => by
          have e : b = ⟨2, [r]⟩ := by simpa using hb
          subst e
          simp only [Blk.flat, List.flatMap_cons, List.flatMap_nil, List.append_nil] at ha
          exact hrr a ha
        have hxs3 : ∀ x ∈ xs, IntT H.length (hap (hap G L) [some ⟨2, [r]⟩]) x := fun x hx => a0z.app _ (a0z.app _ (hxs x hx))
        have hT3 : IntT H.length (hap (hap G L) [some ⟨2, [r]⟩]) r := a0z.app _ hT2
        have hrow3 : (hap (hap G L) [some ⟨2, [r]⟩])[lid H 0]? = some (some ⟨2, xs⟩) := a0B (a0B hrow)
        have hrow13 : (hap (hap G L) [some ⟨2, [r]⟩])[lid H 1]? = some (some ⟨1, a0p H b.length k⟩) := a0B (a0B hrow1)
        rw [← a1V]
        refine ih2 (i + 1, _) ⟨by simp only; omega, hG3.set (a0V H 0) ?_, hF3.set ?_, ?_, xs ++ [r], ?_, by simp [hxl]; omega, ?_⟩ (by simp only; omega)
        · intro a ha
          simp only [Blk.flat, List.flatMap_append, List.mem_append, List.flatMap_cons, List.flatMap_nil, List.append_nil] at ha
          rcases ha with ha | ha
          · obtain ⟨x, hx, ha⟩ := List.mem_flatMap.1 ha
            exact (hxs3 x hx).cells a ha
          · exact hT3.cells a ha
        · intro a ha
          simp only [Blk.flat, List.flatMap_append, List.mem_append, List.flatMap_cons, List.flatMap_nil, List.append_nil] at ha
          rcases ha with ha | ha
          · exact hF (lid H 0) ⟨2, xs⟩ h01 hrow a ha
          · exact hrr a ha
        · exact (a1p (x := some ⟨2, xs ++ [r]⟩) (a0f hrow3)).trans ((if_neg h01).trans hrow13)
        · exact (a1p (x := some ⟨2, xs ++ [r]⟩) (a0f hrow3)).trans (if_pos rfl)
        · intro x hx
          rcases List.mem_append.1 hx with hx | hx
          · exact a0z.set hrow3 hxs3 (hxs3 x hx)
          · have e : x = r := by simpa using hx
            subst e
            exact a0z.set hrow3 hxs3 hT3
      · have hin : i = b.length := by omega
        subst hin
        refine Safe.rg rfl ?_
        simp only [a5P, Int.lt_irrefl, E3, a0c, a0b, a0a, a0d, seval]
        refine Safe.cd rfl ?_
        simp only [E3, a0c, a0b, a0a, a0d, seval]
        have hsub : k * b.length + b.length - k * b.length = b.length := by omega
        rw [← a1C G]
        have hslc := d3U (G := hap G []) (id := lid H 0) (wd := 2) (len := k * b.length + b.length) (oc := some (b.length * wid b)) (k := .i64) (k' := .i64) (k2 := .i64) (a0B hrow) (Nat.le_add_right (k * b.length) b.length) (Nat.le_refl _) (Nat.le_refl _)
        rw [hsub] at hslc
        have hb3 : (hap G [some ⟨1, [.mu (lid H 0) (k * b.length) b.length (some b.length)]⟩])[lid H 1]? = some (some ⟨1, a0p H b.length k⟩) := a0B hrow1
        have hl3 : (hap G [some ⟨1, [.mu (lid H 0) (k * b.length) b.length (some b.length)]⟩])[lid G 0]? = some (some ⟨1, [.mu (lid H 0) (k * b.length) b.length (some b.length)]⟩) := by simp [hap, lid]
        have hpr : ∀ a : AV, ∀ j n oc, a = .mu (lid H 0) j n oc → Ref (· ≠ lid H 1) a := fun a j n oc e => by subst e; exact .mu _ _ _ _ h01
        have hF3 : Free (hap G [some ⟨1, [.mu (lid H 0) (k * b.length) b.length (some b.length)]⟩]) (lid H 1) := hF.app fun c hc a ha => by
          have e : c = ⟨1, [.mu (lid H 0) (k * b.length) b.length (some b.length)]⟩ := by simpa using hc
          subst e
          simp only [Blk.flat, List.flatMap_cons, List.flatMap_nil, List.append_nil, AV.cells, List.mem_cons, List.not_mem_nil, or_false] at ha
          exact hpr a _ _ _ ha
        have happ := fun env => c4u (bytes := 24) (env := env) (n0 := H.length) hb3 (by simp [a0p]) (a0V H 1) hl3 hF3 (fun x hx c hc => by
          obtain ⟨j, _, rfl⟩ := b5a hx
          simp only [AV.cells, List.mem_cons, List.not_mem_nil, or_false] at hc
          exact hpr c _ _ _ hc) (fun c hc => by
          simp only [AV.cells, List.mem_cons, List.not_mem_nil, or_false] at hc
          exact hpr c _ _ _ hc) (show (k + 1) * 24 ≤ 140737488355328 by omega) (by omega)
        refine Safe.rg rfl ?_
        simp only [b1i, hk0, hiw, hk1, hslc, happ, ← b8E, E3, a0c, a0b, a0a, a0d, seval]
        refine Safe.rg rfl ?_
        simp only [b1h, hiw, E3, a0c, a0b, a0a, a0d, seval]
        refine Safe.keep [0, 4, 7, 8, 24, 25] ?_
        simp only [E3, a0c, a0b, a0a, a0d, seval]
        have hG3 : Gw H (hap G [some ⟨1, [.mu (lid H 0) (k * b.length) b.length (some b.length)]⟩]) := hG.app fun c hc a ha => by
          have e : c = ⟨1, [.mu (lid H 0) (k * b.length) b.length (some b.length)]⟩ := by simpa using hc
          subst e
          simp only [Blk.flat, List.flatMap_cons, List.flatMap_nil, List.append_nil, AV.cells, List.mem_cons, List.not_mem_nil, or_false] at ha
          subst ha
          exact .mu _ _ _ _ ⟨a0V H 0, by have := a0f hrow; omega⟩
        have hrow3 : (hap G [some ⟨1, [.mu (lid H 0) (k * b.length) b.length (some b.length)]⟩])[lid H 0]? = some (some ⟨2, xs⟩) := a0B hrow
        have hm0 : M0 H.length (hap G [some ⟨1, [.mu (lid H 0) (k * b.length) b.length (some b.length)]⟩]) ((hap G [some ⟨1, [.mu (lid H 0) (k * b.length) b.length (some b.length)]⟩]).set (lid H 1) (some ⟨1, a0p H b.length (k + 1)⟩)) := .set fun r hr0 k0 => by
          rw [hb3] at hr0; cases hr0
          have hx : (a0p H b.length k)[0]'k0.pos ∈ a0p H b.length k := List.getElem_mem _
          obtain ⟨z, e⟩ := k0.el _ hx
          obtain ⟨j, _, e2⟩ := b5a hx
          rw [e] at e2; cases e2
        have hnew : (k + 1) * b.length = k * b.length + b.length := Nat.succ_mul _ _
        rw [← hnew]
        refine ih (k + 1, _) ⟨by simp only; omega, hG3.set (a0V H 1) ?_, hF3.self _, ?_, xs, ?_, by simp only; omega, fun x hx => ((hxs x hx).mono (.app _)).mono hm0⟩ (by simp only; omega)
        · intro a ha
          rw [show (Blk.mk 1 (a0p H b.length (k + 1))).flat = _ from b2d H b.length (k + 1)] at ha
          obtain ⟨j, _, rfl⟩ := b5a ha
          exact .mu _ _ _ _ ⟨a0V H 0, a0f hrow3⟩
        · exact (a1p (x := some ⟨1, a0p H b.length (k + 1)⟩) (a0f hb3)).trans (if_pos rfl)
        · exact (a1p (x := some ⟨1, a0p H b.length (k + 1)⟩) (a0f hb3)).trans ((if_neg (Ne.symm h01)).trans hrow3)
    · have hin : k = wid b := by omega
      subst hin
      refine Safe.rg rfl ?_
      simp only [a7z, Int.lt_irrefl, E3, a0c, a0b, a0a, a0d, seval]
      refine Safe.cd rfl ?_
      simp only [E3, a0c, a0b, a0a, a0d, seval]
      refine Safe.keep [8] ?_
      simp only [E3, a0c, a0b, a0a, a0d, seval]
      refine Safe.rg rfl ?_
      simp only [b1g, E3, a0c, a0b, a0a, a0d, seval]
      refine Safe.rt rfl ?_
      simp only [E3, a0c, a0b, a0a, a0d, seval]
      obtain ⟨L, hL, hO⟩ := hG.out
      refine ⟨L, hL, ⟨_, rfl, .inr ⟨_, _, _, _, ⟨1, a0p H b.length (wid b)⟩, rfl, a0V H 1, hrow1, ⟨rfl, fun x hx => ?_⟩, by simp [a0p], hwl⟩⟩, hO⟩
      obtain ⟨j, hj, rfl⟩ := b5a hx
      have hle : (j + 1) * b.length ≤ wid b * b.length := Nat.mul_le_mul_right _ hj
      rw [Nat.succ_mul] at hle
      exact .inr ⟨_, _, _, _, ⟨2, xs⟩, rfl, a0V H 0, hrow, ⟨rfl, hxs⟩, by simp only; omega, hbl⟩
  · refine ⟨8, fun H hH => ?_⟩
    refine a0i.open b4b b4a (Nat.le_of_ble_eq_true rfl) fun hH => ?_
    refine Safe.rg rfl ?_
    simp only [a7C, E3, a0c, a0b, a0a, a0d, seval]
    refine Safe.rg rfl ?_
    simp only [a7B, E3, a0c, a0b, a0a, a0d, seval]
    first | refine (a1G b p hb hr).acall ?_ | refine (a1G b p hb hr).dcall ?_ | refine (a1G b p hb hr).dgcall ?_
    try simp only [E3, a0c, a0b, a0a, a0d, seval]
    refine Safe.rg rfl ?_
    simp only [a7A, b5g, E3, a0c, a0b, a0a, a0d, seval]
    refine Safe.cd rfl ?_
    simp only [E3, a0c, a0b, a0a, a0d, seval]
    refine Safe.rg rfl ?_
    simp only [b3Z, E3, a0c, a0b, a0a, a0d, seval]
    refine Safe.rt rfl ?_
    simp only [E3, a0c, a0b, a0a, a0d, seval]
    exact ⟨[], rfl, ⟨.nil, rfl, .inl rfl⟩, d1w _⟩
end Go.Abs
namespace Go.Abs
section
variable {A L : Heap} {id : Nat} {x : Option Blk}
theorem d3u (i : Nat) : lid (A.set id x) i = lid A i := by simp [lid]
theorem c7C (i : Nat) : hrow (hap (A.set id x) L) (lid A i) = (L[i]?).join := by rw [← d3u (id := id) (x := x), a1I]
end
theorem d2W {A L : Heap} {id i : Nat} {xs : List AV} {q : Int} {env : Env} (hid : id < A.length) (hi : i < xs.length) :
    a5d 1 (.loc id i 0) (.int .u32 q) env (hap (A.set id (some ⟨1, xs⟩)) L) = some (.top, env, hap (A.set id (some ⟨1, xs.set i (.int .u32 q)⟩)) L) := by
  rw [d3l hid env ⟨1, xs⟩ 1 i (.int .u32 q) hi rfl rfl (Nat.le_refl _), a6R]
noncomputable def spCx (A : Heap) : Cx := ⟨Pr, fun _ _ => false, a3v, 33, [], A.length⟩
def a8A (ys : List AV) : Prop := ∀ y ∈ ys, ∃ z : Int, y = .int .u32 z
theorem a8A.app {ys : List AV} (h : a8A ys) (z : Int) : a8A (ys ++ [.int .u32 z]) := fun y hy => by
  rcases List.mem_append.1 hy with hy | hy
  · exact h y hy
  · exact ⟨z, by simpa using hy⟩
theorem a8A.cl {ys : List AV} (h : a8A ys) {wd : Nat} : ∀ a ∈ (Blk.mk wd ys).flat, Cl a := fun a ha => by
  obtain ⟨y, hy, ha⟩ := List.mem_flatMap.1 ha
  obtain ⟨z, rfl⟩ := h y hy
  simp only [AV.cells, List.mem_cons, List.not_mem_nil, or_false] at ha
  subst ha
  exact .int _ _
theorem d3K {b : Bool} {m : AV} : ∀ (k : Nat) a c, (Blk.mk 2 [AV.agg [.bool b, m]]).flat[k]? = some a → (Blk.mk 2 [AV.agg [.bool b, .top]]).flat[k]? = some c → Le a c := fun k a c h1 h2 => by
  match k with
  | 0 => simp [Blk.flat, AV.cells] at h1 h2; subst h1; subst h2; exact Le.refl _
  | 1 => simp [Blk.flat, AV.cells] at h1 h2; subst h2; exact Le.top _
  | k + 2 => simp [Blk.flat, AV.cells] at h2
theorem c2t (a b : AV) (id off len : Nat) (oc : Option Nat) : upd (.agg [a, b]) 2 1 1 (.mu id off len oc) = .agg [a, .mu id off len oc] := by simp [upd, a1r, AV.cells]
/-- Limbs put behind those that are there. -/
theorem b8z {A B : Heap} (hB : a0S B) (hl : B.length = A.length) {b : Bool} (ys0 : List AV) (h0 : ys0.length ≤ 17592186044418) (hy0 : a8A ys0) : Safe (spCx A) [.inLoop a2E, .inBlock 2]
    [(1, .loc (lid B 0) 0 0), (3, .int .i64 (1 : Nat))] (hap B [some ⟨2, [.agg [.bool b, .mu (lid B 1) 0 ys0.length none]]⟩, some ⟨1, ys0⟩]) fun r' H' => r' = .tup [] ∧ ∃ L, H' = hap B L := by
  unfold spCx
  refine Safe.loopW (fun a : Nat × List AV => 9 - a.1) (fun a => [(1, .loc (lid B 0) 0 0), (3, .int .i64 a.1)]) (fun a => hap B [some ⟨2, [.agg [.bool b, .mu (lid B 1) 0 a.2.length none]]⟩, some ⟨1, a.2⟩])
    (fun a => a.1 ≤ 9 ∧ a.2.length + 9 ≤ ys0.length + 9 + a.1 ∧ a8A a.2) (1, ys0) rfl rfl ⟨by simp, by simp only; omega, hy0⟩ ?_
  rintro ⟨j, ys⟩ ⟨hj, hyl, hyc⟩ ih
  simp only at hj hyl hyc
  refine Safe.inLoop ?_
  by_cases hlt' : j < 9
  · have hlt : ((j : Int) < 9) = True := eq_true (by omega)
    have hiw : IntKind.wrap .i64 ((j : Int) + 1) = ((j + 1 : Nat) : Int) := by rw [a0e] <;> omega
    refine Safe.rg rfl ?_
    simp only [a1Q, hlt, E3, a0c, a0b, a0a, a0d, seval]
    refine Safe.cd rfl ?_
    simp only [E3, a0c, a0b, a0a, a0d, seval]
    refine Safe.rg2 [⟨some 25, none, .p (.fldp (.t 1) 1)⟩, ⟨some 26, none, .p (.load none (.t 25))⟩] (a1P.drop 2) rfl rfl ?_
    simp only [E3, a0c, a0b, a0a, a0d, seval]
    refine ⟨_, _, c8C 0 (b' := ⟨2, [.agg [.bool b, .top]]⟩) rfl rfl (fun y hy => by simp at hy; subst hy; rfl) rfl (fun h => by simp at h) d3K (Nat.zero_lt_succ 1), ?_⟩
    have happ := fun env z => a8s A.length env B [some ⟨2, [.agg [.bool b, .top]]⟩, some ⟨1, ys⟩] 1 4 false 1 ys.length none (.sl 1 [.int .u32 z]) ys [.int .u32 z] hB rfl rfl (by simp [lid]; omega) (a1L _ 1 _)
      (a8r (RC.one (.agg _ fun c hc => by simp at hc; rcases hc with rfl | rfl; exact .bool b; exact .top) (RC.cons hyc.cl RC.nil))) (fun a ha => by simp [AV.cells] at ha; subst ha; exact .int _ _) (by simp; omega) (by simp; omega) rfl
    simp only [a0Q, Option.bind_none, List.length_cons, List.length_nil, Nat.zero_add, List.set_cons_succ, List.set_cons_zero] at happ
    simp only [a1P, List.drop_succ_cons, List.drop_zero, happ, E3, a0c, a0b, a0a, a0d, seval]
    refine Safe.rg rfl ?_
    simp only [a2C, hiw, E3, a0c, a0b, a0a, a0d, seval]
    refine Safe.keep [1, 3] ?_
    simp only [c2t, E3, a0c, a0b, a0a, a0d, seval]
    have hn := ih (j + 1, ys ++ [.int .u32 (IntKind.wrap .u32 (IntKind.wrap .i64 (900 + (j : Int))))]) ⟨by simp only; omega, by simp; omega, hyc.app _⟩ (by simp only; omega)
    simp only [List.length_append, List.length_cons, List.length_nil, Nat.zero_add] at hn
    exact hn
  · have h9 : j = 9 := by omega
    subst h9
    refine Safe.rg rfl ?_
    simp only [a1Q, E3, a0c, a0b, a0a, a0d, seval]
    refine Safe.cd rfl ?_
    simp only [E3, a0c, a0b, a0a, a0d, seval]
    refine Safe.stl 5 _ (Safe.donen ?_)
    simp only [E3, a0c, a0b, a0a, a0d, seval]
    exact ⟨_, rfl⟩
theorem c6z {A B : Heap} (hB : a0S B) (hl : B.length = A.length) {b : Bool} : Safe (spCx A) [.inLoop a2E, .inBlock 2]
    [(1, .loc (lid B 0) 0 0), (3, .int .i64 0)] (hap B [some ⟨2, [.agg [.bool b, .nil]]⟩]) fun r' H' => r' = .tup [] ∧ ∃ L, H' = hap B L := by
  have ht := fun z => b8z (A := A) hB hl (b := b) [.int .u32 z] (by simp) (fun y hy => ⟨z, by simpa using hy⟩)
  unfold spCx at ht ⊢
  refine Safe.inLoop ?_
  refine Safe.rg rfl ?_
  simp only [a1Q, E3, a0c, a0b, a0a, a0d, seval]
  refine Safe.cd rfl ?_
  simp only [E3, a0c, a0b, a0a, a0d, seval]
  have happ := fun env z => c4w A.length env B [some ⟨2, [.agg [.bool b, .nil]]⟩] 1 4 false (.sl 1 [.int .u32 z]) [.int .u32 z] (a1L _ 1 _) (by decide) (by simp) (by simp)
  refine Safe.rg rfl ?_
  simp only [a1P, happ, E3, a0c, a0b, a0a, a0d, seval]
  refine Safe.rg rfl ?_
  simp only [a2C, E3, a0c, a0b, a0a, a0d, seval]
  refine Safe.keep [1, 3] ?_
  simp only [c2t, E3, a0c, a0b, a0a, a0d, seval]
  exact ht _
theorem c4Q {A B : Heap} (hB : a0S B) (hl : B.length = A.length) {b : Bool} {id : Nat} {xs : List AV} (h : B[id]? = some (some ⟨1, xs⟩)) (hx : a8A xs) (h0 : xs.length ≤ 17592186044416) : Safe (spCx A) [.inLoop a2E, .inBlock 2]
    [(1, .loc (lid B 0) 0 0), (3, .int .i64 0)] (hap B [some ⟨2, [.agg [.bool b, .mu id 0 xs.length (some xs.length)]]⟩]) fun r' H' => r' = .tup [] ∧ ∃ L, H' = hap B L := by
  have ht := fun z => b8z (A := A) hB hl (b := b) (xs ++ [.int .u32 z]) (by simp; omega) (hx.app z)
  have hid := a0f h
  unfold spCx at ht ⊢
  refine Safe.inLoop ?_
  refine Safe.rg rfl ?_
  simp only [a1Q, E3, a0c, a0b, a0a, a0d, seval]
  refine Safe.cd rfl ?_
  simp only [E3, a0c, a0b, a0a, a0d, seval]
  have happ := fun env z => d2L (n0 := A.length) (bytes := 4) (env := env) (G := hap B [some ⟨2, [.agg [.bool b, .mu id 0 xs.length (some xs.length)]]⟩]) (y := .sl 1 [.int .u32 z]) (ys := [.int .u32 z]) (a0B h) rfl (by omega) (a1L _ 1 _) (by simp) (by simp; omega) (by simp; omega)
  refine Safe.rg rfl ?_
  simp only [a1P, happ, E3, a0c, a0b, a0a, a0d, seval]
  refine Safe.rg rfl ?_
  simp only [a2C, E3, a0c, a0b, a0a, a0d, seval]
  refine Safe.keep [1, 3] ?_
  simp only [c2t, E3, a0c, a0b, a0a, a0d, seval]
  have hn := ht (IntKind.wrap .u32 900)
  simp only [List.length_append, List.length_cons, List.length_nil, Nat.zero_add] at hn
  exact hn
theorem a0S.limbs {A : Heap} (hA : a0S A) (id : Nat) {xs : List AV} (hx : a8A xs) : a0S (A.set id (some ⟨1, xs⟩)) := hA.set id fun a ha => (hx.cl a ha).ref
theorem c6A (n0 : Nat) (A : Heap) {a : AV} (ha : IntT n0 A a) : a0i Pr a3v [a] A fun r' A' => r' = .tup [] ∧ Sp n0 A A' := by
  obtain ⟨b, m, rfl, hm⟩ := ha
  rcases hm with rfl | ⟨id, r, rfl, h0, h1, h2⟩
  · refine a0i.eff a9b a9a (Nat.le_of_ble_eq_true rfl) fun hA => ?_
    have ht := c6z (A := A) hA rfl (b := b)
    unfold spCx at ht
    refine Safe.rg rfl ?_
    simp only [a4X, E3, a0c, a0b, a0a, a0d, seval]
    refine Safe.rg rfl ?_
    simp only [a4W, E3, a0c, a0b, a0a, a0d, seval]
    refine Safe.lp rfl (Safe.inLoop ?_)
    refine Safe.rg rfl ?_
    simp only [a2D, E3, a0c, a0b, a0a, a0d, seval]
    refine Safe.cd rfl ?_
    simp only [E3, a0c, a0b, a0a, a0d, seval]
    refine Safe.rg rfl ?_
    simp only [a4V, E3, a0c, a0b, a0a, a0d, seval]
    refine Safe.lp rfl ?_
    refine Safe.keep [1, 3] ?_
    simp only [E3, a0c, a0b, a0a, a0d, seval]
    refine ht.mono ?_
    rintro r' H' ⟨rfl, L, rfl⟩
    exact ⟨A, L, rfl, rfl, hA, .tup _ (by simp), rfl, Sp.refl hA⟩
  · have hid := a0f h1
    refine a0i.eff a9b a9a (Nat.le_of_ble_eq_true rfl) fun hA => ?_
    refine Safe.rg rfl ?_
    simp only [a4X, E3, a0c, a0b, a0a, a0d, seval]
    refine Safe.rg rfl ?_
    simp only [a4W, E3, a0c, a0b, a0a, a0d, seval]
    refine Safe.lp rfl ?_
    refine Safe.keep [1, 2] ?_
    simp only [E3, a0c, a0b, a0a, a0d, seval]
    have hset := c8K h1
    refine Safe.loopW (fun a : Nat × List AV => r.xs.length - a.1) (fun a => [(1, .loc (lid A 0) 0 0), (2, .int .i64 a.1)]) (fun a => hap (A.set id (some ⟨1, a.2⟩)) [some ⟨2, [.agg [.bool b, .mu id 0 r.xs.length (some r.xs.length)]]⟩])
      (fun a => a.1 ≤ r.xs.length ∧ a.2.length = r.xs.length ∧ a8A a.2) (0, r.xs) rfl (by rw [show (⟨1, r.xs⟩ : Blk) = r by have := h2.wd; cases r; simp at this; subst this; rfl, hset]) ⟨Nat.zero_le _, rfl, h2.el⟩ ?_
    rintro ⟨i, xs⟩ ⟨hi, hxl, hx⟩ ih
    simp only at hi hxl hx
    refine Safe.inLoop ?_
    have hrl := h2.len
    by_cases hlt' : i < r.xs.length
    · have hlt : ((i : Int) < (r.xs.length : Int)) = True := eq_true (by omega)
      have hiw : IntKind.wrap .i64 ((i : Int) + 1) = ((i + 1 : Nat) : Int) := by rw [a0e] <;> omega
      have hxi : ∃ z : Int, xs.getD i .top = .int .u32 z := by
        rw [List.getD_eq_getElem?_getD, List.getElem?_eq_getElem (by omega)]
        exact hx _ (List.getElem_mem _)
      obtain ⟨z, hz⟩ := hxi
      refine Safe.rg rfl ?_
      simp only [a2D, c7C, c6U hid, hlt, E3, a0c, a0b, a0a, a0d, seval]
      refine Safe.cd rfl ?_
      simp only [E3, a0c, a0b, a0a, a0d, seval]
      refine Safe.rg rfl ?_
      simp only [a8Z, c7C, d1z hid 1 xs 0 r.xs.length i _ _ hlt', d3m hid ⟨1, xs⟩ i (by simp only; omega), hz, fun q env => d2W (L := [some ⟨2, [.agg [.bool b, .mu id 0 r.xs.length (some r.xs.length)]]⟩]) (q := q) (env := env) hid (show i < xs.length by omega), E3, a0c, a0b, a0a, a0d, seval]
      refine Safe.rg rfl ?_
      simp only [a8Y, hiw, E3, a0c, a0b, a0a, a0d, seval]
      refine Safe.keep [1, 2] ?_
      simp only [E3, a0c, a0b, a0a, a0d, seval]
      refine ih (i + 1, xs.set i (.int .u32 _)) ⟨by simp only; omega, by simp [hxl], fun y hy => ?_⟩ (by simp only; omega)
      rcases List.mem_or_eq_of_mem_set hy with hy | rfl
      · exact hx y hy
      · exact ⟨_, rfl⟩
    · have hlt : ((i : Int) < (r.xs.length : Int)) = False := eq_false (by omega)
      refine Safe.rg rfl ?_
      simp only [a2D, c7C, c6U hid, hlt, E3, a0c, a0b, a0a, a0d, seval]
      refine Safe.cd rfl ?_
      simp only [E3, a0c, a0b, a0a, a0d, seval]
      refine Safe.rg rfl ?_
      simp only [a4V, E3, a0c, a0b, a0a, a0d, seval]
      refine Safe.lp rfl ?_
      refine Safe.keep [1, 3] ?_
      simp only [E3, a0c, a0b, a0a, a0d, seval]
      have hB := hA.limbs id hx
      have hBl : (A.set id (some ⟨1, xs⟩)).length = A.length := List.length_set
      have hrow : (A.set id (some ⟨1, xs⟩))[id]? = some (some ⟨1, xs⟩) := by rw [a1p hid, if_pos rfl]
      have ht := c4Q (A := A) hB hBl (b := b) hrow hx (by omega)
      unfold spCx at ht
      rw [hxl, d3u] at ht
      refine ht.mono ?_
      rintro r' H' ⟨rfl, L, rfl⟩
      have hk0 : K0 ⟨1, xs⟩ := ⟨rfl, by have := h2.pos; simp only; omega, by simp only; omega, hx⟩
      obtain ⟨s0, s1, s2⟩ := c8I (n0 := n0) h1 h2 hk0 hxl
      exact ⟨_, L, rfl, hBl, hB, .tup _ (by simp), rfl, s0, s1, s2, hBl, hB, fun j hj => by rw [a1p hid, if_neg (by omega)]⟩
theorem a8m (n0 : Nat) (A : Heap) {v : AV} (hv : VecT n0 A v) : a0i Pr a1m [v] A fun r' A' => r' = .tup [] ∧ Sp n0 A A' := by
  rcases hv with rfl | ⟨β, off, l, oc, r, rfl, h0, h1, h2, h3, h4⟩
  · refine a0i.open a7O a7N (Nat.le_of_ble_eq_true rfl) fun hH => ?_
    refine Safe.rg rfl ?_
    simp only [a3L, E3, a0c, a0b, a0a, a0d, seval]
    refine Safe.lp rfl (Safe.inLoop ?_)
    refine Safe.rg rfl ?_
    simp only [a2o, E3, a0c, a0b, a0a, a0d, seval]
    refine Safe.cd rfl ?_
    simp only [E3, a0c, a0b, a0a, a0d, seval]
    refine Safe.stl 5 _ (Safe.donen ?_)
    simp only [E3, a0c, a0b, a0a, a0d, seval]
    rw [a1C]
    exact Sp.refl hH
  · refine a0i.open a7O a7N (Nat.le_of_ble_eq_true rfl) fun hH => ?_
    refine Safe.rg rfl ?_
    simp only [a3L, E3, a0c, a0b, a0a, a0d, seval]
    refine Safe.lp rfl ?_
    refine Safe.keep [0, 2] ?_
    simp only [E3, a0c, a0b, a0a, a0d, seval]
    refine Safe.loopW (fun a : Nat × Heap => l - a.1) (fun a => [(0, .mu β off l oc), (2, .int .i64 a.1)]) (fun a => a.2)
      (fun a => a.1 ≤ l ∧ Sp n0 A a.2) (0, A) rfl (a1C A) ⟨Nat.zero_le _, Sp.refl hH⟩ ?_
    rintro ⟨i, G⟩ ⟨hi, hsp⟩ ih
    simp only at hi hsp
    obtain ⟨r', g1, g2, g3⟩ := hsp.m1 β r h0 h1 h2
    have hrow : hrow G β = some r' := by simp [Go.Abs.hrow, g1]
    refine Safe.inLoop ?_
    by_cases hlt' : i < l
    · have hlt : ((i : Int) < (l : Int)) = True := eq_true (by omega)
      have hiw : IntKind.wrap .i64 ((i : Int) + 1) = ((i + 1 : Nat) : Int) := by rw [a0e] <;> omega
      have hlen : off + i < r'.xs.length := by omega
      obtain ⟨b, m, hel, hm⟩ := g2.el _ (List.getElem_mem (l := r'.xs) (n := off + i) hlen)
      have hget : r'.xs.getD (off + i) .top = .agg [.bool b, m] := by
        rw [List.getD_eq_getElem?_getD, List.getElem?_eq_getElem hlen]; exact hel
      have hix : idxV G 2 (.mu β off l oc) (.int .i64 i) = some (.loc β (off + i) 0) := by
        rw [b7G _ _ _ _ _ _ _ _ (by omega) (by omega), hrow]
        simp [g2.wd]
      have hat : atV G (.loc β (off + i) 0) = some [.bool b, m] := by
        rw [b7T, hrow]; simp [hlen, hel, AV.cells]
      refine Safe.rg rfl ?_
      simp only [a2o, b2u, hrow, hlt, E3, a0c, a0b, a0a, a0d, seval]
      refine Safe.cd rfl ?_
      simp only [E3, a0c, a0b, a0a, a0d, seval]
      refine Safe.rg rfl ?_
      simp only [a7M, hix, hat, E3, a0c, a0b, a0a, a0d, seval]
      refine (c6A n0 G ⟨b, m, rfl, hm⟩).mono ?_
      rintro r2 G2 ⟨rfl, hsp2⟩
      obtain ⟨r3, k1, k2, k3⟩ := hsp2.m1 β r' h0 g1 g2
      have hrow3 : Go.Abs.hrow G2 β = some r3 := by simp [Go.Abs.hrow, k1]
      have hlen3 : off + i < r3.xs.length := by omega
      have hix3 : idxV G2 2 (.mu β off l oc) (.int .i64 i) = some (.loc β (off + i) 0) := by
        rw [b7G _ _ _ _ _ _ _ _ (by omega) (by omega), hrow3]
        simp [k2.wd]
      have hst : ∀ env, a5d 2 (.loc β (off + i) 0) (.agg [.bool true, .nil]) env G2 = some (.top, env, G2.set β (some ⟨2, r3.xs.set (off + i) (.agg [.bool true, .nil])⟩)) := fun env => by
        simp only [a5d, hrow3, Option.bind_some, k2.wd]
        rw [if_pos ⟨hlen3, rfl, rfl, Nat.le_refl _⟩, a6R]
      simp only [E3, a0c, a0b, a0a, a0d, seval]
      refine Safe.rg rfl ?_
      simp only [a7L, hix3, hst, E3, a0c, a0b, a0a, a0d, seval]
      refine Safe.rg rfl ?_
      simp only [a7K, hiw, E3, a0c, a0b, a0a, a0d, seval]
      refine Safe.keep [0, 2] ?_
      simp only [E3, a0c, a0b, a0a, a0d, seval]
      have hnew : IntT n0 G2 (.agg [.bool true, .nil]) := ⟨true, .nil, rfl, .inl rfl⟩
      obtain ⟨s0, s1, s2⟩ := d2X (n0 := n0) (i := off + i) k1 k2 hnew
      refine ih (i + 1, _) ⟨by simp only; omega, hsp.trans (hsp2.trans ⟨s0, s1, s2, List.length_set, hsp2.refs.set β fun a ha => ?_, fun j hj => by rw [a1p (a0f k1), if_neg (by omega)]⟩)⟩ (by simp only; omega)
      obtain ⟨x, hx, ha⟩ := List.mem_flatMap.1 ha
      rcases List.mem_or_eq_of_mem_set hx with hx | rfl
      · exact ((k2.el x hx).cells a ha).mono fun j hj => hj.2
      · simp only [AV.cells, List.mem_cons, List.not_mem_nil, or_false] at ha
        rcases ha with rfl | rfl
        · exact .bool _
        · exact .nil
    · have hlt : ((i : Int) < (l : Int)) = False := eq_false (by omega)
      refine Safe.rg rfl ?_
      simp only [a2o, b2u, hrow, hlt, E3, a0c, a0b, a0a, a0d, seval]
      refine Safe.cd rfl ?_
      simp only [E3, a0c, a0b, a0a, a0d, seval]
      refine Safe.stl 5 _ (Safe.donen ?_)
      simp only [E3, a0c, a0b, a0a, a0d, seval]
      exact hsp
theorem b1X (n0 : Nat) (A : Heap) {v : AV} (hv : MatT n0 A v) : a0i Pr a1S [v] A fun r' A' => r' = .tup [] ∧ Sp n0 A A' := by
  rcases hv with rfl | ⟨β, off, l, oc, r, rfl, h0, h1, h2, h3, h4⟩
  · refine a0i.open a7S a7R (Nat.le_of_ble_eq_true rfl) fun hH => ?_
    refine Safe.rg rfl ?_
    simp only [a3M, E3, a0c, a0b, a0a, a0d, seval]
    refine Safe.lp rfl (Safe.inLoop ?_)
    refine Safe.rg rfl ?_
    simp only [a2p, E3, a0c, a0b, a0a, a0d, seval]
    refine Safe.cd rfl ?_
    simp only [E3, a0c, a0b, a0a, a0d, seval]
    refine Safe.stl 5 _ (Safe.donen ?_)
    simp only [E3, a0c, a0b, a0a, a0d, seval]
    rw [a1C]
    exact Sp.refl hH
  · refine a0i.open a7S a7R (Nat.le_of_ble_eq_true rfl) fun hH => ?_
    refine Safe.rg rfl ?_
    simp only [a3M, E3, a0c, a0b, a0a, a0d, seval]
    refine Safe.lp rfl ?_
    refine Safe.keep [0, 2] ?_
    simp only [E3, a0c, a0b, a0a, a0d, seval]
    refine Safe.loopW (fun a : Nat × Heap => l - a.1) (fun a => [(0, .mu β off l oc), (2, .int .i64 a.1)]) (fun a => a.2)
      (fun a => a.1 ≤ l ∧ Sp n0 A a.2) (0, A) rfl (a1C A) ⟨Nat.zero_le _, Sp.refl hH⟩ ?_
    rintro ⟨i, G⟩ ⟨hi, hsp⟩ ih
    simp only at hi hsp
    obtain ⟨r', g1, g2, g3⟩ := hsp.m2 β r h0 h1 h2
    have hrow : hrow G β = some r' := by simp [Go.Abs.hrow, g1]
    refine Safe.inLoop ?_
    by_cases hlt' : i < l
    · have hlt : ((i : Int) < (l : Int)) = True := eq_true (by omega)
      have hiw : IntKind.wrap .i64 ((i : Int) + 1) = ((i + 1 : Nat) : Int) := by rw [a0e] <;> omega
      have hlen : off + i < r'.xs.length := by omega
      have hvt := g2.el _ (List.getElem_mem (l := r'.xs) (n := off + i) hlen)
      have hcells : (r'.xs[off + i]).cells = [r'.xs[off + i]] := by rcases hvt with h | ⟨_, _, _, _, _, h, _⟩ <;> rw [h] <;> rfl
      have hix : idxV G 1 (.mu β off l oc) (.int .i64 i) = some (.loc β (off + i) 0) := by
        rw [b7G _ _ _ _ _ _ _ _ (by omega) (by omega), hrow]
        simp [g2.wd]
      have hat : atV G (.loc β (off + i) 0) = some [r'.xs[off + i]] := by
        rw [b7T, hrow]; simp [hlen, hcells]
      refine Safe.rg rfl ?_
      simp only [a2p, b2u, hrow, hlt, E3, a0c, a0b, a0a, a0d, seval]
      refine Safe.cd rfl ?_
      simp only [E3, a0c, a0b, a0a, a0d, seval]
      refine Safe.rg rfl ?_
      simp only [a7Q, hix, hat, E3, a0c, a0b, a0a, a0d, seval]
      refine (a8m n0 G hvt).mono ?_
      rintro r2 G2 ⟨rfl, hsp2⟩
      simp only [E3, a0c, a0b, a0a, a0d, seval]
      refine Safe.rg rfl ?_
      simp only [a7P, hiw, E3, a0c, a0b, a0a, a0d, seval]
      refine Safe.keep [0, 2] ?_
      simp only [E3, a0c, a0b, a0a, a0d, seval]
      exact ih (i + 1, _) ⟨by simp only; omega, hsp.trans hsp2⟩ (by simp only; omega)
    · have hlt : ((i : Int) < (l : Int)) = False := eq_false (by omega)
      refine Safe.rg rfl ?_
      simp only [a2p, b2u, hrow, hlt, E3, a0c, a0b, a0a, a0d, seval]
      refine Safe.cd rfl ?_
      simp only [E3, a0c, a0b, a0a, a0d, seval]
      refine Safe.stl 5 _ (Safe.donen ?_)
      simp only [E3, a0c, a0b, a0a, a0d, seval]
      exact hsp
end Go.Abs
namespace Go.Abs
theorem d1K {H G : Heap} (hl : H.length ≤ G.length) (h : ∀ id, id < H.length → G[id]? = H[id]?) : ∃ L, G = hap H L := by
  refine ⟨G.drop H.length, ?_⟩
  apply List.ext_getElem?
  intro j
  unfold hap
  rcases Nat.lt_or_ge j H.length with hj | hj
  · rw [List.getElem?_append_left hj, h j hj]
  · rw [List.getElem?_append_right hj, List.getElem?_drop]; congr 1; omega
theorem c8B (b : List (List ZI)) (hb : Mok 1048576 b) : ∃ (u : List (List ZI)) (e : Int), Mok 17592186044416 u ∧ a0g Pr a2e [matV b] (.tup [matV u, .int .i64 e]) ∧ a0g Pr a2M [matV b] (.tup [matV u, .int .i64 e]) := by
  by_cases hr : Rect b
  · exact ⟨_, _, (d0X hb).mono (by omega), c6p b _ hb (by omega) hr, c4V b _ hb (by omega) hr⟩
  · exact ⟨_, _, d1I _, c8A b _ hb hr, c6J b _ hb hr⟩
theorem b8d (b : List (List ZI)) (v : List ZI) (hb : Mok 1048576 b) (hv : Vok 1048576 v) : a0g Pr a5q [matV b, vecV v] (.bool true) := by
  have hb' := hb.mono (show 1048576 ≤ 17592186044416 by omega)
  have hv' := hv.mono (show 1048576 ≤ 17592186044416 by omega)
  obtain ⟨et, htn⟩ := c6q b 1048576 hb (by omega)
  obtain ⟨eg, hgr⟩ := c7E b 1048576 hb (by omega)
  obtain ⟨u, eu, hu, ht1, ht2⟩ := c8B b hb
  have htm := c2S (canZ 1) v 1 1048576 (a6C (by decide)) hv (by omega)
  rw [b2D] at htm
  refine a0g.intro b1F b1E (Nat.le_of_ble_eq_true rfl) (.bool _) fun H hH => ?_
  refine Safe.rg rfl ?_
  simp only [a4E, E3, a0c, a0b, a0a, a0d, seval]
  refine Safe.rg rfl ?_
  simp only [a4D, E3, a0c, a0b, a0a, a0d, seval]
  first | refine (b2I).acall ?_ | refine (b2I).dcall ?_ | refine (b2I).dgcall ?_
  try simp only [E3, a0c, a0b, a0a, a0d, seval]
  refine Safe.cd rfl ?_
  simp only [E3, a0c, a0b, a0a, a0d, seval]
  refine Safe.rg rfl ?_
  simp only [a4C, E3, a0c, a0b, a0a, a0d, seval]
  first | refine (b5R b hb').acall ?_ | refine (b5R b hb').dcall ?_ | refine (b5R b hb').dgcall ?_
  try simp only [E3, a0c, a0b, a0a, a0d, seval]
  first | refine (b0U v hv').acall ?_ | refine (b0U v hv').dcall ?_ | refine (b0U v hv').dgcall ?_
  try simp only [E3, a0c, a0b, a0a, a0d, seval]
  refine Safe.rg rfl ?_
  simp only [a4B, E3, a0c, a0b, a0a, a0d, seval]
  rw [a1C]
  refine (c5w b hb').acall hH fun f L1 hf ho => ?_
  have hG1 := (Gw.refl H).own_app ho
  clear ho
  generalize hap H L1 = G1 at *
  simp only [E3, a0c, a0b, a0a, a0d, seval]
  refine Safe.rg rfl ?_
  simp only [a4A, E3, a0c, a0b, a0a, a0d, seval]
  refine htn.acall (hG1.refs hH) fun r L2 hT ho => ?_
  obtain ⟨t, rfl, ht⟩ := hT
  have hG2 := hG1.own_app ho
  replace ht := MatT.low hG1.len ht
  replace hf : MatT H.length (hap G1 L2) f := hf.mono (.app _)
  clear ho hG1
  generalize hap G1 L2 = G2 at *
  simp only [E3, a0c, a0b, a0a, a0d, seval]
  refine Safe.rg rfl ?_
  simp only [a4z, E3, a0c, a0b, a0a, a0d, seval]
  refine hgr.acall (hG2.refs hH) fun r L3 hT ho => ?_
  obtain ⟨g, rfl, hg⟩ := hT
  have hG3 := hG2.own_app ho
  replace hg := MatT.low hG2.len hg
  replace hf : MatT H.length (hap G2 L3) f := hf.mono (.app _)
  replace ht : MatT H.length (hap G2 L3) t := ht.mono (.app _)
  clear ho hG2
  generalize hap G2 L3 = G3 at *
  simp only [E3, a0c, a0b, a0a, a0d, seval]
  refine Safe.rg rfl ?_
  simp only [a4y, E3, a0c, a0b, a0a, a0d, seval]
  refine (b9V v hv').acall (hG3.refs hH) fun w L4 hw ho => ?_
  have hG4 := hG3.own_app ho
  replace hw := VecT.low hG3.len hw
  replace hf : MatT H.length (hap G3 L4) f := hf.mono (.app _)
  replace ht : MatT H.length (hap G3 L4) t := ht.mono (.app _)
  replace hg : MatT H.length (hap G3 L4) g := hg.mono (.app _)
  clear ho hG3
  generalize hap G3 L4 = G4 at *
  simp only [E3, a0c, a0b, a0a, a0d, seval]
  refine Safe.rg rfl ?_
  simp only [a4x, E3, a0c, a0b, a0a, a0d, seval]
  first | refine (a8j 1 (by decide) (by decide)).acall ?_ | refine (a8j 1 (by decide) (by decide)).dcall ?_ | refine (a8j 1 (by decide) (by decide)).dgcall ?_
  try simp only [E3, a0c, a0b, a0a, a0d, seval]
  refine htm.acall (hG4.refs hH) fun k L5 hk ho => ?_
  have hG5 := hG4.own_app ho
  replace hk := VecT.low hG4.len hk
  replace hf : MatT H.length (hap G4 L5) f := hf.mono (.app _)
  replace ht : MatT H.length (hap G4 L5) t := ht.mono (.app _)
  replace hg : MatT H.length (hap G4 L5) g := hg.mono (.app _)
  replace hw : VecT H.length (hap G4 L5) w := hw.mono (.app _)
  clear ho hG4
  generalize hap G4 L5 = G5 at *
  simp only [E3, a0c, a0b, a0a, a0d, seval]
  refine Safe.rg rfl ?_
  simp only [a4w, E3, a0c, a0b, a0a, a0d, seval]
  refine (c6O v v 1048576 hv hv (by omega) rfl).acall (hG5.refs hH) fun r L6 hT ho => ?_
  obtain ⟨p, rfl, hp⟩ := hT
  have hG6 := hG5.own_app ho
  replace hp := VecT.low hG5.len hp
  replace hf : MatT H.length (hap G5 L6) f := hf.mono (.app _)
  replace ht : MatT H.length (hap G5 L6) t := ht.mono (.app _)
  replace hg : MatT H.length (hap G5 L6) g := hg.mono (.app _)
  replace hw : VecT H.length (hap G5 L6) w := hw.mono (.app _)
  replace hk : VecT H.length (hap G5 L6) k := hk.mono (.app _)
  clear ho hG5
  generalize hap G5 L6 = G6 at *
  simp only [E3, a0c, a0b, a0a, a0d, seval]
  refine Safe.rg rfl ?_
  simp only [a3V, E3, a0c, a0b, a0a, a0d, seval]
  refine (b1X H.length G6 hf).mono ?_
  rintro _ G7 ⟨rfl, s7⟩
  simp only [E3, a0c, a0b, a0a, a0d, seval]
  refine Safe.rg rfl ?_
  simp only [a3U, E3, a0c, a0b, a0a, a0d, seval]
  refine (b1X H.length G7 (ht.mono s7.m2)).mono ?_
  rintro _ G8 ⟨rfl, s8⟩
  replace s8 := s7.trans s8
  simp only [E3, a0c, a0b, a0a, a0d, seval]
  refine Safe.rg rfl ?_
  simp only [a3T, E3, a0c, a0b, a0a, a0d, seval]
  refine (b1X H.length G8 (hg.mono s8.m2)).mono ?_
  rintro _ G9 ⟨rfl, s9⟩
  replace s9 := s8.trans s9
  simp only [E3, a0c, a0b, a0a, a0d, seval]
  refine Safe.rg rfl ?_
  simp only [a3S, E3, a0c, a0b, a0a, a0d, seval]
  refine (a8m H.length G9 (hw.mono s9.m1)).mono ?_
  rintro _ G10 ⟨rfl, s10⟩
  replace s10 := s9.trans s10
  simp only [E3, a0c, a0b, a0a, a0d, seval]
  refine Safe.rg rfl ?_
  simp only [a3R, E3, a0c, a0b, a0a, a0d, seval]
  refine (a8m H.length G10 (hk.mono s10.m1)).mono ?_
  rintro _ G11 ⟨rfl, s11⟩
  replace s11 := s10.trans s11
  simp only [E3, a0c, a0b, a0a, a0d, seval]
  refine Safe.rg rfl ?_
  simp only [a3Q, E3, a0c, a0b, a0a, a0d, seval]
  refine (a8m H.length G11 (hp.mono s11.m1)).mono ?_
  rintro _ G12 ⟨rfl, s12⟩
  replace s12 := s11.trans s12
  simp only [E3, a0c, a0b, a0a, a0d, seval]
  refine Safe.keep [0, 1, 5, 6] ?_
  simp only [E3, a0c, a0b, a0a, a0d, seval]
  refine Safe.rg rfl ?_
  simp only [a3P, E3, a0c, a0b, a0a, a0d, seval]
  first | refine (ht1).acall ?_ | refine (ht1).dcall ?_ | refine (ht1).dgcall ?_
  try simp only [E3, a0c, a0b, a0a, a0d, seval]
  refine Safe.rg rfl ?_
  simp only [a3O, E3, a0c, a0b, a0a, a0d, seval]
  first | refine (ht2).acall ?_ | refine (ht2).dcall ?_ | refine (ht2).dgcall ?_
  try simp only [E3, a0c, a0b, a0a, a0d, seval]
  refine Safe.rg rfl ?_
  simp only [a3N, E3, a0c, a0b, a0a, a0d, seval]
  first | refine (a3s b hb').acall ?_ | refine (a3s b hb').dcall ?_ | refine (a3s b hb').dgcall ?_
  try simp only [E3, a0c, a0b, a0a, a0d, seval]
  first | refine (a3r v hv').acall ?_ | refine (a3r v hv').dcall ?_ | refine (a3r v hv').dgcall ?_
  try simp only [E3, a0c, a0b, a0a, a0d, seval]
  first | refine (a3s u hu).acall ?_ | refine (a3s u hu).dcall ?_ | refine (a3s u hu).dgcall ?_
  try simp only [E3, a0c, a0b, a0a, a0d, seval]
  first | refine (a5L v hv').acall ?_ | refine (a5L v hv').dcall ?_ | refine (a5L v hv').dgcall ?_
  try simp only [E3, a0c, a0b, a0a, a0d, seval]
  first | refine (a5u v (hv.mono (by omega))).acall ?_ | refine (a5u v (hv.mono (by omega))).dcall ?_ | refine (a5u v (hv.mono (by omega))).dgcall ?_
  try simp only [E3, a0c, a0b, a0a, a0d, seval]
  first | refine (a3r _ (c6g hv')).acall ?_ | refine (a3r _ (c6g hv')).dcall ?_ | refine (a3r _ (c6g hv')).dgcall ?_
  try simp only [E3, a0c, a0b, a0a, a0d, seval]
  first | refine (b2m b hb').acall ?_ | refine (b2m b hb').dcall ?_ | refine (b2m b hb').dgcall ?_
  try simp only [E3, a0c, a0b, a0a, a0d, seval]
  first | refine (b2b b (hb.mono (by omega))).acall ?_ | refine (b2b b (hb.mono (by omega))).dcall ?_ | refine (b2b b (hb.mono (by omega))).dgcall ?_
  try simp only [E3, a0c, a0b, a0a, a0d, seval]
  first | refine (a3s _ (b9X hb')).acall ?_ | refine (a3s _ (b9X hb')).dcall ?_ | refine (a3s _ (b9X hb')).dgcall ?_
  try simp only [E3, a0c, a0b, a0a, a0d, seval]
  refine Safe.rt rfl ?_
  simp only [E3, a0c, a0b, a0a, a0d, seval]
  exact d1K (by rw [s12.len]; exact hG6.len) fun id hi => by rw [s12.low id hi, hG6.low id hi]
end Go.Abs
namespace Go.Abs
open Go.ChangeShapes Go.WideShapes
open Go.Proofs.Ytociambfknibkaa.Rows (uptoBulk uptoBulkAll)
section
variable {K : Type} {enc : TypeId × Value → K} {P : Program} {w : World} {base : Nat} {sp : Nat → Bool} {held : Bool}
theorem d0g (d : DataW K) : 1 ≤ uptoBulk d := by
  cases d with
  | lit l => cases l <;> simp [uptoBulk]
  | nil => simp [uptoBulk]
  | ptr d => simp [uptoBulk]
  | slice elems spare => simp [uptoBulk]
  | agg a0p => simp [uptoBulk]
  | iface t d => simp [uptoBulk]
  | map entries => simp [uptoBulk]
  | held h => simp [uptoBulk]
theorem c0x {d : DataW K} : ∀ {l : List (DataW K)}, d ∈ l → uptoBulk d ≤ uptoBulkAll l
  | [], h => by cases h
  | x :: r, h => by
    simp only [uptoBulkAll]
    rcases List.mem_cons.1 h with e | e
    · subst e; omega
    · have := c0x e; omega
theorem c4o : ∀ (l : List (DataW K)), l.length ≤ uptoBulkAll l
  | [] => by simp [uptoBulkAll]
  | x :: r => by have := d0g x; have := c4o r; simp only [uptoBulkAll, List.length_cons]; omega
theorem b2E (es rs : List (DataW K)) : uptoBulkAll es + 1 ≤ uptoBulk (.slice es rs) := by simp only [uptoBulk]; omega
theorem b5E {α : Type} (W : α → Nat) : ∀ (ds : List (DataW K)) (xs : List α), xs.length = ds.length → (∀ (i : Nat) a, xs[i]? = some a → W a ≤ uptoBulk (ds.getD i .nil)) → (xs.map W).sum ≤ uptoBulkAll ds
  | [], [], _, _ => by simp
  | d :: ds, x :: xs, h, hw => by
    have h1 := hw 0 x rfl
    have h2 := b5E W ds xs (by simpa using h) fun i a ha => by have := hw (i + 1) a (by simpa using ha); simpa using this
    simp only [List.map_cons, List.sum_cons, uptoBulkAll]
    simp at h1
    omega
  | [], _ :: _, h, _ => by simp at h
  | _ :: _, [], h, _ => by simp at h
theorem c2i (a : Addr) (m j : Nat) : (a.add m).add j = a.add (m + j) := by
  unfold Addr.add
  by_cases hm : m = 0 <;> by_cases hj : j = 0 <;> simp [hm, hj, Nat.add_assoc]
/-- No row is the call's own yet. -/
theorem c6W {φ : Nat → Option Nat} {b : Nat} : ¬ (Emb.mk φ [] w).Mut b := by
  rintro ⟨id, blk, h, _⟩; simp at h
theorem d1O (φ : Nat → Option Nat) (w : World) : HOk ⟨φ, [], w⟩ := ⟨fun id b _ h => by simp at h, fun id b h => by simp at h, fun id b _ h => by simp at h, fun id b h => by simp at h, fun i j b c _ h => by simp at h⟩
/-- A value read xs0 data d stands for the tree a. -/
structure Stands (w : World) (cs : List Value) (a : AV) : Prop where
  one : ∀ c ∈ cs, c.oneCell' = true
  len : cs.length = a.cells.length
  rep : ∀ (φ : Nat → Option Nat) (k : Nat) v c, cs[k]? = some v → a.cells[k]? = some c → Rep ⟨φ, [], w⟩ v c
/-- A slice whose elements' readings stand for trees. -/
theorem c2E {α : Type} (f : α → AV) (good : α → DataW K → Prop) {t e : TypeId} (wd : Nat) (ht : P.underlying t = some (.slice e)) (hc : P.cellsOf e = wd) (hpos : 0 < wd) (hf : ∀ a, (f a).cells.length = wd) (hcl : ∀ a, Cl (f a))
    (hel : ∀ m cs y, DataW.trod enc P w base sp held m e cs = some y → cs.length = wd → ∃ a, good a y.1 ∧ Stands w cs (f a))
    {fuel : Nat} {cs : List Value} {x : DataW K × List MemPlace} (h : DataW.trod enc P w base sp held fuel t cs = some x) :
    ∃ xs0 : List α, Stands w cs (.sl wd (xs0.map f)) ∧ xs0.length ≤ uptoBulk x.1 ∧ (∀ a ∈ xs0, ∃ d : DataW K, good a d ∧ uptoBulk d ≤ uptoBulk x.1) ∧ ∀ W : α → Nat, (∀ a d, good a d → W a ≤ uptoBulk d) → (xs0.map W).sum + 1 ≤ uptoBulk x.1 := by
  rcases DataW.trod_slice ht h with ⟨rfl, rfl⟩ | ⟨ad, len, cap, elems, rest, n, rfl, rfl, rfl, hb, hl, hm, hlen, hget, _, _⟩
  · refine ⟨[], ⟨by simp [Value.oneCell'], rfl, ?_⟩, Nat.zero_le _, by simp, fun W _ => by simp [uptoBulk]⟩
    intro φ k v c hv hc'
    match k with
    | 0 => cases hv; cases hc'; exact b8C wd hpos .nil
    | k + 1 => simp at hv
  · -- each element
    have each : ∀ i, i < len → ∃ a cs', good a ((elems.map (·.1)).getD i .nil) ∧ Stands w cs' (f a) ∧ cs'.length = wd ∧ ∀ j, j < wd → w.cell? (ad.add (i * wd + j)) = cs'[j]? := by
      intro i hi
      have h1 := hget i hi
      have hy : elems[i]? = some (elems[i]'(by omega)) := List.getElem?_eq_getElem (by omega)
      rw [hy, Option.bind_eq_some_iff] at h1
      obtain ⟨cs', h2, h3⟩ := h1
      rw [hc] at h2
      obtain ⟨_, hl2, hcell⟩ := World.cells?_some h2
      obtain ⟨a, g1, g2⟩ := hel n cs' _ h3 hl2
      refine ⟨a, cs', ?_, g2, hl2, fun j hj => ?_⟩
      · rw [List.getD_eq_getElem?_getD, List.getElem?_map, hy]; exact g1
      · have := hcell j hj
        rw [← this]
        rw [c2i]
    -- the list
    have all : ∀ m, m ≤ len → ∃ (xs0 : List α) (vs : List Value), xs0.length = m ∧ vs.length = m * wd ∧ (∀ (i : Nat) a, xs0[i]? = some a → good a ((elems.map (·.1)).getD i .nil)) ∧
        (∀ (k : Nat) v, vs[k]? = some v → w.cell? (ad.add k) = some v ∧ v.oneCell' = true) ∧ (∀ (φ : Nat → Option Nat) (k : Nat) v c, vs[k]? = some v → ((xs0.map f).flatMap AV.cells)[k]? = some c → Rep ⟨φ, [], w⟩ v c) := by
      intro m
      induction m with
      | zero => exact fun _ => ⟨[], [], rfl, by simp, by simp, by simp, by simp⟩
      | succ m ih =>
        intro hm'
        obtain ⟨xs0, vs, q1, q2, q3, q4, q5⟩ := ih (by omega)
        obtain ⟨a, cs', r1, r2, r3, r4⟩ := each m (by omega)
        have hfl : ((xs0.map f).flatMap AV.cells).length = m * wd := by
          rw [a1h (wd := wd) (by intro y hy; obtain ⟨z, _, rfl⟩ := List.mem_map.1 hy; exact hf z), List.length_map, q1]
        refine ⟨xs0 ++ [a], vs ++ cs', by simp [q1], by simp [q2, r3, Nat.add_mul], ?_, ?_, ?_⟩
        · intro i b hb'
          rcases Nat.lt_or_ge i m with hi | hi
          · rw [List.getElem?_append_left (by omega)] at hb'; exact q3 i b hb'
          · have hi' := a0h hb'
            simp at hi'
            have : i = m := by omega
            subst this
            rw [List.getElem?_append_right (by omega)] at hb'
            simp [q1] at hb'
            subst hb'; exact r1
        · intro k v hv
          rcases Nat.lt_or_ge k (m * wd) with hk | hk
          · rw [List.getElem?_append_left (by omega)] at hv; exact q4 k v hv
          · rw [List.getElem?_append_right (by omega), q2] at hv
            have hk2 := a0h hv
            refine ⟨?_, r2.one v (List.mem_of_getElem? hv)⟩
            have := r4 (k - m * wd) (by omega)
            rw [hv] at this
            rw [← this]; congr 2; omega
        · intro φ k v c hv hc'
          rw [List.map_append, List.flatMap_append] at hc'
          rcases Nat.lt_or_ge k (m * wd) with hk | hk
          · rw [List.getElem?_append_left (by omega)] at hv
            rw [List.getElem?_append_left (by omega)] at hc'
            exact q5 φ k v c hv hc'
          · rw [List.getElem?_append_right (by omega), q2] at hv
            rw [List.getElem?_append_right (by omega), hfl] at hc'
            simp at hc'
            exact r2.rep φ (k - m * wd) v c hv hc'
    obtain ⟨xs0, vs, q1, q2, q3, q4, q5⟩ := all len (Nat.le_refl _)
    have hw : ∀ y ∈ xs0.map f, y.cells.length = wd := by intro y hy; obtain ⟨z, _, rfl⟩ := List.mem_map.1 hy; exact hf z
    have hcl' : ∀ c ∈ (xs0.map f).flatMap AV.cells, Cl c := by
      intro c hc'
      obtain ⟨y, hy, hc'⟩ := List.mem_flatMap.1 hc'
      obtain ⟨z, _, rfl⟩ := List.mem_map.1 hy
      exact a2w (hcl z) c hc'
    refine ⟨xs0, ⟨by simp [Value.oneCell'], rfl, ?_⟩, ?_, ?_, ?_⟩
    · intro φ k v c hv hc'
      match k with
      | 0 =>
        cases hv; cases hc'
        have hlen' : len = (xs0.map f).length := by rw [List.length_map, q1]
        rw [hlen']
        rcases Nat.eq_zero_or_pos len with h0 | h0
        · have : xs0 = [] := List.length_eq_zero_iff.1 (by omega)
          subst this
          exact .sl _ cap wd [] [] 0 0 (Nat.zero_le _) hpos (by simp) (by simp) (.inl rfl) rfl (by simp) (by simp)
        · have hv0 : vs[0]? = some (vs[0]'(by rw [q2]; exact Nat.mul_pos h0 hpos)) := List.getElem?_eq_getElem _
          have hspot : ad.spot = none := by
            have h00 := (q4 0 _ hv0).1
            rw [show ad.add 0 = ad by simp [Addr.add]] at h00
            exact World.cell?_spot h00
          obtain ⟨b, o, s⟩ := ad
          simp only at hspot
          subst hspot
          exact .sl (some ⟨b, o, none⟩) cap wd (xs0.map f) vs b o (by rw [List.length_map, q1]; exact hl) hpos hw hcl' (.inr ⟨rfl, c6W⟩) (by rw [a1h hw, List.length_map, q1, q2])
            (fun k v hk => by have := q4 k v hk; rw [Go.WideShapes.add_plain] at this; exact this) (fun k v c hk hc2 => q5 φ k v c hk hc2)
      | k + 1 => simp at hv
    · have h1 := c4o (elems.map (·.1))
      have h2 := b2E (elems.map (·.1)) (rest.map (·.1))
      rw [List.length_map] at h1
      show xs0.length ≤ uptoBulk (.slice (elems.map (·.1)) (rest.map (·.1)))
      omega
    · intro a ha
      obtain ⟨i, hi, rfl⟩ := List.getElem_of_mem ha
      refine ⟨_, q3 i _ (List.getElem?_eq_getElem hi), ?_⟩
      have hm' : (elems.map (·.1)).getD i .nil ∈ elems.map (·.1) := by
        have : i < (elems.map (·.1)).length := by rw [List.length_map]; omega
        rw [List.getD_eq_getElem?_getD, List.getElem?_eq_getElem this]; exact List.getElem_mem this
      have h1 := c0x hm'
      have h2 := b2E (elems.map (·.1)) (rest.map (·.1))
      show uptoBulk _ ≤ uptoBulk (.slice (elems.map (·.1)) (rest.map (·.1)))
      omega
    · intro W hW
      have h1 : (xs0.map W).sum ≤ uptoBulkAll (elems.map (·.1)) := b5E W (elems.map (·.1)) xs0 (by rw [List.length_map]; omega) fun i a ha => hW a _ (q3 i a ha)
      have h2 := b2E (elems.map (·.1)) (rest.map (·.1))
      show (xs0.map W).sum + 1 ≤ uptoBulk (.slice (elems.map (·.1)) (rest.map (·.1)))
      omega
/-- Limbs. -/
theorem c9a {t e : TypeId} (ht : P.underlying t = some (.slice e)) (he : P.underlying e = some (.int .u32)) (hc : P.cellsOf e = 1) {fuel : Nat} {cs : List Value} {x : DataW K × List MemPlace} (h : DataW.trod enc P w base sp held fuel t cs = some x) :
    ∃ l : List Nat, Stands w cs (natV l) ∧ Lim l ∧ l.length ≤ uptoBulk x.1 := by
  obtain ⟨xs0, q1, q2, q3, _⟩ := c2E (enc := enc) (P := P) (w := w) (base := base) (sp := sp) (held := held) (fun n : Nat => .int .u32 (n : Int)) (fun n (_ : DataW K) => n < LB) 1 ht hc (by decide) (fun _ => rfl) (fun _ => .int _ _) (by
    intro m cs y hy hl
    obtain ⟨n, rfl, hx, hwf⟩ := DataW.trod_int he hy
    have hb := bounds_u32 hwf
    refine ⟨n.toNat, by show n.toNat < 4294967296; omega, by simp [Value.oneCell'], rfl, ?_⟩
    intro φ k v c hv hc'
    match k with
    | 0 =>
      cases hv; cases hc'
      have : (n.toNat : Int) = n := by omega
      rw [this]; exact .int _ _
    | k + 1 => simp at hv) h
  exact ⟨xs0, q1, fun d hd => (q3 d hd).choose_spec.1, q2⟩
/-- A whole number. -/
theorem open_z {t tb tm e : TypeId} {fs : Array Field} {f0 f1 : Field} (ht : P.underlying t = some (.struct fs)) (hfs : fs.toList = [f0, f1]) (h0 : f0.type = tb ∧ f0.offset = 0) (h1 : f1.type = tm ∧ f1.offset = 1) (hb : P.underlying tb = some .bool) (hbc : P.cellsOf tb = 1) (hmc : P.cellsOf tm = 1)
    (hm : P.underlying tm = some (.slice e)) (he : P.underlying e = some (.int .u32)) (hc : P.cellsOf e = 1) {fuel : Nat} {cs : List Value} {x : DataW K × List MemPlace} (h : DataW.trod enc P w base sp held fuel t cs = some x) (hl2 : cs.length = 2) :
    ∃ z : ZI, Stands w cs z.av ∧ Zok (uptoBulk x.1) z := by
  obtain ⟨xs, n, rfl, rfl, hl, hxs, hget⟩ := DataW.trod_struct ht h
  have hf0 : fs[0]? = some f0 := by rw [← Array.getElem?_toList, hfs]; rfl
  have hf1 : fs[1]? = some f1 := by rw [← Array.getElem?_toList, hfs]; rfl
  have hsz : fs.size = 2 := by rw [← Array.length_toList, hfs]; rfl
  have g0 := hget 0 f0 hf0
  have g1 := hget 1 f1 hf1
  rw [h0.1, h0.2, hbc] at g0
  rw [h1.1, h1.2, hmc] at g1
  obtain ⟨c0, c1, rfl⟩ : ∃ c0 c1, cs = [c0, c1] := by
    match cs, hl2 with
    | [a, b], _ => exact ⟨a, b, rfl⟩
  have e0 : xs[0]? = some (xs[0]'(by omega)) := List.getElem?_eq_getElem (by omega)
  have e1 : xs[1]? = some (xs[1]'(by omega)) := List.getElem?_eq_getElem (by omega)
  rw [e0] at g0
  rw [e1] at g1
  simp only [List.drop_zero, List.take_succ_cons, List.take_zero, List.drop_succ_cons] at g0 g1
  obtain ⟨b, hb1, _⟩ := DataW.trod_bool hb g0
  obtain ⟨l, q1, q2, q3⟩ := c9a hm he hc g1
  simp only [List.cons.injEq, and_true] at hb1
  subst hb1
  refine ⟨⟨b, l⟩, ⟨?_, rfl, ?_⟩, q2, ?_⟩
  · intro c hc'
    simp only [List.mem_cons, List.not_mem_nil, or_false] at hc'
    rcases hc' with rfl | rfl
    · rfl
    · exact q1.one _ (by simp)
  · intro φ k v c hv hc'
    match k with
    | 0 => cases hv; cases hc'; exact .bool b
    | 1 => cases hv; cases hc'; exact q1.rep φ 0 _ _ rfl rfl
    | k + 2 => simp at hv
  · have hm1 : (xs[1]'(by omega)).1 ∈ xs.map (·.1) := List.mem_map.2 ⟨_, List.getElem_mem _, rfl⟩
    have := c0x hm1
    show l.length ≤ uptoBulk (.agg (xs.map (·.1)))
    simp only [uptoBulk]
    omega
/-- The types of numbers, vectors, matrices in a program. -/
structure Types (P : Program) (tm tv tz tb tn te : TypeId) : Prop where
  mat : P.underlying tm = some (.slice tv)
  vec : P.underlying tv = some (.slice tz)
  num : ∃ fs f0 f1, P.underlying tz = some (.struct fs) ∧ fs.toList = [f0, f1] ∧ (f0.type = tb ∧ f0.offset = 0) ∧ (f1.type = tn ∧ f1.offset = 1)
  bool : P.underlying tb = some .bool
  nat : P.underlying tn = some (.slice te)
  u32 : P.underlying te = some (.int .u32)
  cv : P.cellsOf tv = 1
  cz : P.cellsOf tz = 2
  cb : P.cellsOf tb = 1
  cn : P.cellsOf tn = 1
  ce : P.cellsOf te = 1
variable {tm tv tz tb tn te : TypeId}
theorem Types.open_z (T : Types P tm tv tz tb tn te) {fuel : Nat} {cs : List Value} {x : DataW K × List MemPlace} (h : DataW.trod enc P w base sp held fuel tz cs = some x) (hl2 : cs.length = 2) : ∃ z : ZI, Stands w cs z.av ∧ Zok (uptoBulk x.1) z := by
  obtain ⟨fs, f0, f1, h1, h2, h3, h4⟩ := T.num
  exact Abs.open_z h1 h2 h3 h4 T.bool T.cb T.cn T.nat T.u32 T.ce h hl2
theorem Types.open_vec (T : Types P tm tv tz tb tn te) {fuel : Nat} {cs : List Value} {x : DataW K × List MemPlace} (h : DataW.trod enc P w base sp held fuel tv cs = some x) : ∃ v : List ZI, Stands w cs (vecV v) ∧ v.length ≤ uptoBulk x.1 ∧ (∀ z ∈ v, Zok (uptoBulk x.1) z) ∧ (v.map fun z => z.mag.length).sum ≤ uptoBulk x.1 := by
  obtain ⟨xs0, q1, q2, q3, q4⟩ := c2E (enc := enc) (P := P) (w := w) (base := base) (sp := sp) (held := held) ZI.av (fun z (d : DataW K) => Zok (uptoBulk d) z) 2 T.vec T.cz (by decide) (fun _ => rfl) ZI.cl (by
    intro m cs y hy hl
    obtain ⟨z, r1, r2⟩ := T.open_z hy hl
    exact ⟨z, r2, r1⟩) h
  exact ⟨xs0, q1, q2, fun z hz => (by obtain ⟨d, h1, h2⟩ := q3 z hz; exact h1.mono h2), by have := q4 (fun z => z.mag.length) (fun z d h => h.len); omega⟩
theorem Types.open_mat (T : Types P tm tv tz tb tn te) {fuel : Nat} {cs : List Value} {x : DataW K × List MemPlace} (h : DataW.trod enc P w base sp held fuel tm cs = some x) : ∃ b : List (List ZI), Stands w cs (matV b) ∧ b.length ≤ uptoBulk x.1 ∧ (∀ v ∈ b, v.length ≤ uptoBulk x.1 ∧ ∀ z ∈ v, Zok (uptoBulk x.1) z) ∧ (b.map fun v => v.length).sum ≤ uptoBulk x.1 ∧ (b.map fun v => (v.map fun z => z.mag.length).sum).sum ≤ uptoBulk x.1 := by
  obtain ⟨xs0, q1, q2, q3, q4⟩ := c2E (enc := enc) (P := P) (w := w) (base := base) (sp := sp) (held := held) vecV (fun v (d : DataW K) => v.length ≤ uptoBulk d ∧ (∀ z ∈ v, Zok (uptoBulk d) z) ∧ (v.map fun z => z.mag.length).sum ≤ uptoBulk d) 1 T.mat T.cv (by decide) (fun _ => rfl) a0n (by
    intro m cs y hy hl
    obtain ⟨v, r1, r2, r3, r4⟩ := T.open_vec hy
    exact ⟨v, ⟨r2, r3, r4⟩, r1⟩) h
  refine ⟨xs0, q1, q2, fun v hv => ?_, by have := q4 (fun v => v.length) (fun v d h => h.1); omega, by have := q4 (fun v => (v.map fun z => z.mag.length).sum) (fun v d h => h.2.2); omega⟩
  obtain ⟨d, h1, h2⟩ := q3 v hv
  exact ⟨Nat.le_trans h1.1 h2, fun z hz => (h1.2.1 z hz).mono h2⟩
/-- A value of one cell. -/
theorem Stands.rep1 {v : Value} {a : AV} (h : Stands w [v] a) (ha : a.cells = [a]) (φ : Nat → Option Nat) : Rep ⟨φ, [], w⟩ v a := h.rep φ 0 v a rfl (by rw [ha]; rfl)
end
end Go.Abs
namespace Go.Abs
open Go.ChangeShapes Go.WideShapes Go.RowKit
/-- A law's walk: it answers, and below the old end nothing turns. -/
theorem c7s {P : Program} {f : FuncId} {ss : List AV} {r : Bool} (hp : a0g P f ss (.bool r)) {args : Array Value} {W : World} (hl : args.size = ss.length) (hr : ∀ (k : Nat) v a, args.toList[k]? = some v → ss[k]? = some a → Rep ⟨fun _ => none, [], W⟩ v a) :
    Calls P f args W fun e W' => e = .returned (.bool r) ∧ Below W.heap.size W W' := by
  have h := (hp []).2 (fun _ => none) W args.toList (d1O _ _) (by simpa using hl) hr
  rw [Array.toArray_toList] at h
  refine h.mono ?_
  rintro e w' ⟨v, r', φ', H', rfl, ⟨rfl, rfl⟩, q1, q2, q3, q4⟩
  refine ⟨by rw [a1z q2], q4.os, q4.tape, q4.output, q4.size, fun k hk => q4.keep k hk c6W⟩
theorem Below.trodAll {K : Type} {enc : TypeId × Value → K} {P : Program} (hl : laidOutB P = true) {W W' : World} (hb : Below W.heap.size W W') : ∀ {ts : List TypeId} {vs : List Value} {ds : List (DataW K)} {ps : List MemPlace}, (ts.all fun t => P.readableRec t && decide (t < P.types.size)) = true →
    DataW.TrodAll enc P W 0 (fun _ => true) true ts vs ds ps → (∀ x ∈ ps, x.block < W.heap.size) → DataW.TrodAll enc P W' 0 (fun b => decide (b < W.heap.size)) true ts vs ds ps
  | [], [], [], _, _, h, _ => h
  | t :: ts, v :: vs, d :: ds, _, hts, ⟨p, q, h1, h2, e⟩, hlt => by
    simp only [List.all_cons, Bool.and_eq_true, decide_eq_true_eq] at hts
    exact ⟨p, q, Go.RowKit.Below.trod hl hts.1.1 hts.1.2 h1 hb (fun x hx => hlt x (by rw [e]; exact List.mem_append_left _ hx)), Below.trodAll hl hb (by simpa using hts.2) h2 (fun x hx => hlt x (by rw [e]; exact List.mem_append_right _ hx)), e⟩
  | [], _ :: _, _, _, _, h, _ => by simp [DataW.TrodAll] at h
  | [], [], _ :: _, _, _, h, _ => by simp [DataW.TrodAll] at h
  | _ :: _, [], _, _, _, h, _ => by simp [DataW.TrodAll] at h
  | _ :: _, _ :: _, [], _, _, h, _ => by simp [DataW.TrodAll] at h
theorem b7Q {P : Program} {W : World} {base : Nat} {t e : TypeId} {v : Value} (ht : P.underlying t = some (.slice e)) (h : Value.okWide P W .any base t v) : v.cells.toList = [v] := by
  cases v <;> first | rfl | (exfalso; simp [Value.okWide, Cell.okWide, Cell.ok, ht] at h)
theorem d0A {v : List ZI} {n : Nat} (hl : v.length ≤ n) (he : ∀ z ∈ v, Zok n z) (hn : n ≤ 1048576) : Vok 1048576 v := ⟨by omega, fun z hz => (he z hz).mono hn⟩
theorem d3q {b : List (List ZI)} {n : Nat} (hl : b.length ≤ n) (he : ∀ v ∈ b, v.length ≤ n ∧ ∀ z ∈ v, Zok n z) (hn : n ≤ 1048576) : Mok 1048576 b := ⟨by omega, fun v hv => d0A (he v hv).1 (he v hv).2 hn⟩
/-- A law's promise: it answers true; what was handed in reads aXs it did. -/
theorem c8R {K : Type} {enc : TypeId × Value → K} {P : Program} {f : Func} {s : ChangeSpec} {fresh handsOn : Bool} {W W' : World} {args : Array Value} {ds gs : List (DataW K)} {before : List MemPlace} {tb : TypeId}
    (hW : DataW.Whole enc P f.params.toList s.vars false W args.toList ds gs before) (hv : s.vars = []) (hfn : s.fn K ds = { results := [.lit (.bool true)], args := ds }) (ht : f.resultTypes = #[tb]) (htb : P.underlying tb = some .bool)
    (hl : laidOutB P = true) (hts : (f.params.toList.all fun t => P.readableRec t && decide (t < P.types.size)) = true) (hb : Below W.heap.size W W') :
    s.post enc P f false fresh handsOn false W args (.bool true) W' := by
  have hW0 := hW
  obtain ⟨p, q, hA, hV, rfl, hz, hn⟩ := hW
  rw [hv] at hV
  obtain ⟨rfl, rfl⟩ := trodVars_none hV
  have hlt : ∀ x ∈ p, x.block < W.heap.size := fun x hx => by simpa using hW0.lt x (by simpa using hx)
  have hA' := Below.trodAll (enc := enc) hl hb hts hA hlt
  refine ⟨ds, [], p ++ [], [], p, [], hW0, ?_, ?_, ?_, ?_, by simp⟩
  · rw [List.append_nil, hfn, ht]
    exact trodAll_cons_mk (shut_bool htb true) trodAll_mk0
  · rw [List.append_nil, hfn]; exact hA'
  · rw [List.append_nil, hfn, hv]; rfl
  · refine ⟨hb.os, hb.output, fun i hi => ?_⟩
    have := (World.keptBut_refl W (fun x => x ∈ p ++ [] ∧ (x ∈ [] ∨ x ∈ p ∨ x ∈ []))).2.2 i hi
    rw [hb.block i hi]
    exact this
end Go.Abs
namespace Go.Abs
open Go.ChangeShapes Go.WideShapes Go.RowKit
open Go.Proofs.Ytociambfknibkaa.Rows (uptoBulk uptoBulkAll)
section
variable {K : Type} {enc : TypeId × Value → K} {P : Program} {w : World} {base : Nat} {sp : Nat → Bool} {held : Bool} {tm tv tz tb tn te : TypeId} {v : Value} {fuel : Nat} {x : DataW K × List MemPlace} {b1 : Nat}
theorem Types.arg_mat (T : Types P tm tv tz tb tn te) (hok : Value.okWide P w .any b1 tm v) (h : DataW.trod enc P w base sp held fuel tm v.cells.toList = some x) (hb : uptoBulk x.1 ≤ 1048576) : ∃ b, Mok 1048576 b ∧ ∀ φ, Rep ⟨φ, [], w⟩ v (matV b) := by
  obtain ⟨b, s, l, e, _⟩ := T.open_mat h
  rw [b7Q T.mat hok] at s
  exact ⟨b, d3q l e hb, fun φ => s.rep1 rfl φ⟩
theorem Types.arg_vec (T : Types P tm tv tz tb tn te) (hok : Value.okWide P w .any b1 tv v) (h : DataW.trod enc P w base sp held fuel tv v.cells.toList = some x) (hb : uptoBulk x.1 ≤ 1048576) : ∃ b, Vok 1048576 b ∧ ∀ φ, Rep ⟨φ, [], w⟩ v (vecV b) := by
  obtain ⟨b, s, l, e, _⟩ := T.open_vec h
  rw [b7Q T.vec hok] at s
  exact ⟨b, d0A l e hb, fun φ => s.rep1 rfl φ⟩
end
end Go.Abs

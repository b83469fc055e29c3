/- Part 8 of the proof of ElimGoes: W48, W50, W51, W52, W53, W54, W55, O1, O2, O3. -/
import Derived.Test.YtkljokmnimblnaaElimGoesK7
import Derived.Test.YtkljokmnimblnaaRows
import Derived.OpenShut
import Derived.ChangeArms
import Derived.Carry
import Derived.WalkKit
import Derived.ProofKit
import Derived.JoinedCond
set_option linter.unusedVariables false
set_option linter.unusedSimpArgs false
namespace Go.Abs
def mapL (cs : List Nat) (t : Nat) : List (Int × Int) := (List.range t).map fun j => (((cs.getD j 0 : Nat) : Int), (j : Int))
theorem d3o (cs : List Nat) (t : Nat) : mapL cs (t + 1) = mapL cs t ++ [(((cs.getD t 0 : Nat) : Int), (t : Int))] := by
  simp [mapL, List.range_succ]
theorem c8X (cs : List Nat) (t : Nat) : (mapL cs t).length = t := by simp [mapL]
theorem d6u {cs : List Nat} {t j : Nat} {p : Int × Int} (h : (mapL cs t)[j]? = some p) : j < t ∧ p = (((cs.getD j 0 : Nat) : Int), (j : Int)) := by
  have hj : j < t := by have := a0e h; rwa [c8X] at this
  refine ⟨hj, ?_⟩
  simp [mapL, List.getElem?_map, List.getElem?_range hj] at h
  exact h.symm
theorem d6p {cs : List Nat} (hinj : InjL cs) {t : Nat} (ht : t < cs.length) : mget (mapL cs t) ((cs.getD t 0 : Nat) : Int) = none := by
  refine c5x fun p hp => ?_
  simp only [mapL, List.mem_map, List.mem_range] at hp
  obtain ⟨j, hj, rfl⟩ := hp
  intro h
  have := hinj t j ht (by omega) (by have h' : ((cs.getD t 0 : Nat) : Int) = ((cs.getD j 0 : Nat) : Int) := h; omega)
  omega
theorem d3k {cs : List Nat} {f : Nat} (h : hpos cs f = none) : mget (mapL cs cs.length) (f : Int) = none := by
  refine c5x fun p hp => ?_
  simp only [mapL, List.mem_map, List.mem_range] at hp
  obtain ⟨j, hj, rfl⟩ := hp
  intro h2
  have h' : ((f : Nat) : Int) = ((cs.getD j 0 : Nat) : Int) := h2
  exact a6V h hj (by omega)
theorem d3j {cs : List Nat} {f i : Nat} (h : hpos cs f = some i) : (mget (mapL cs cs.length) (f : Int)).isSome = true := by
  obtain ⟨h1, h2⟩ := a4j h
  refine d3i ⟨(((cs.getD i 0 : Nat) : Int), (i : Int)), ?_, ?_⟩
  · simp only [mapL, List.mem_map, List.mem_range]; exact ⟨i, h1, rfl⟩
  · rw [h2]
def a3B (cs : List Nat) (n : Nat) (X : (Nat → Bool) → Nat → Nat → Int) (t : Nat) : List (List ZI) := (a1b cs t).map fun f => vec n (X yesP f)
theorem d1O (cs : List Nat) (n : Nat) (X : (Nat → Bool) → Nat → Nat → Int) (t : Nat) : (a3B cs n X t).length ≤ t := by
  rw [a3B, List.length_map]; exact b3C cs t
theorem c4J {cs : List Nat} {n : Nat} {X : (Nat → Bool) → Nat → Nat → Int} {t : Nat} (h : hpos cs t = none) : a3B cs n X (t + 1) = a3B cs n X t ++ [vec n (X yesP t)] := by
  rw [a3B, c2P h, List.map_append]; rfl
theorem d5d {cs : List Nat} {n : Nat} {X : (Nat → Bool) → Nat → Nat → Int} {t i : Nat} (h : hpos cs t = some i) : a3B cs n X (t + 1) = a3B cs n X t := by
  rw [a3B, c5U h]; rfl
section
variable (b : List (List ZI)) {e : Nat} (hm : Mok e b)
include hm
theorem c5i (h0 : elE b ≠ 0) : a0f Pr a8h [matV b] (.tup [matV [], .int .i64 (elE b)]) := by
  have hask := a1w b hm
  unfold askT at hask
  rw [if_neg h0] at hask
  have h0' : (elE b = 0) = False := eq_false h0
  refine a0f.introL b7c b7b (Nat.le_of_ble_eq_true rfl) (a6F (a9o _) (.int _ _)) fun H hH => ?_
  refine Safe.rg rfl ?_
  simp only [a9L, E3, seval]
  refine Safe.rg rfl ?_
  simp only [a9K, E3, seval]
  first | refine (hask).acall ?_ | refine (hask).dcall ?_
  try simp only [E3, seval]
  refine Safe.rg rfl ?_
  simp only [a9J, h0', E3, seval]
  refine Safe.cd rfl ?_
  simp only [E3, seval]
  refine Safe.rg rfl ?_
  simp only [b7a, E3, seval]
  refine Safe.rt rfl ?_
  simp only [E3, seval]
  exact ⟨Le.tup2 (Le.nil 1 (by decide)) (Le.refl _), _, rfl⟩
theorem d5H (hK : 65 * (KB e + 2) < 10000000000) (h0 : elE b = 0) : a0f Pr a8h [matV b] (.tup [matV (a1G (a0G (wid b) b.length (Bm (a0k b))) (a1h (wid b) b.length (Bm (a0k b))) b.length), .int .i64 0]) := by
  obtain ⟨hn, hw, hr, hrows⟩ := a2J h0
  have hask := a1w b hm
  unfold askT at hask
  rw [if_pos h0] at hask
  have he : e ≤ 17592186044416 := by unfold KB at hK; omega
  have htm := b8h hm
  have htl : (a0k b).length = wid b := a0c _ _
  have hst := b2G (a0k b) (c := b.length) (fun i hi => by
    have : (a0k b)[i] = vec b.length fun t => zg (mg b t) i := a3H hi
    rw [this, a0a]) htm htl hw (by omega) (by omega)
  have hB := b5L htm
  have hBi := b7g hB
  have hKK : KB (65 * (KB e + 2)) + 1 < 1099511627776 := by unfold KB at hK ⊢; omega
  have hKK2 : KB (KB e) + 2 < 100000000000 := by unfold KB at hK ⊢; omega
  have hXl : ∀ i, (h : i < (b2d (wid b) b.length (Bm (a0k b)) b.length).length) → (b2d (wid b) b.length (Bm (a0k b)) b.length)[i].length = b.length := fun i h => by
    simp only [b2d, List.getElem_map, a0a]
  have hlast := b6O (b2d (wid b) b.length (Bm (a0k b)) b.length) (c := b.length) (n := a0G (wid b) b.length (Bm (a0k b))) hXl (c8R hB hw hn (Nat.le_refl _)) (by rw [b2d, List.length_map]; rfl)
    (Nat.le_trans b3d hn) (by omega) hKK hKK2 (d5P hB hw hn) (d5Q hB hw hn)
  have hd0 := c8l (m := wid b) (n := b.length) hBi
  rw [c8x hBi, c6Y (a4v hd0)] at hlast
  have hinj := c3N (m := wid b) (n := b.length) hBi
  have hcn : ∀ i, i < (gproc (wid b) (Bm (a0k b)) b.length).cs.length → (gproc (wid b) (Bm (a0k b)) b.length).cs.getD i 0 < b.length := fun i hi => a1m hi
  have hrl := e1b (n := b.length) (B := Bm (a0k b)) hw
  have hrow : ∀ i (h : i < (a1G (wid b) (Bm (a0k b)) b.length).length), (a1G (wid b) (Bm (a0k b)) b.length)[i] = vec b.length (wI (wid b) (Bm (a0k b)) b.length i) := fun i h => a3H h
  have hsl : (a1G (wid b) (Bm (a0k b)) b.length).length = (gproc (wid b) (Bm (a0k b)) b.length).cs.length := a0c _ _
  have hwl : ∀ i k, k < b.length → Zok (KB e + 1) (canZ (wI (wid b) (Bm (a0k b)) b.length i k)) := fun i k hk => a0z (d3D hB hw hk)
  have hlm : ∀ i, wI (wid b) (Bm (a0k b)) b.length i ((gproc (wid b) (Bm (a0k b)) b.length).cs.getD i 0) = lamI (wid b) b.length (Bm (a0k b)) i := fun i => rfl
  have hl0 := fun i (hi : i < (gproc (wid b) (Bm (a0k b)) b.length).cs.length) => d3C hBi hi
  have hqe := fun f i (hi : i < (gproc (wid b) (Bm (a0k b)) b.length).cs.length) => e1h hBi (f := f) hi
  have hql := fun f i (hf : f < b.length) => e1g hB hw (f := f) (i := i) hf
  have hdn := fun t (ht : t ≤ (gproc (wid b) (Bm (a0k b)) b.length).cs.length) => d4s hB hw ht
  have hdr := c8m (n := b.length) hB hw
  have hx0 := d8q (m := wid b) (n := b.length) (B := Bm (a0k b))
  have hxs := fun (P Q : Nat → Bool) (f i : Nat) hf hi hQ => d8p (m := wid b) (n := b.length) hBi (P := P) (Q := Q) (f := f) (i := i) hf hi hQ
  have hxa := fun (P : Nat → Bool) (f : Nat) hP => e0P (m := wid b) (n := b.length) (B := Bm (a0k b)) (P := P) f hP
  have hDr : denR (wid b) b.length (Bm (a0k b)) = a3F (lamI (wid b) b.length (Bm (a0k b))) (gproc (wid b) (Bm (a0k b)) b.length).cs.length := rfl
  have hdn' : ∀ t, denN (wid b) b.length (Bm (a0k b)) t = a3F (lamI (wid b) b.length (Bm (a0k b))) t := fun t => rfl
  have hXd : ∀ t, b2d (wid b) b.length (Bm (a0k b)) t = (a1b (gproc (wid b) (Bm (a0k b)) b.length).cs t).map fun f => vec b.length (xP (wid b) b.length (Bm (a0k b)) yesP f) := fun t => rfl
  rw [hXd] at hlast
  simp only [hdn'] at hdn
  generalize a1G (a0G (wid b) b.length (Bm (a0k b))) (a1h (wid b) b.length (Bm (a0k b))) b.length = R at *
  generalize hsV (gproc (a0G (wid b) b.length (Bm (a0k b))) (a0Z (denR (wid b) b.length (Bm (a0k b)) : Rat) (a1h (wid b) b.length (Bm (a0k b)))) b.length).cs = hs2 at hlast
  clear hXl hXd hdn' htm hB hBi
  generalize xP (wid b) b.length (Bm (a0k b)) = X at *
  generalize qN (wid b) b.length (Bm (a0k b)) = q at *
  generalize denR (wid b) b.length (Bm (a0k b)) = D at *
  generalize lamI (wid b) b.length (Bm (a0k b)) = lam at *
  generalize wI (wid b) (Bm (a0k b)) b.length = w at *
  generalize a1G (wid b) (Bm (a0k b)) b.length = W at *
  generalize (gproc (wid b) (Bm (a0k b)) b.length).cs = cs at *
  have hm1 := hK
  generalize hK2 : 65 * (KB e + 2) = K2 at *
  have hfree : ∀ t, (a1b cs t).length ≤ t := b3C cs
  refine a0f.intro b7c b7b (Nat.le_of_ble_eq_true rfl) (a6F (a9o _) (.int _ _)) fun H hH => ?_
  refine Safe.rg rfl ?_
  simp only [a9L, E3, seval]
  refine Safe.rg rfl ?_
  simp only [a9K, E3, seval]
  first | refine (hask).acall ?_ | refine (hask).dcall ?_
  try simp only [E3, seval]
  refine Safe.rg rfl ?_
  simp only [a9J, E3, seval]
  refine Safe.cd rfl ?_
  simp only [E3, seval]
  refine Safe.rg rfl ?_
  simp only [b6Z, E3, seval]
  first | refine (c4O b e hm he hr).acall ?_ | refine (c4O b e hm he hr).dcall ?_
  try simp only [E3, seval]
  refine Safe.rg rfl ?_
  simp only [b6Y, E3, seval]
  first | refine (hst).acall ?_ | refine (hst).dcall ?_
  try simp only [E3, seval]
  refine Safe.rg rfl ?_
  simp only [b6X, E3, seval]
  refine Safe.nilrow 11 1 (by decide) (by simp only [E3, seval]) ?_
  refine Safe.rg rfl ?_
  simp only [b6W, d6Y, E3, seval]
  refine Safe.rg rfl ?_
  simp only [b6V, E3, seval]
  first | refine (a3i 1 (by decide) (by decide)).acall ?_ | refine (a3i 1 (by decide) (by decide)).dcall ?_
  try simp only [E3, seval]
  refine Safe.rg rfl ?_
  simp only [b6U, c2K, E3, seval]
  refine Safe.lp rfl ?_
  refine Safe.keep [4, 9, 10, 11, 12, 13, 47, 48, 49] ?_
  try simp only [E3, seval]
  refine Safe.loopN (cs.length) (fun i => [(4, .int .i64 b.length), (9, matV W), (10, hsV cs), (11, .mu (lid H 0) 0 0 none), (12, .mp true (lid H 1)), (13, .loc (lid H 2) 0 0), (47, hsV cs), (48, .int .i64 cs.length), (49, .int .i64 i)]) (fun i => hap H [some ⟨1, []⟩, some ⟨0, [.mo (mapL cs i)]⟩, some ⟨2, [Z (a3F lam i)]⟩]) rfl rfl (fun i hi ih => ?_) ?_
  · have hlt : ((i : Int) < (cs.length : Int)) = True := eq_true (by omega)
    have hiw : IntKind.wrap .i64 ((i : Int) + 1) = ((i + 1 : Nat) : Int) := by rw [a0b] <;> omega
    have hci := hcn i hi
    have hset : ∀ env, d6l (.mp true (lid H 1)) (.int .i64 ((cs.getD i 0 : Nat) : Int)) (.int .i64 i) env (hap H [some ⟨1, []⟩, some ⟨0, [.mo (mapL cs i)]⟩, some ⟨2, [Z (a3F lam i)]⟩]) = some (.top, env, hap H [some ⟨1, []⟩, some ⟨0, [.mo (mapL cs (i + 1))]⟩, some ⟨2, [Z (a3F lam i)]⟩]) := by
      intro env
      rw [d6k env (i := 1) (l := mapL cs i) rfl (d6p hinj hi), d3o]; rfl
    refine Safe.inLoop ?_
    refine Safe.rg rfl ?_
    simp only [a7Y, hlt, E3, seval]
    refine Safe.cd rfl ?_
    simp only [E3, seval]
    refine Safe.rg rfl ?_
    simp only [b4q, d9o _ cs i hi, intV, E3, seval]
    refine Safe.rg rfl ?_
    simp only [b4p, d9L, hset, E3, seval]
    refine Safe.rg rfl ?_
    simp only [b4o, a2g _ W .i64 i (by omega), hrow i (by omega), a0B _ (vec b.length (w i)) .i64 (cs.getD i 0) (by rw [a0a]; omega), a1T, hlm, E3, seval]
    have hmu := a2a (canZ (a3F lam i)) (canZ (lam i)) K2 (KB e + 1) ((a0z (hdn i (by omega))).mono (by have := Nat.mul_le_mul_right (KB e + 1) (show i ≤ 64 by omega); omega)) (by have := hwl i _ hci; rwa [hlm] at this) (by omega)
    rw [a0y, a0y] at hmu
    refine hmu.dcall ?_
    simp only [E3, seval]
    refine Safe.rg rfl ?_
    simp only [b4n, hiw, E3, seval]
    refine Safe.keep [4, 9, 10, 11, 12, 13, 47, 48, 49] ?_
    simp only [E3, seval]
    exact ih
  · refine Safe.inLoop ?_
    refine Safe.rg rfl ?_
    simp only [a7Y, Int.lt_irrefl, E3, seval]
    refine Safe.cd rfl ?_
    simp only [E3, seval]
    rw [← hDr]
    generalize hml : mapL cs cs.length = ml at *
    have hmll : ml.length = cs.length := by rw [← hml, c8X]
    have hlast' : a0f Pr a2x [matV (a3B cs b.length X b.length), .int .i64 b.length] (.tup [matV R, hs2]) := hlast
    refine Safe.rg rfl ?_
    simp only [b4m, E3, seval]
    refine Safe.lp rfl ?_
    refine Safe.keep [4, 9, 11, 12, 13, 67, 68] ?_
    try simp only [E3, seval]
    refine Safe.loopN (b.length) (fun i => [(4, .int .i64 b.length), (9, matV W), (11, .mu (lid H 0) 0 (a3B cs b.length X i).length none), (12, .mp true (lid H 1)), (13, .loc (lid H 2) 0 0), (67, .int .i64 b.length), (68, .int .i64 i)]) (fun i => hap H [some ⟨1, (a3B cs b.length X i).map vecV⟩, some ⟨0, [.mo ml]⟩, some ⟨2, [Z D]⟩]) rfl rfl (fun i hi ih => ?_) ?_
    · have hlt : ((i : Int) < (b.length : Int)) = True := eq_true (by omega)
      have hiw : IntKind.wrap .i64 ((i : Int) + 1) = ((i + 1 : Nat) : Int) := by rw [a0b] <;> omega
      have hxl := d1O cs b.length X i
      have hlk := d3f (H := H) (L := [some ⟨1, (a3B cs b.length X i).map vecV⟩, some ⟨0, [.mo ml]⟩, some ⟨2, [Z D]⟩]) (i := 1) (l := ml) rfl (i : Int)
      refine Safe.inLoop ?_
      refine Safe.rg rfl ?_
      simp only [a7X, hlt, E3, seval]
      refine Safe.cd rfl ?_
      simp only [E3, seval]
      refine Safe.rg rfl ?_
      simp only [b4l, E3, seval]
      refine Safe.rg rfl ?_
      simp only [b4k, d5D, hlk, E3, seval]
      refine Safe.rg rfl ?_
      simp only [b4j, E3, seval]
      cases hp : hpos cs i with
      | some j =>
        have hg := d3j hp
        rw [hml] at hg
        refine Safe.cd rfl ?_
        simp only [hg, E3, seval]
        refine Safe.rg rfl ?_
        simp only [a7W, hiw, E3, seval]
        refine Safe.keep [4, 9, 11, 12, 13, 67, 68] ?_
        simp only [E3, seval]
        rw [d5d hp] at ih
        exact ih
      | none =>
        have hg := d3k hp
        rw [hml] at hg
        refine Safe.cd rfl ?_
        simp only [hg, Option.isSome_none, E3, seval]
        refine Safe.rg rfl ?_
        simp only [b4i, a8P _ H [some ⟨1, (a3B cs b.length X i).map vecV⟩, some ⟨0, [.mo ml]⟩, some ⟨2, [Z D]⟩] 2 32 (.agg [.bool false, .nil]) .i64 .i64 b.length b.length (by decide) (Nat.le_refl _) (by omega) (by omega), E3, seval]
        refine Safe.toldRep 3 b.length rfl ?_
        simp only [E3, seval]
        have hxe : X (fun j => decide (j ∈ ([] : List Nat))) i = updF (fun _ => 0) i D := by
          rw [← hx0]; exact congrArg (fun P => X P i) (funext fun j => by simp)
        have hix : ∀ (x : Nat → Int) (k : Nat), k < b.length → ∀ L', idxV (hap H (some ⟨1, (a3B cs b.length X i).map vecV⟩ :: some ⟨0, [.mo ml]⟩ :: some ⟨2, [Z D]⟩ :: some ⟨2, (vec b.length x).map ZI.av⟩ :: L')) 2 (.mu (lid H 3) 0 b.length (some b.length)) (.int .i64 (k : Int)) = some (.loc (lid H 3) k 0) := fun x k hk L' => by
          have := b3m H (some ⟨1, (a3B cs b.length X i).map vecV⟩ :: some ⟨0, [.mo ml]⟩ :: some ⟨2, [Z D]⟩ :: some ⟨2, (vec b.length x).map ZI.av⟩ :: L') 2 3 0 b.length (some b.length) .i64 k rfl rfl hk
          rwa [Nat.zero_add] at this
        have hst3 : ∀ (x : Nat → Int) (k : Nat) (z : Int), k < b.length → ∀ env L', a1y 2 (.loc (lid H 3) k 0) (Z z) env (hap H (some ⟨1, (a3B cs b.length X i).map vecV⟩ :: some ⟨0, [.mo ml]⟩ :: some ⟨2, [Z D]⟩ :: some ⟨2, (vec b.length x).map ZI.av⟩ :: L')) =
            some (.top, env, hap H (some ⟨1, (a3B cs b.length X i).map vecV⟩ :: some ⟨0, [.mo ml]⟩ :: some ⟨2, [Z D]⟩ :: some ⟨2, (vec b.length (updF x k z)).map ZI.av⟩ :: L')) := fun x k z hk env L' => by
          rw [a3d env H _ 2 3 k 0 (Z z) rfl (by rw [List.length_map, a0a]; exact hk) rfl rfl (Nat.le_refl 2), ← c6R]; rfl
        have hst0 := fun env => hst3 (fun _ => 0) i D hi env []
        rw [← hxe] at hst0
        have hZD : AV.agg [AV.bool (decide (D < 0)), natV (limbs D.natAbs)] = Z D := rfl
        refine Safe.rg rfl ?_
        simp only [b4h, hix _ i hi, hZD, hst0, E3, seval]
        refine Safe.rg rfl ?_
        simp only [b4g, d9M, d6n _ (H := H) (L := [some ⟨1, (a3B cs b.length X i).map vecV⟩, some ⟨0, [.mo ml]⟩, some ⟨2, [Z D]⟩, some ⟨2, (vec b.length (X (fun j => decide (j ∈ ([] : List Nat))) i)).map ZI.av⟩]) (i := 1) (l := ml) rfl, E3, seval]
        refine Safe.lp rfl ?_
        refine Safe.keep [4, 9, 11, 12, 13, 16, 19, 67, 68, 85] ?_
        simp only [E3, seval]
        refine Safe.loopW (α := List Nat) (c5H cs.length)
          (fun seen => [(4, .int .i64 b.length), (9, matV W), (11, .mu (lid H 0) 0 (a3B cs b.length X i).length none), (12, .mp true (lid H 1)), (13, .loc (lid H 2) 0 0), (16, .int .i64 i), (19, .mu (lid H 3) 0 b.length (some b.length)), (67, .int .i64 b.length), (68, .int .i64 i), (85, .mp false (lid H 4))])
          (fun seen => hap H [some ⟨1, (a3B cs b.length X i).map vecV⟩, some ⟨0, [.mo ml]⟩, some ⟨2, [Z D]⟩, some ⟨2, (vec b.length (X (fun j => decide (j ∈ seen)) i)).map ZI.av⟩, some ⟨0, [.io (lid H 1) ml.length seen]⟩])
          (fun _ => True) [] rfl rfl trivial ?_
        intro seen _ ihs
        refine Safe.inLoop ?_
        refine Safe.rg rfl ?_
        simp only [b4f, d4P, E3, seval]
        refine d6c (i := 4) (mi := 1) (l := ml) rfl rfl (fun j p hj hp2 => ?_) (fun hall => ?_)
        · obtain ⟨hjr, rfl⟩ := d6u (cs := cs) (t := cs.length) (by rw [hml]; exact hp2)
          have hcj := hcn j hjr
          have hme := d6q (H := H) (L := [some ⟨1, (a3B cs b.length X i).map vecV⟩, some ⟨0, [.mo ml]⟩, some ⟨2, [Z D]⟩, some ⟨2, (vec b.length (X (fun j => decide (j ∈ seen)) i)).map ZI.av⟩, some ⟨0, [.io (lid H 1) ml.length (seen ++ [j])]⟩]) (i := 4) (mi := 1) (l := ml) rfl rfl hp2
          have hmu := a2a (canZ D) (canZ (w j i)) K2 (KB e + 1) ((a0z hdr).mono (by omega)) (hwl j i hi) (by omega)
          rw [a0y, a0y] at hmu
          have hwa := (hwl j i hi).abs
          rw [a0y] at hwa
          have hfl := a2Y (canZ (D * w j i)) (canZ (lam j)) (K2 + K2) (a0z (by
            rw [Int.natAbs_mul, Nat.pow_add]
            exact Nat.mul_lt_mul'' (Nat.lt_of_lt_of_le hdr (lbm (by omega))) (Nat.lt_of_lt_of_le hwa (lbm (by omega))))) (by have := hwl j _ hcj; rw [hlm] at this; exact this.mono (by omega)) (by omega) (q i j) (by rw [a0y]; exact hl0 j hjr) (by rw [a0y, a0y]; exact hqe i j hjr)
          have hng := a8r (canZ (q i j)) ((a0z (hql i j hi)).mono (by omega))
          rw [a0y] at hng
          simp only [E3, seval]
          refine Safe.cd rfl ?_
          simp only [E3, seval]
          refine Safe.rg rfl ?_
          simp only [b4e, d8O, hme, E3, seval]
          refine Safe.rx rfl (by simp only [b2Z, b7v, b3r, a2g _ W .i64 j (by omega), hrow j (by omega), a0B _ (vec b.length (w j)) .i64 i (by rw [a0a]; omega), a0B _ (vec b.length (w j)) .i64 (cs.getD j 0) (by rw [a0a]; omega), a1T, hlm, E3, seval]) ?_
          simp only [b4d, b1P, b1O, a2g _ W .i64 j (by omega), hrow j (by omega), a0B _ (vec b.length (w j)) .i64 i (by rw [a0a]; omega), a0B _ (vec b.length (w j)) .i64 (cs.getD j 0) (by rw [a0a]; omega), a1T, hlm, E3, seval]
          refine hmu.dcall ?_
          simp only [a2g _ W .i64 j (by omega), hrow j (by omega), a0B _ (vec b.length (w j)) .i64 (cs.getD j 0) (by rw [a0a]; omega), a1T, hlm, E3, seval]
          refine hfl.dcall ?_
          simp only [E3, seval]
          refine ⟨?_, ?_⟩
          all_goals
            refine Safe.rg rfl ?_
            simp only [b4c, E3, seval]
            refine hng.acall ?_
            simp only [hix _ _ hcj, hst3 _ _ _ hcj, E3, seval]
            rw [hxs (fun k => decide (k ∈ seen)) (fun k => decide (k ∈ seen ++ [j])) i j hp hjr (by intro k; rw [Bool.eq_iff_iff]; simp)]
            refine Safe.keep [4, 9, 11, 12, 13, 16, 19, 67, 68, 85] ?_
            simp only [E3, seval]
            refine Safe.dropC (L := [_, _, _, _, _, _]) hH rfl (by simp only [List.all_cons, List.all_nil, a3k, E3, seval]) (by repeat (first | exact RC.nil | refine RC.none ?_ | refine RC.mo ?_ | refine RC.io ?_ | refine RC.row ZI.cl ?_ | refine RC.cons (a0t _) ?_ | refine RC.row a0d ?_ | refine RC.emp ?_ | refine RC.zero ?_ | refine RC.one (Z_cl _) ?_ | refine RC.one (ZI.cl _) ?_ | refine RC.one (a0d _) ?_)) ?_
            refine Safe.dropC (L := [_, _, _, _, _]) hH rfl (by simp only [List.all_cons, List.all_nil, a3k, E3, seval]) (by repeat (first | exact RC.nil | refine RC.none ?_ | refine RC.mo ?_ | refine RC.io ?_ | refine RC.row ZI.cl ?_ | refine RC.cons (a0t _) ?_ | refine RC.row a0d ?_ | refine RC.emp ?_ | refine RC.zero ?_ | refine RC.one (Z_cl _) ?_ | refine RC.one (ZI.cl _) ?_ | refine RC.one (a0d _) ?_)) ?_
            refine Safe.inBlock ?_
            exact ihs (seen ++ [j]) trivial (c9c hj hjr)
        · rw [hmll] at hall
          have hxend := hxa (fun k => decide (k ∈ seen)) i (fun k hk => by simpa using hall k hk)
          simp only [E3, seval]
          refine Safe.cd rfl ?_
          simp only [E3, seval]
          rw [hxend]
          refine Safe.freeze 3 hH rfl rfl (a1j 2 ZI.av _ ZI.cl) ?_
          refine Safe.keep [4, 9, 11, 12, 13, 16, 19, 67, 68] ?_
          simp only [a7I H 3 (vec b.length (X yesP i)) (b.length) (some b.length) (by simp only [a0a, a0c]), a0X, a0E, a1p, a1V, c5R, d8c, e1K, E3, seval]
          refine Safe.drop4 hH rfl (by simp only [List.all_cons, List.all_nil, a3k, E3, seval]) (by repeat (first | exact RC.nil | refine RC.none ?_ | refine RC.mo ?_ | refine RC.io ?_ | refine RC.row ZI.cl ?_ | refine RC.cons (a0t _) ?_ | refine RC.row a0d ?_ | refine RC.emp ?_ | refine RC.zero ?_ | refine RC.one (Z_cl _) ?_ | refine RC.one (ZI.cl _) ?_ | refine RC.one (a0d _) ?_)) ?_
          refine Safe.drop3 hH rfl (by simp only [List.all_cons, List.all_nil, a3k, E3, seval]) (by repeat (first | exact RC.nil | refine RC.none ?_ | refine RC.mo ?_ | refine RC.io ?_ | refine RC.row ZI.cl ?_ | refine RC.cons (a0t _) ?_ | refine RC.row a0d ?_ | refine RC.emp ?_ | refine RC.zero ?_ | refine RC.one (Z_cl _) ?_ | refine RC.one (ZI.cl _) ?_ | refine RC.one (a0d _) ?_)) ?_
          refine Safe.rg rfl ?_
          simp only [b4b, E3, seval]
          rw [a9Y hH 0 (a4h H 0) a0d (a3B cs b.length X i) (vec b.length (X yesP i)) (a3B cs b.length X (i + 1)) rfl rfl (by repeat (first | exact RC.nil | refine RC.none ?_ | refine RC.mo ?_ | refine RC.io ?_ | refine RC.row ZI.cl ?_ | refine RC.cons (a0t _) ?_ | refine RC.row a0d ?_ | refine RC.emp ?_ | refine RC.zero ?_ | refine RC.one (Z_cl _) ?_ | refine RC.one (ZI.cl _) ?_ | refine RC.one (a0d _) ?_)) rfl (c4J hp) (by omega) (by omega)]
          simp only [a3k, E3, seval]
          refine Safe.rg rfl ?_
          simp only [a7W, hiw, E3, seval]
          refine Safe.keep [4, 9, 11, 12, 13, 67, 68] ?_
          simp only [E3, seval]
          have hlen : (a3B cs b.length X (i + 1)).length = (a3B cs b.length X i).length + 1 := by rw [c4J hp, List.length_append]; rfl
          rw [hlen] at ih
          exact ih
    · refine Safe.inLoop ?_
      refine Safe.rg rfl ?_
      simp only [a7X, Int.lt_irrefl, E3, seval]
      refine Safe.cd rfl ?_
      simp only [E3, seval]
      refine Safe.freeze 0 hH rfl rfl (a1j 1 vecV _ a0d) ?_
      refine Safe.keep [4, 11] ?_
      simp only [c3R H 0 (a3B cs b.length X b.length) ((a3B cs b.length X b.length).length) (none) (by simp only [a0a, a0c]), a0X, a0E, a1p, a1V, d8c, E3, seval]
      refine Safe.rg rfl ?_
      simp only [b4a, E3, seval]
      first | refine (hlast').acall ?_ | refine (hlast').dcall ?_
      try simp only [E3, seval]
      refine Safe.rg rfl ?_
      simp only [b3Z, E3, seval]
      refine Safe.rt rfl ?_
      simp only [E3, seval]
      first | exact ⟨rfl, _, rfl⟩ | exact ⟨_, rfl⟩ | exact ⟨trivial, _, rfl⟩
end
end Go.Abs
namespace Go.Abs
theorem d5R {b : List (List ZI)} {e : Nat} (hm : Mok e b) (h0 : elE b = 0) : Mok (KB (KB e) + 1) (a1G (a0G (wid b) b.length (Bm (a0k b))) (a1h (wid b) b.length (Bm (a0k b))) b.length) := by
  obtain ⟨hn, hw, _, _⟩ := a2J h0
  have hnr := (a5k (n := a0G (wid b) b.length (Bm (a0k b))) (B := a1h (wid b) b.length (Bm (a0k b))) b.length).len
  have hle := b3d (m := wid b) (n := b.length) (B := Bm (a0k b))
  refine c3y (by omega) fun i hi => a4V (by omega) fun t ht => ?_
  exact Nat.lt_of_le_of_lt (b0d ht) (c5j (d2P (b5L (b8h hm)) hw hn hi) ht)
theorem d6A : KB (KB 1048576) + 1 < 10000000000 := by decide
end Go.Abs
namespace Go.Abs
/-- The later a0C stand further right. -/
theorem d4u {m : Nat} {B : Nat → Nat → Rat} {t : Nat} : ∀ {n}, t ≤ n → ∃ l, (gproc m B n).cs = (gproc m B t).cs ++ l ∧ ∀ x ∈ l, t ≤ x
  | 0, h => ⟨[], by have : t = 0 := by omega
                    subst this; simp, by simp⟩
  | n + 1, h => by
    by_cases e : t = n + 1
    · subst e; exact ⟨[], by simp, by simp⟩
    · obtain ⟨l, h1, h2⟩ := d4u (t := t) (n := n) (by omega)
      rcases a0v (fun p => (gproc m B n).g p n) (gproc m B n).cs.length m with ⟨p, hf, _⟩ | ⟨hf, _⟩
      · have e1 : gproc m B (n + 1) = _ := a0s hf
        refine ⟨l ++ [n], by rw [e1]; show (gproc m B n).cs ++ [n] = _; rw [h1, List.append_assoc], fun x hx => ?_⟩
        rcases List.mem_append.1 hx with hx | hx
        · exact h2 x hx
        · have : x = n := by simpa using hx
          omega
      · have e1 : gproc m B (n + 1) = _ := a0L hf
        exact ⟨l, by rw [e1]; exact h1, h2⟩
theorem c9j {cs : List Nat} {k : Nat} : (∃ i, hpos cs k = some i) ↔ k ∈ cs := by
  constructor
  · rintro ⟨i, h⟩
    obtain ⟨h1, h2⟩ := a4j h
    rw [← h2, List.getD_eq_getElem?_getD, List.getElem?_eq_getElem h1]; exact List.getElem_mem h1
  · intro h
    cases hp : hpos cs k with
    | some i => exact ⟨i, rfl⟩
    | none =>
      obtain ⟨i, hi, e⟩ := List.getElem_of_mem h
      exact absurd (by rw [List.getD_eq_getElem?_getD, List.getElem?_eq_getElem hi]; exact e) (a6V hp hi)
theorem c2T {m n : Nat} {B : Nat → Nat → Rat} : ∀ t, t ≤ n → (a1b (gproc m B n).cs t).length + (gproc m B t).cs.length = t
  | 0, _ => rfl
  | t + 1, h => by
    have ih := c2T (m := m) (n := n) (B := B) t (by omega)
    obtain ⟨l, h1, h2⟩ := d4u (m := m) (B := B) (t := t + 1) (n := n) h
    rcases a0v (fun p => (gproc m B t).g p t) (gproc m B t).cs.length m with ⟨p, hf, _⟩ | ⟨hf, _⟩
    · have e1 : gproc m B (t + 1) = _ := a0s hf
      have e2 : (gproc m B (t + 1)).cs = (gproc m B t).cs ++ [t] := by rw [e1]
      have hmem : t ∈ (gproc m B n).cs := by rw [h1, e2]; simp
      obtain ⟨i, hi⟩ := c9j.2 hmem
      rw [c5U hi, e2, a1t]; omega
    · have e1 : gproc m B (t + 1) = _ := a0L hf
      have e2 : (gproc m B (t + 1)).cs = (gproc m B t).cs := by rw [e1]
      have hmem : t ∉ (gproc m B n).cs := by
        rw [h1, e2]
        intro hx
        rcases List.mem_append.1 hx with hx | hx
        · have := d7b (n := m) (B := B) t _ hx; omega
        · have := h2 t hx; omega
      have hp : hpos (gproc m B n).cs t = none := by
        cases hq : hpos (gproc m B n).cs t with
        | none => rfl
        | some i => exact absurd (c9j.1 ⟨i, hq⟩) hmem
      rw [c2P hp, e2, List.length_append]
      show (a1b (gproc m B n).cs t).length + 1 + _ = _
      omega
theorem c7i {m n : Nat} {B : Nat → Nat → Rat} : a0G m n B + (gproc m B n).cs.length = n := c2T n (Nat.le_refl n)
theorem d6P {cs : List Nat} {n i j : Nat} (hi : i < (a1b cs n).length) (hj : j < (a1b cs n).length) (h : (a1b cs n).getD i 0 = (a1b cs n).getD j 0) : i = j := by
  have hp : (a1b cs n).Pairwise (· < ·) := List.Pairwise.filter _ List.pairwise_lt_range
  rw [List.pairwise_iff_getElem] at hp
  rw [List.getD_eq_getElem?_getD, List.getD_eq_getElem?_getD, List.getElem?_eq_getElem hi, List.getElem?_eq_getElem hj, Option.getD_some, Option.getD_some] at h
  rcases Nat.lt_trichotomy i j with hlt | he | hgt
  · have := hp i j hi hj hlt; omega
  · exact he
  · have := hp j i hj hi hgt; omega
section
variable {m n e : Nat} {B : Nat → Nat → Rat} (hB : Bd e B) (hm : m ≤ 64)
include hB hm
/-- The rows are independent. -/
theorem c5o : (gproc (a0G m n B) (a1h m n B) n).cs.length = a0G m n B := by
  obtain ⟨l, h0, h1, h2⟩ := c3u (n := n) hB hm
  have hl0 := a4v h0
  have hcs := (a1M hl0 (a0G m n B) (a1h m n B) n).1
  have hle := (a5k (n := a0G m n B) (B := a1h m n B) n).len
  have hfr : ∀ i, i < a0G m n B → (a1b (gproc m B n).cs n).getD i 0 < n ∧ hpos (gproc m B n).cs ((a1b (gproc m B n).cs n).getD i 0) = none := fun i hi => by
    rw [List.getD_eq_getElem?_getD, List.getElem?_eq_getElem hi]
    exact b0j (List.getElem_mem hi)
  have := c8V (n := a0G m n B) (B := a0Z (l : Rat) (a1h m n B)) (b7g h2) (c := n) (r := a0G m n B) (f := fun i => i) (g := fun k => (a1b (gproc m B n).cs n).getD k 0) (fun i hi => hi) (fun k hk => (hfr k hk).1) (by
    have e1 : det (a0G m n B) (fun i k => a0Z (l : Rat) (a1h m n B) i ((a1b (gproc m B n).cs n).getD k 0)) = det (a0G m n B) (a0Z (l : Rat) oneR) := by
      refine a0D fun i k hi hk => ?_
      unfold a0Z
      congr 1
      obtain ⟨q1, q2⟩ := hfr k hk
      unfold a1h
      rw [if_pos ⟨hi, q1⟩]
      unfold yP oneR
      by_cases hik : i = k
      · subst hik; simp
      · rw [if_neg (fun h => hik (d6P (cs := (gproc m B n).cs) (n := n) hi hk h.symm)), q2]
        simp [hik]
    rw [e1, c4l, b7I]
    generalize a0G m n B = r
    rw [Rat.mul_one, ← a7G]
    exact a4v (Int.pow_ne_zero h0))
  rw [hcs] at this
  omega
end
/-- A row that a turned matrix takes to nought. -/
def Orth (n j : Nat) (B : Nat → Nat → Rat) (v : Nat → Rat) : Prop := sumR (fun k => v k * B j k) n = 0
theorem c8Q {n j : Nat} {B : Nat → Nat → Rat} {u v : Nat → Rat} (hu : Orth n j B u) (hv : Orth n j B v) (a c : Rat) : Orth n j B fun k => a * u k + c * v k := by
  unfold Orth at *
  have := a2y a c (fun k => u k * B j k) (fun k => v k * B j k) n
  rw [hu, hv] at this
  rw [show sumR (fun k => (a * u k + c * v k) * B j k) n = sumR (fun i => a * (u i * B j i) + c * (v i * B j i)) n from a0p fun k _ => by grind, this]
  grind
theorem c5k {nr n j : Nat} {B N : Nat → Nat → Rat} (h : ∀ i, i < nr → Orth n j B (N i)) : ∀ t i, i < nr → Orth n j B ((a0g nr N t).M i)
  | 0, i, hi => h i hi
  | t + 1, i, hi => by
    have ih := c5k h t
    show Orth n j B ((b5q nr (a0g nr N t) t).M i)
    rcases a0v (fun p => (a0g nr N t).s.g p t) (a0g nr N t).s.cs.length nr with ⟨p, hf, h1, h2, _⟩ | ⟨hf, _⟩
    · rw [a6T hf]
      have hr : (a0g nr N t).s.cs.length < nr := by omega
      have hsw : ∀ a, a < nr → Orth n j B (a0q p (a0g nr N t).s.cs.length (a0g nr N t).M a) := by
        intro a ha
        obtain ⟨b, hb, _, hbe⟩ := c8C p (a0g nr N t).s.cs.length (a0g nr N t).M a
        have : a0q p (a0g nr N t).s.cs.length (a0g nr N t).M a = (a0g nr N t).M b := funext fun k => hb _ k
        rw [this]
        refine ih b ?_
        rw [hbe]
        split
        · exact hr
        · split
          · exact h2
          · exact ha
      show Orth n j B (jel (a0g nr N t).s.cs.length t (a0q p (a0g nr N t).s.cs.length (a0g nr N t).M) i)
      generalize (a0g nr N t).s.cs.length = r at *
      generalize a0q p r (a0g nr N t).M = Y at *
      by_cases e : i = r
      · have e2 : jel r t Y i = fun k => (1 / Y r t) * Y r k + 0 * Y r k := by
          funext k; unfold jel; rw [if_pos e]
          generalize Y r k = a
          generalize Y r t = c
          rw [Rat.div_def, Rat.div_def]; grind
        rw [e2]
        exact c8Q (hsw r hr) (hsw r hr) _ _
      · have e2 : jel r t Y i = fun k => 1 * Y i k + (-(Y i t / Y r t)) * Y r k := by
          funext k; unfold jel; rw [if_neg e]
          generalize Y r k = a
          generalize Y r t = c
          generalize Y i t = d
          rw [Rat.div_def, Rat.div_def]; grind
        rw [e2]
        exact c8Q (hsw i hi) (hsw r hr) _ _
    · rw [a6U hf]; exact ih i hi
section
variable {m n e : Nat} {B : Nat → Nat → Rat} (hB : Bd e B)
include hB
/-- A column without a head is a sum of those with one. -/
theorem d2N {i j : Nat} (hi : i < a0G m n B) (hj : j < m) : Orth n j B (a1h m n B i) := by
  have hBi := b7g hB
  have hf := b0j (cs := (gproc m B n).cs) (t := n) (k := (a1b (gproc m B n).cs n).getD i 0) (by
    rw [List.getD_eq_getElem?_getD, List.getElem?_eq_getElem hi]; exact List.getElem_mem hi)
  obtain ⟨f, hfd⟩ : ∃ f, f = (a1b (gproc m B n).cs n).getD i 0 := ⟨_, rfl⟩
  rw [← hfd] at hf
  have hrow := b3a (n := m) hBi (t := n) (a := j) (k := f) hj hf.1
  unfold Orth
  have e1 : sumR (fun k => a1h m n B i k * B j k) n = sumR (fun k => yP m n B yesP f k * B j k) n := a0p fun k hk => by
    unfold a1h; rw [if_pos ⟨hi, hk⟩, ← hfd]
  rw [e1]
  -- the sum over the columns, head by head
  have key : ∀ t, t ≤ (gproc m B n).cs.length → sumR (fun k => yP m n B (fun s => decide (s < t)) f k * B j k) n = B j f - sumR (fun s => B j ((gproc m B n).cs.getD s 0) * (a0g m B n).M s f) t := by
    intro t
    induction t with
    | zero =>
      intro _
      have e0 : (fun s : Nat => decide (s < 0)) = fun _ => false := funext fun s => by simp
      rw [e0]
      rw [a7i hf.1 (fun k _ hne => by rw [d1N, if_neg hne]; grind)]
      rw [d1N, if_pos rfl]
      simp only [sumR]; grind
    | succ t ih =>
      intro ht
      have ih := ih (by omega)
      have hc : (gproc m B n).cs.getD t 0 < n := a1m (by omega)
      have hst := fun k => d8o (m := m) (n := n) hBi (P := fun s => decide (s < t)) (Q := fun s => decide (s < t + 1)) (f := f) (i := t) hf.2 (by omega) (by intro s; rw [Bool.eq_iff_iff]; simp; omega) k
      have hold : yP m n B (fun s => decide (s < t)) f ((gproc m B n).cs.getD t 0) = 0 := by
        unfold yP
        rw [if_neg (a6V hf.2 (by omega)), c7T (c3N hBi) (by omega)]
        simp
      have e2 : sumR (fun k => yP m n B (fun s => decide (s < t + 1)) f k * B j k) n = sumR (fun k => yP m n B (fun s => decide (s < t)) f k * B j k) n + sumR (fun k => if k = (gproc m B n).cs.getD t 0 then -((a0g m B n).M t f) * B j k else 0) n := by
        have := a2y 1 1 (fun k => yP m n B (fun s => decide (s < t)) f k * B j k) (fun k => if k = (gproc m B n).cs.getD t 0 then -((a0g m B n).M t f) * B j k else 0) n
        rw [show sumR (fun k => yP m n B (fun s => decide (s < t)) f k * B j k) n + sumR (fun k => if k = (gproc m B n).cs.getD t 0 then -((a0g m B n).M t f) * B j k else 0) n = 1 * sumR (fun k => yP m n B (fun s => decide (s < t)) f k * B j k) n + 1 * sumR (fun k => if k = (gproc m B n).cs.getD t 0 then -((a0g m B n).M t f) * B j k else 0) n by grind, ← this]
        refine a0p fun k hk => ?_
        rw [← hst k]
        by_cases e : k = (gproc m B n).cs.getD t 0
        · rw [if_pos e, if_pos e, e, hold]; grind
        · rw [if_neg e, if_neg e]; grind
      rw [e2, ih, a7i hc (fun k _ hne => by rw [if_neg hne]), if_pos rfl]
      simp only [sumR]
      grind
  have hall := key _ (Nat.le_refl _)
  have e3 : sumR (fun k => yP m n B (fun s => decide (s < (gproc m B n).cs.length)) f k * B j k) n = sumR (fun k => yP m n B yesP f k * B j k) n := a0p fun k _ => by
    rw [e0L (P := fun s => decide (s < (gproc m B n).cs.length)) f (fun s hs => by simpa using hs) k]
  rw [← e3, hall, hrow]
  grind
end
end Go.Abs
namespace Go.Abs
theorem d8m (b : List (List ZI)) {j l : Nat} (hj : j < wid b) (hl : l < b.length) : Bm (a0k b) j l = ((zg (mg b l) j : Int) : Rat) := by
  unfold Bm a0k
  rw [c8W hj, a6I hl]
section
variable {b : List (List ZI)} {e : Nat} (hm : Mok e b) (h0 : elE b = 0)
include hm h0
theorem d2O {i : Nat} (hi : i < a0G (wid b) b.length (Bm (a0k b))) : c4p (vec b.length (a1a (outI ((a0g (a0G (wid b) b.length (Bm (a0k b))) (a1h (wid b) b.length (Bm (a0k b))) b.length).M i) b.length) b.length)) b = vec (wid b) fun _ => 0 := by
  obtain ⟨hn, hw, _, _⟩ := a2J h0
  have hB := b5L (b8h hm)
  unfold c4p
  refine a4W fun j hj => ?_
  have ho := c5k (nr := a0G (wid b) b.length (Bm (a0k b))) (n := b.length) (j := j) (B := Bm (a0k b)) (N := a1h (wid b) b.length (Bm (a0k b))) (fun i hi => d2N hB hi hj) b.length i hi
  generalize (a0g (a0G (wid b) b.length (Bm (a0k b))) (a1h (wid b) b.length (Bm (a0k b))) b.length).M i = x at *
  unfold Orth at ho
  unfold cmbS
  obtain ⟨s, hs⟩ : ∃ s, s = sgF (outI x b.length) b.length * (a2b (outI x b.length) b.length : Int) := ⟨_, rfl⟩
  by_cases hz : Nz (outI x b.length) b.length
  · have hs0 : s ≠ 0 := by rw [hs]; exact d2r hz
    have h1 : (s : Rat) * ((b0q (fun l => zg (vec b.length (a1a (outI x b.length) b.length)) l * zg (mg b l) j) b.length : Int) : Rat) = 0 := by
      rw [b8j]
      have e1 := a8C (fun l => ((zg (vec b.length (a1a (outI x b.length) b.length)) l * zg (mg b l) j : Int) : Rat)) (s : Rat) b.length
      rw [← e1]
      have e2 := a8C (fun l => x l * Bm (a0k b) j l) ((a0O x b.length : Nat) : Rat) b.length
      rw [ho] at e2
      have e3 : sumR (fun l => (s : Rat) * ((zg (vec b.length (a1a (outI x b.length) b.length)) l * zg (mg b l) j : Int) : Rat)) b.length = sumR (fun l => ((a0O x b.length : Nat) : Rat) * (x l * Bm (a0k b) j l)) b.length := by
        refine a0p fun l hl => ?_
        rw [a6I hl, d8m b hj hl, Rat.intCast_mul]
        have o1 := a4Y x hl
        have p1 := a2S (w := outI x b.length) hl
        rw [← hs] at p1
        rw [p1, Rat.intCast_mul] at o1
        generalize ((a1a (outI x b.length) b.length l : Int) : Rat) = p at *
        generalize ((zg (mg b l) j : Int) : Rat) = z at *
        generalize ((a0O x b.length : Nat) : Rat) = L at *
        generalize (s : Rat) = s' at *
        generalize x l = y at *
        grind
      rw [e3, e2]; grind
    rcases Rat.mul_eq_zero.1 h1 with h | h
    · exact absurd h (a4v hs0)
    · exact Rat.intCast_inj.1 (by rw [h]; rfl)
  · have hzero : ∀ l, l < b.length → outI x b.length l = 0 := fun l hl => Classical.byContradiction fun h => hz ⟨l, hl, h⟩
    have : ∀ l, l < b.length → zg (vec b.length (a1a (outI x b.length) b.length)) l * zg (mg b l) j = 0 := fun l hl => by
      rw [a6I hl]
      unfold a1a
      rw [hzero l hl]; simp
    rw [b8k (g := fun _ => 0) this]
    have z : ∀ n, b0q (fun _ => 0) n = 0 := by
      intro n
      induction n with
      | zero => rfl
      | succ n ih => rw [b0q, ih]; rfl
    exact z _
theorem c7h {i : Nat} (hi : i < a0G (wid b) b.length (Bm (a0k b))) : 0 ≤ b3s (vec b.length (a1a (outI ((a0g (a0G (wid b) b.length (Bm (a0k b))) (a1h (wid b) b.length (Bm (a0k b))) b.length).M i) b.length) b.length)) := by
  obtain ⟨hn, hw, _, _⟩ := a2J h0
  have hB := b5L (b8h hm)
  have hrk := c5o (n := b.length) hB hw
  obtain ⟨l, hl0, _, h2⟩ := c3u (n := b.length) hB hw
  have hcs := (a1M (a4v hl0) (a0G (wid b) b.length (Bm (a0k b))) (a1h (wid b) b.length (Bm (a0k b))) b.length).1
  have hr2 : i < (gproc (a0G (wid b) b.length (Bm (a0k b))) (a0Z (l : Rat) (a1h (wid b) b.length (Bm (a0k b)))) b.length).cs.length := by rw [hcs, hrk]; exact hi
  obtain ⟨q1, _⟩ := c3f (m := a0G (wid b) b.length (Bm (a0k b))) (n := b.length) (b7g h2) hr2 (k := (gproc (a0G (wid b) b.length (Bm (a0k b))) (a0Z (l : Rat) (a1h (wid b) b.length (Bm (a0k b)))) b.length).cs.getD i 0) (a1m hr2)
  have hlt := a1m hr2
  have eM : (a0g (a0G (wid b) b.length (Bm (a0k b))) (a0Z (l : Rat) (a1h (wid b) b.length (Bm (a0k b)))) b.length).M i = (a0g (a0G (wid b) b.length (Bm (a0k b))) (a1h (wid b) b.length (Bm (a0k b))) b.length).M i := funext fun k => by rw [c6z (a4v hl0), if_pos (by rw [hrk]; exact hi)]
  unfold wI at q1
  rw [eM] at q1
  generalize (gproc (a0G (wid b) b.length (Bm (a0k b))) (a0Z (l : Rat) (a1h (wid b) b.length (Bm (a0k b)))) b.length).cs.getD i 0 = k at *
  rcases a4R (vec b.length (a1a (outI ((a0g (a0G (wid b) b.length (Bm (a0k b))) (a1h (wid b) b.length (Bm (a0k b))) b.length).M i) b.length) b.length)) with ⟨t, _, _, _, h, _⟩ | ⟨h, _⟩
  · rw [h]; omega
  · have := h k (by rw [a0a]; exact hlt)
    rw [a6I hlt] at this
    exact absurd this q1
end
theorem d3w (n : Nat) : b3s (vec n fun _ => 0) = -1 := by
  rcases a4R (vec n fun _ => 0) with ⟨t, h1, h2, _⟩ | ⟨_, h, _⟩
  · rw [a0a] at h1; exact absurd (a6I h1) h2
  · exact h
section
variable {b : List (List ZI)} {v : List ZI} {e : Nat} (hm : Mok e b) (hv : Vok e v)
include hm hv
/-- The solution, times the denominator. -/
theorem d2f (hone : (gproc v.length (Sm b v v.length) (b.length + 1)).cs.length = b.length) (hci : ∀ i, i < b.length → (gproc v.length (Sm b v v.length) (b.length + 1)).cs.getD i 0 = i) {j : Nat} (hj : j < v.length) :
    ((zg v j : Int) : Rat) = sumR (fun i => ((zg (mg b i) j : Int) : Rat) * solX v.length (Sm b v v.length) b.length i) b.length := by
  have hSi : ∀ i k, ∃ z : Int, Sm b v v.length i k = z := b7g (d7M b v hm hv v.length)
  have h := b3a (n := v.length) hSi (t := b.length + 1) (a := j) (k := b.length) hj (by omega)
  rw [hone] at h
  have e1 : Sm b v v.length j b.length = ((zg v j : Int) : Rat) := by unfold Sm; rw [if_pos hj, if_neg (Nat.lt_irrefl _), if_pos rfl]
  rw [← e1, h]
  refine a0p fun i hi => ?_
  rw [hci i hi]
  have e2 : Sm b v v.length j i = ((zg (mg b i) j : Int) : Rat) := by unfold Sm; rw [if_pos hj, if_pos hi]
  rw [e2]; rfl
theorem d5p (hone : (gproc v.length (Sm b v v.length) (b.length + 1)).cs.length = b.length) (hci : ∀ i, i < b.length → (gproc v.length (Sm b v v.length) (b.length + 1)).cs.getD i 0 = i) (hl : v.length = wid b) :
    c4p (vec b.length (outI (solX v.length (Sm b v v.length) b.length) b.length)) b = vec v.length fun j => (a0O (solX v.length (Sm b v v.length) b.length) b.length : Int) * zg v j := by
  unfold c4p
  rw [hl]
  refine a4W fun j hj => ?_
  have hs := d2f hm hv hone hci (j := j) (by omega)
  rw [← hl]
  generalize solX v.length (Sm b v v.length) b.length = x at *
  unfold cmbS
  refine Rat.intCast_inj.1 ?_
  rw [b8j, Rat.intCast_mul, hs]
  have e1 := a8C (fun i => ((zg (mg b i) j : Int) : Rat) * x i) (((a0O x b.length : Nat) : Int) : Rat) b.length
  rw [← e1]
  refine a0p fun i hi => ?_
  rw [a6I hi, Rat.intCast_mul, ← a4Y x hi]
  have : (((a0O x b.length : Nat) : Int) : Rat) = ((a0O x b.length : Nat) : Rat) := rfl
  rw [this]
  grind
/-- By Cramer's determinants it is the same. -/
theorem d0o (hn : b.length ≤ 64) (hone : (gproc v.length (Sm b v v.length) (b.length + 1)).cs.length = b.length) (hci : ∀ i, i < b.length → (gproc v.length (Sm b v v.length) (b.length + 1)).cs.getD i 0 = i) (hl : v.length = b.length) {i : Nat} (hi : i < b.length) :
    outI (solX v.length (Sm b v v.length) b.length) b.length i * detI b.length (Bm b) = detI b.length (Bm (b.set i v)) * (a0O (solX v.length (Sm b v v.length) b.length) b.length : Int) := by
  have hs := fun j (hj : j < b.length) => d2f hm hv hone hci (j := j) (by omega)
  generalize solX v.length (Sm b v v.length) b.length = x at *
  have hd1 := c4n hm hn
  have hd2 := c4n (c3x hm hv i) hn
  have hc := d4v (n := b.length) (A := fun r c => Bm b c r) x hi b.length (Nat.le_refl _)
  rw [if_pos hi, b7G b.length (Bm b)] at hc
  have e1 : det b.length (Bm (b.set i v)) = det b.length (a1H (fun r c => Bm b c r) i fun r => sumR (fun j => Bm b j r * x j) b.length) := by
    rw [← b7G b.length (Bm (b.set i v))]
    refine a0D fun r c hr hc => ?_
    unfold a1H Bm
    by_cases e : c = i
    · subst e
      rw [if_pos rfl]
      have : mg (b.set c v) c = v := by rw [a5A (by rw [List.length_set]; exact hi)]; simp
      rw [this]
      exact hs r hr
    · rw [if_neg e]
      have : mg (b.set i v) c = mg b c := by
        unfold mg; rw [List.getD_eq_getElem?_getD, List.getD_eq_getElem?_getD, List.getElem?_set_ne (fun h => e h.symm)]
      rw [this]
  rw [e1, hc] at hd2
  refine Rat.intCast_inj.1 ?_
  rw [Rat.intCast_mul, Rat.intCast_mul, hd1, hd2]
  have o := a4Y x hi
  have : (((a0O x b.length : Nat) : Int) : Rat) = ((a0O x b.length : Nat) : Rat) := rfl
  rw [this, ← o]
  grind
end
end Go.Abs
namespace Go.Abs
def d1u : ACode := (.seq (.region a2l false) (.seq (.seq (.region a2k false) (.cond (.t 112) (.seq (.region a3s false) (.ret)) (.skip))) (.seq (.seq (.region a3r false) (.cond (.t 122) (.seq (.region a5Y false) (.ret)) (.skip))) (.seq (.seq (.region a3q false) (.block 2 (.loop a6R))) (.seq (.region a3o false) (.ret))))))
noncomputable def gCx (H : Heap) : Cx := ⟨Pr, fun _ _ => false, a4w, 153, [.tmp 4], H.length⟩
theorem e1d {b : List (List ZI)} {e : Nat} (hm : Mok e b) (h0 : elE b = 0) : a0G (wid b) b.length (Bm (a0k b)) + b0s b.length (wid b) (Bm b) = b.length := by
  have h := c7i (m := wid b) (n := b.length) (B := Bm (a0k b))
  have h2 : (gproc (wid b) (Bm (a0k b)) b.length).cs.length = (gproc b.length (Bm b) (wid b)).cs.length :=
    d2D (n := b.length) (B := Bm b) (m := wid b) (T := Bm (a0k b)) (fun i k => ⟨_, rfl⟩) (fun i k => ⟨_, rfl⟩) fun i k hi hk => by rw [d8m b hi hk]; rfl
  unfold b0s
  omega
theorem d3T (b : List (List ZI)) (hb : Mok 1048576 b) {H L : Heap} (hH : a0S H) : Safe (gCx H) [.code (.region a1A false), .code d1u] [(0, matV b)] (hap H L) fun r' H' => r' = .bool true ∧ ∃ L, H' = hap H L := by
  have hb' := hb.mono (show 1048576 ≤ 17592186044416 by omega)
  unfold d1u gCx
  by_cases h0 : elE b = 0
  · obtain ⟨hn, hw, hr, hrows⟩ := a2J h0
    have hrk := e1d hb h0
    have hnr := c5o (n := b.length) (b5L (b8h hb)) hw
    have hle := b3d (m := wid b) (n := b.length) (B := Bm (a0k b))
    have hcomb := fun i hi => d2O (b := b) hb h0 (i := i) hi
    have hnz := fun i hi => c7h (b := b) hb h0 (i := i) hi
    have hRl : (a1G (a0G (wid b) b.length (Bm (a0k b))) (a1h (wid b) b.length (Bm (a0k b))) b.length).length = a0G (wid b) b.length (Bm (a0k b)) := by rw [a1G, a0c]; exact hnr
    have hRg : ∀ i (h : i < (a1G (a0G (wid b) b.length (Bm (a0k b))) (a1h (wid b) b.length (Bm (a0k b))) b.length).length), (a1G (a0G (wid b) b.length (Bm (a0k b))) (a1h (wid b) b.length (Bm (a0k b))) b.length)[i] = vec b.length (a1a (outI ((a0g (a0G (wid b) b.length (Bm (a0k b))) (a1h (wid b) b.length (Bm (a0k b))) b.length).M i) b.length) b.length) := fun i h => a3H h
    have hok := d5R hb h0
    have hpn := d5H b hb c9e h0
    have hrank := b2b b hb b5p h0
    have hK := d6A
    generalize KB (KB 1048576) + 1 = K at *
    generalize a1G (a0G (wid b) b.length (Bm (a0k b))) (a1h (wid b) b.length (Bm (a0k b))) b.length = R at *
    generalize (a0g (a0G (wid b) b.length (Bm (a0k b))) (a1h (wid b) b.length (Bm (a0k b))) b.length).M = M at *
    generalize a0G (wid b) b.length (Bm (a0k b)) = nr at *
    generalize b0s b.length (wid b) (Bm b) = rk at *
    refine Safe.rg rfl ?_
    simp only [a1A, E3, seval]
    first | refine (hpn).acall ?_ | refine (hpn).dcall ?_
    try simp only [E3, seval]
    refine Safe.rg rfl ?_
    simp only [a2l, E3, seval]
    first | refine (hrank).acall ?_ | refine (hrank).dcall ?_
    try simp only [E3, seval]
    refine Safe.rg rfl ?_
    simp only [a2k, E3, seval]
    refine Safe.cd rfl ?_
    simp only [E3, seval]
    have hsub : IntKind.wrap .i64 ((b.length : Int) - (rk : Int)) = (nr : Int) := by rw [a0b] <;> omega
    refine Safe.rg rfl ?_
    simp only [a3r, b5d, hRl, hsub, E3, seval]
    refine Safe.cd rfl ?_
    simp only [E3, seval]
    refine Safe.rg rfl ?_
    simp only [a3q, E3, seval]
    refine Safe.lp rfl ?_
    refine Safe.keep [0, 13, 17] ?_
    simp only [E3, seval]
    refine Safe.loopN nr (fun i => [(0, matV b), (13, matV R), (17, .int .i64 i)]) (fun _ => hap H L) rfl rfl (fun i hi ih => ?_) ?_
    · have hlt : ((i : Int) < (nr : Int)) = True := eq_true (by omega)
      have hiw : IntKind.wrap .i64 ((i : Int) + 1) = ((i + 1 : Nat) : Int) := by rw [a0b] <;> omega
      have hRi : i < R.length := by omega
      have hrow := hRg i hRi
      have hvk : Vok K R[i] := hok.get hRi
      have hlx : R[i].length = b.length := by rw [hrow, a0a]
      have hcm := c6n R[i] b K 1048576 hvk hb (by omega) hr hlx
      have hz := hcomb i hi
      rw [← hrow] at hz
      rw [hz] at hcm
      have hl1 := a3f (vec (wid b) fun _ => 0) ((a4V (k := 1) (f := fun _ => 0) (by omega) fun _ _ => a2G 1).mono (by omega))
      rw [d3w] at hl1
      have hl2 := a3f R[i] (hvk.mono (by omega))
      have hnn := hnz i hi
      rw [← hrow] at hnn
      have hneg : (b3s R[i] < 0) = False := eq_false (by omega)
      refine Safe.inLoop ?_
      refine Safe.rg rfl ?_
      simp only [a3p, b5d, hRl, hlt, E3, seval]
      refine Safe.cd rfl ?_
      simp only [E3, seval]
      refine Safe.rg rfl ?_
      simp only [a5X, a2g _ R .i64 i hRi, E3, seval]
      first | refine (hcm).acall ?_ | refine (hcm).dcall ?_
      try simp only [E3, seval]
      refine Safe.rg rfl ?_
      simp only [a5W, E3, seval]
      refine hl1.acall ?_
      simp only [a2g _ R .i64 i hRi, E3, seval]
      refine hl2.acall ?_
      simp only [hneg, E3, seval]
      refine Safe.cd rfl ?_
      simp only [E3, seval]
      refine Safe.rg rfl ?_
      simp only [a5V, hiw, E3, seval]
      refine Safe.keep [0, 13, 17] ?_
      simp only [E3, seval]
      exact ih
    · refine Safe.inLoop ?_
      refine Safe.rg rfl ?_
      simp only [a3p, b5d, hRl, Int.lt_irrefl, E3, seval]
      refine Safe.cd rfl ?_
      simp only [E3, seval]
      refine Safe.rg rfl ?_
      simp only [a3o, E3, seval]
      refine Safe.rt rfl ?_
      simp only [E3, seval]
      exact ⟨_, rfl⟩
  · have h0' : (elE b = 0) = False := eq_false h0
    refine Safe.rg rfl ?_
    simp only [a1A, E3, seval]
    first | refine (c5i b hb h0).acall ?_ | refine (c5i b hb h0).dcall ?_
    try simp only [E3, seval]
    refine Safe.rg rfl ?_
    simp only [a2l, E3, seval]
    first | refine (c8K b hb h0).acall ?_ | refine (c8K b hb h0).dcall ?_
    try simp only [E3, seval]
    refine Safe.rg rfl ?_
    simp only [a2k, h0', E3, seval]
    refine Safe.cd rfl ?_
    simp only [E3, seval]
    refine Safe.rg rfl ?_
    simp only [a3s, E3, seval]
    refine Safe.rt rfl ?_
    simp only [E3, seval]
    exact ⟨_, rfl⟩
end Go.Abs
namespace Go.Abs
def SolT (b : List (List ZI)) (v w : List ZI) (z : Int) : Prop := 0 < z ∧ elE b = 0 ∧ w.length = b.length ∧ (0 < b.length → c4p w b = vec v.length fun j => z * zg v j) ∧ ((0 < b.length → v.length = wid b) ∧ (v.length = b.length → ∀ i, i < b.length → zg w i * detI b.length (Bm b) = detI b.length (Bm (b.set i v)) * z))
theorem c5f (b : List (List ZI)) (v : List ZI) (hb : Mok 1048576 b) (hv : Vok 1048576 v) : ∃ (w : List ZI) (z e : Int), Vok (KB 1048576 + 1) w ∧ z.natAbs < LB ^ (KB 1048576 + 1) ∧ a0f Pr a0H [matV b, vecV v] (.tup [vecV w, Z z, .int .i64 e]) ∧ (e = 0 → SolT b v w z) := by
  have hK3 := c9e
  by_cases h0 : elE b = 0
  · obtain ⟨hn64, hw, hrc, hrows⟩ := a2J h0
    have hBi : ∀ i k, ∃ z : Int, Bm b i k = z := fun i k => ⟨_, rfl⟩
    have hrn := (a3v (n := b.length) hBi (wid b)).len
    have hB := d7M b v hb hv v.length
    have hSi : ∀ i k, ∃ z : Int, Sm b v v.length i k = z := fun i k => by obtain ⟨z, h, _⟩ := hB i k; exact ⟨z, h⟩
    have fin : ∀ (hsz : v.length ≤ 64 ∨ b.length = 0) (hcase : 0 < b.length → v.length = wid b) (hfull : (gproc v.length (Sm b v v.length) b.length).cs.length = b.length)
        (p1 : (gproc v.length (Sm b v v.length) (b.length + 1)).cs.length = b.length → a0f Pr a0H [matV b, vecV v] (.tup [vecV (vec b.length (outI (solX v.length (Sm b v v.length) b.length) b.length)), Z (a0O (solX v.length (Sm b v v.length) b.length) b.length : Nat), .int .i64 0]))
        (p2 : (gproc v.length (Sm b v v.length) (b.length + 1)).cs.length = b.length + 1 → a0f Pr a0H [matV b, vecV v] (.tup [vecV [], Z 0, .int .i64 6])),
        ∃ (w : List ZI) (z e : Int), Vok (KB 1048576 + 1) w ∧ z.natAbs < LB ^ (KB 1048576 + 1) ∧ a0f Pr a0H [matV b, vecV v] (.tup [vecV w, Z z, .int .i64 e]) ∧ (e = 0 → SolT b v w z) := by
      intro hsz hcase hfull p1 p2
      have hcv : b.length ≤ v.length := by
        have := (a3v (n := v.length) hSi b.length).len
        omega
      have hci := (b8w hfull).2.1
      rcases (b8w hfull).1 with hone | hone
      · have hxs : Sz (solX v.length (Sm b v v.length) b.length) b.length (KB 1048576 + 1) := by
          rcases hsz with h | h
          · exact e0T hB h hcv
          · exact ⟨1, by decide, Nat.one_lt_pow (by omega) (by decide), fun i hi => by omega⟩
        refine ⟨_, _, _, a4V (by omega) fun i hi => c5j hxs hi, ?_, p1 hone, fun _ => ?_⟩
        · exact e1C hxs (Nat.le_refl _)
        · refine ⟨?_, h0, a0a .., fun hp => d5p hb hv hone hci (hcase hp), hcase, fun hl i hi => ?_⟩
          · have := a5j (solX v.length (Sm b v v.length) b.length) b.length
            omega
          · rw [a6I hi]
            exact d0o hb hv hn64 hone hci hl hi
      · exact ⟨_, _, _, b4D _, a2G _, p2 hone, fun h => by omega⟩
    by_cases hn : b.length = 0
    · refine fin (.inr hn) (fun h => by omega) (by rw [hn]; rfl) (fun h => c7b b v hb hv h0 hn h (by omega)) fun h => b7k b v hb hv h0 hn h (by omega)
    · have hn' : 0 < b.length := by omega
      by_cases hl : v.length = wid b
      · by_cases hr : b0s b.length (wid b) (Bm b) = b.length
        · have hfull := a8B b v hb hv h0 hn' hl hr
          have p1 := d2F b v hb hv hK3 h0 hn' hl hr
          have p2 := c7c b v hb hv hK3 h0 hn' hl hr
          rw [← hl] at hfull p1 p2
          exact fin (.inl (by omega)) (fun _ => hl) hfull p1 p2
        · have hr' : b0s b.length (wid b) (Bm b) < b.length := by unfold b0s at *; omega
          exact ⟨_, _, _, b4D _, a2G _, d0v b v hb hK3 h0 hn' hl hr', fun h => by omega⟩
      · exact ⟨_, _, _, b4D _, a2G _, d0u b v hb h0 hn' hl, fun h => by omega⟩
  · exact ⟨_, _, _, b4D _, a2G _, d0w b v hb h0, fun h => absurd h h0⟩
end Go.Abs
namespace Go.Abs
theorem c6l (b : List (List ZI)) (v : List ZI) (hb : Mok 1048576 b) (hv : Vok 1048576 v) : ∃ (y : List ZI) (c e : Int), Vok (KB 1048576 + 1) y ∧ c.natAbs < LB ^ (KB 1048576 + 1) ∧ a0f Pr a2F [matV b, vecV v] (.tup [vecV y, Z c, .int .i64 e]) ∧ (e = 0 → y.length = b.length ∧ v.length = b.length ∧ c = detI b.length (Bm b) ∧ ∀ i, i < b.length → zg y i = detI b.length (Bm (b.set i v))) := by
  by_cases h0 : sqE b = 0
  · have hn := (b1Y h0).1
    by_cases hl : v.length = b.length
    · refine ⟨_, _, _, ?_, d4o hb hn b5p, d0y b v hb hv b5p h0 hl, fun _ => ⟨a0a .., hl, rfl, fun i hi => a6I hi⟩⟩
      exact a4V (by omega) fun i hi => d4o (c3x hb hv i) hn b5p
    · exact ⟨_, _, _, b4D _, a2G _, c7d b v hb h0 hl, fun h => by omega⟩
  · exact ⟨_, _, _, b4D _, a2G _, c7e b v hb h0, fun h => absurd h h0⟩
theorem c3X (b : List (List ZI)) (v : List ZI) (hb : Mok 1048576 b) (hv : Vok 1048576 v) : a0f Pr a4w [matV b, vecV v] (.bool true) := by
  obtain ⟨w, z, e, hw, hz, h1, hsol⟩ := c5f b v hb hv
  obtain ⟨y, c, e2, hy, hc, h2, hcr2⟩ := c6l b v hb hv
  have hK := b5p
  generalize KB 1048576 + 1 = K at *
  refine a0f.intro b5n b5m (Nat.le_of_ble_eq_true rfl) (.bool _) fun H hH => ?_
  have fin := fun L => d3T b hb hH (L := L)
  unfold gCx d1u at fin
  refine Safe.rg rfl ?_
  simp only [a6Q, E3, seval]
  refine Safe.rg rfl ?_
  simp only [a6P, E3, seval]
  first | refine (c2V).acall ?_ | refine (c2V).dcall ?_
  try simp only [E3, seval]
  refine Safe.cd rfl ?_
  simp only [E3, seval]
  refine Safe.rg rfl ?_
  simp only [a6O, E3, seval]
  first | refine (h1).acall ?_ | refine (h1).dcall ?_
  try simp only [E3, seval]
  by_cases he : e = 0
  · obtain ⟨hzp, h0, hwl, hcomb, hlen, hcr⟩ := hsol he
    obtain ⟨hn, hwd, hr, hrows⟩ := a2J h0
    subst he
    have hsl : z.sign = 1 := Int.sign_eq_one_of_pos hzp
    have hle1 : ((1 : Int) ≤ 0) = False := eq_false (by omega)
    have hcm := c6n w b K 1048576 hw hb (by omega) hr hwl
    have hzs := a0K (canZ z) ((a0z hz).mono (by omega))
    have aft : Safe (gCx H) [.code (.region a3I false), .code (.seq (.region a2C false) (.cond (.t 70) (.seq (.region a3u false) (.block 0 (.loop a6S))) (.skip))), .code (.seq (.region a1A false) d1u)] [(0, matV b), (1, vecV v), (5, vecV w), (6, .loc (lid H 0) 0 0)] (hap H [some ⟨2, [Z z]⟩]) fun r' H' => r' = .bool true ∧ ∃ L, H' = hap H L := by
      unfold gCx d1u
      refine Safe.rg rfl ?_
      simp only [a3I, E3, seval]
      first | refine (h2).acall ?_ | refine (h2).dcall ?_
      try simp only [E3, seval]
      by_cases he2 : e2 = 0
      · obtain ⟨hyl, hvl, hcd, hyi⟩ := hcr2 he2
        subst he2
        have hcs := a0K (canZ c) ((a0z hc).mono (by omega))
        refine Safe.rg rfl ?_
        simp only [a2C, E3, seval]
        first | refine (hcs).acall ?_ | refine (hcs).dcall ?_
        try simp only [E3, seval]
        by_cases hc0 : c = 0
        · simp only [a0y, hc0, Int.sign_zero, E3, seval]
          refine Safe.cd rfl ?_
          simp only [E3, seval]
          refine Safe.keep [0] ?_
          simp only [E3, seval]
          repeat (first | refine Safe.seq ?_ | refine Safe.skip ?_ | refine Safe.inBlock ?_ | refine Safe.block ?_ | refine Safe.exit rfl ?_)
          exact fin _
        · have hsn : (c.sign = 0) = False := eq_false fun h => hc0 (Int.sign_eq_zero_iff_zero.1 h)
          simp only [a0y, hsn, E3, seval]
          refine Safe.cd rfl ?_
          simp only [E3, seval]
          refine Safe.rg rfl ?_
          simp only [a3u, E3, seval]
          refine Safe.lp rfl ?_
          refine Safe.keep [0, 5, 6, 10, 11, 12] ?_
          try simp only [E3, seval]
          refine Safe.loopN (b.length) (fun i => [(0, matV b), (5, vecV w), (6, .loc (lid H 0) 0 0), (10, vecV y), (11, .loc (lid H 1) 0 0), (12, .int .i64 i)]) (fun i => hap H [some ⟨2, [Z z]⟩, some ⟨2, [Z c]⟩]) rfl rfl (fun i hi ih => ?_) ?_
          · have hlt : ((i : Int) < (b.length : Int)) = True := eq_true (by omega)
            have hge : ((i : Int) ≥ (b.length : Int)) = False := eq_false (by omega)
            have hiw : IntKind.wrap .i64 ((i : Int) + 1) = ((i + 1 : Nat) : Int) := by rw [a0b] <;> omega
            have hiw1 : i < w.length := by omega
            have hiy1 : i < y.length := by omega
            have hm1 := a2a w[i] (canZ c) K K (hw.get hiw1) (a0z hc) (by omega)
            have hm2 := a2a y[i] (canZ z) K K (hy.get hiy1) (a0z hz) (by omega)
            have heq := hcr hvl i hi
            rw [← hyi i hi, ← hcd, b2T hiw1, b2T hiy1] at heq
            rw [a0y, heq] at hm1
            rw [a0y] at hm2
            have hlt2 : (y[i].z * z).natAbs < LB ^ (K + K) := by
              rw [Int.natAbs_mul, Nat.pow_add]
              exact Nat.mul_lt_mul'' (hy.get hiy1).abs hz
            have heqc := c9t hlt2 (by omega)
            refine Safe.inLoop ?_
            refine Safe.rg rfl ?_
            simp only [a3t, hyl, hlt, E3, seval]
            refine Safe.cd rfl ?_
            simp only [E3, seval]
            refine Safe.rg rfl ?_
            simp only [a6a, hwl, hge, a0B _ w .i64 i hiw1, a0B _ y .i64 i hiy1, E3, seval]
            first | refine (hm1).acall ?_ | refine (hm1).dcall ?_
            try simp only [E3, seval]
            simp only [a0B _ y .i64 i hiy1, E3, seval]
            first | refine (hm2).acall ?_ | refine (hm2).dcall ?_
            try simp only [E3, seval]
            first | refine (heqc).acall ?_ | refine (heqc).dcall ?_
            try simp only [E3, seval]
            refine Safe.cd rfl ?_
            simp only [E3, seval]
            refine Safe.rg rfl ?_
            simp only [a5Z, hiw, E3, seval]
            refine Safe.keep [0, 5, 6, 10, 11, 12] ?_
            simp only [E3, seval]
            exact ih
          · refine Safe.inLoop ?_
            refine Safe.rg rfl ?_
            simp only [a3t, hyl, Int.lt_irrefl, E3, seval]
            refine Safe.cd rfl ?_
            simp only [E3, seval]
            refine Safe.keep [0] ?_
            simp only [E3, seval]
            repeat (first | refine Safe.seq ?_ | refine Safe.skip ?_ | refine Safe.inBlock ?_ | refine Safe.block ?_ | refine Safe.exit rfl ?_)
            exact fin _
      · have he2' : (e2 = 0) = False := eq_false he2
        refine Safe.rg rfl ?_
        simp only [a2C, he2', E3, seval]
        refine Safe.cd rfl ?_
        simp only [E3, seval]
        refine Safe.keep [0] ?_
        simp only [E3, seval]
        repeat (first | refine Safe.seq ?_ | refine Safe.skip ?_ | refine Safe.inBlock ?_ | refine Safe.block ?_ | refine Safe.exit rfl ?_)
        exact fin _
    unfold gCx d1u at aft
    refine Safe.rg rfl ?_
    simp only [a3L, E3, seval]
    refine Safe.cd rfl ?_
    simp only [E3, seval]
    by_cases hn0 : 0 < b.length
    · have hg : ((b.length : Int) > 0) = True := eq_true (by omega)
      have hti := c7t (canZ z) v K 1048576 (a0z hz) hv (by omega)
      rw [a0y] at hti
      have hvl := hv.len
      have hok : Vok 17592186044416 (vec v.length fun i => z * zg v i) := by
        refine d5b (k := K + 1048576) (by omega) (fun k hk => ?_) (by omega)
        rw [Int.natAbs_mul, Nat.pow_add]
        exact Nat.mul_lt_mul'' hz (hv.abs k)
      have hor := d0z _ _ hok hok
      rw [c5m.2 rfl] at hor
      rw [hcomb hn0] at hcm
      refine Safe.rg rfl ?_
      simp only [a3K, E3, seval]
      first | refine (hcm).acall ?_ | refine (hcm).dcall ?_
      try simp only [E3, seval]
      refine Safe.rg rfl ?_
      simp only [a3J, E3, seval]
      first | refine (hzs).acall ?_ | refine (hzs).dcall ?_
      try simp only [E3, seval]
      simp only [a0y, hsl, hle1, hg, E3, seval]
      first | refine (hti).acall ?_ | refine (hti).dcall ?_
      try simp only [E3, seval]
      first | refine (hor).acall ?_ | refine (hor).dcall ?_
      try simp only [E3, seval]
      refine Safe.cd rfl ?_
      simp only [E3, seval]
      refine Safe.keep [0, 1, 5, 6] ?_
      simp only [E3, seval]
      repeat (first | refine Safe.seq ?_ | refine Safe.skip ?_ | refine Safe.inBlock ?_ | refine Safe.block ?_ | refine Safe.exit rfl ?_)
      exact aft
    · have hg : ((b.length : Int) > 0) = False := eq_false (by omega)
      refine Safe.rg rfl ?_
      simp only [a3K, E3, seval]
      first | refine (hcm).acall ?_ | refine (hcm).dcall ?_
      try simp only [E3, seval]
      refine Safe.rg rfl ?_
      simp only [a3J, E3, seval]
      first | refine (hzs).acall ?_ | refine (hzs).dcall ?_
      try simp only [E3, seval]
      simp only [a0y, hsl, hle1, hg, E3, seval]
      refine Safe.cd rfl ?_
      simp only [E3, seval]
      refine Safe.keep [0, 1, 5, 6] ?_
      simp only [E3, seval]
      repeat (first | refine Safe.seq ?_ | refine Safe.skip ?_ | refine Safe.inBlock ?_ | refine Safe.block ?_ | refine Safe.exit rfl ?_)
      exact aft
  · have he' : (e = 0) = False := eq_false he
    refine Safe.rg rfl ?_
    simp only [a3L, he', E3, seval]
    refine Safe.cd rfl ?_
    simp only [E3, seval]
    refine Safe.keep [0] ?_
    simp only [E3, seval]
    repeat (first | refine Safe.seq ?_ | refine Safe.skip ?_ | refine Safe.inBlock ?_ | refine Safe.block ?_ | refine Safe.exit rfl ?_)
    exact fin _
end Go.Abs
namespace Go.Abs
open Go.ChangeShapes Go.WideShapes
open Go.Proofs.Ytkljokmnimblnaa.Rows (uptoBulk uptoBulkAll)
section
variable {K : Type} {enc : TypeId × Value → K} {P : Program} {w : World} {base : Nat} {sp : Nat → Bool} {held : Bool}
theorem d7k (d : DataW K) : 1 ≤ uptoBulk d := by
  cases d with
  | lit l => cases l <;> simp [uptoBulk]
  | nil => simp [uptoBulk]
  | ptr d => simp [uptoBulk]
  | slice elems spare => simp [uptoBulk]
  | agg a0A => simp [uptoBulk]
  | iface t d => simp [uptoBulk]
  | map entries => simp [uptoBulk]
  | held h => simp [uptoBulk]
theorem c4s {d : DataW K} : ∀ {l : List (DataW K)}, d ∈ l → uptoBulk d ≤ uptoBulkAll l
  | [], h => by cases h
  | x :: r, h => by
    simp only [uptoBulkAll]
    rcases List.mem_cons.1 h with e | e
    · subst e; omega
    · have := c4s e; omega
theorem c9C : ∀ (l : List (DataW K)), l.length ≤ uptoBulkAll l
  | [] => by simp [uptoBulkAll]
  | x :: r => by have := d7k x; have := c9C r; simp only [uptoBulkAll, List.length_cons]; omega
theorem b5D (es rs : List (DataW K)) : uptoBulkAll es + 1 ≤ uptoBulk (.slice es rs) := by simp only [uptoBulk]; omega
theorem b8i {α : Type} (W : α → Nat) : ∀ (ds : List (DataW K)) (xs : List α), xs.length = ds.length → (∀ (i : Nat) a, xs[i]? = some a → W a ≤ uptoBulk (ds.getD i .nil)) → (xs.map W).sum ≤ uptoBulkAll ds
  | [], [], _, _ => by simp
  | d :: ds, x :: xs, h, hw => by
    have h1 := hw 0 x rfl
    have h2 := b8i W ds xs (by simpa using h) fun i a ha => by have := hw (i + 1) a (by simpa using ha); simpa using this
    simp only [List.map_cons, List.sum_cons, uptoBulkAll]
    simp at h1
    omega
  | [], _ :: _, h, _ => by simp at h
  | _ :: _, [], h, _ => by simp at h
theorem c6x (a : Addr) (m j : Nat) : (a.add m).add j = a.add (m + j) := by
  unfold Addr.add
  by_cases hm : m = 0 <;> by_cases hj : j = 0 <;> simp [hm, hj, Nat.add_assoc]
/-- No row is the call's own yet. -/
theorem d2R {φ : Nat → Option Nat} {b : Nat} : ¬ (Emb.mk φ [] w).Mut b := by
  rintro ⟨id, blk, h, _⟩; simp at h
theorem d9q (φ : Nat → Option Nat) (w : World) : HOk ⟨φ, [], w⟩ := ⟨fun id b _ h => by simp at h, fun id b h => by simp at h, fun id b _ h => by simp at h, fun id b h => by simp at h, fun i j b c _ h => by simp at h⟩
/-- A value read xs0 data d stands for the tree a. -/
structure Stands (w : World) (cs : List Value) (a : AV) : Prop where
  one : ∀ c ∈ cs, c.oneCell' = true
  len : cs.length = a.cells.length
  rep : ∀ (φ : Nat → Option Nat) (k : Nat) v c, cs[k]? = some v → a.cells[k]? = some c → Rep ⟨φ, [], w⟩ v c
/-- A slice whose elements' readings stand for trees. -/
theorem c7f {α : Type} (f : α → AV) (good : α → DataW K → Prop) {t e : TypeId} (wd : Nat) (ht : P.underlying t = some (.slice e)) (hc : P.cellsOf e = wd) (hpos : 0 < wd) (hf : ∀ a, (f a).cells.length = wd) (hcl : ∀ a, Cl (f a))
    (hel : ∀ m cs y, DataW.trod enc P w base sp held m e cs = some y → cs.length = wd → ∃ a, good a y.1 ∧ Stands w cs (f a))
    {fuel : Nat} {cs : List Value} {x : DataW K × List MemPlace} (h : DataW.trod enc P w base sp held fuel t cs = some x) :
    ∃ xs0 : List α, Stands w cs (.sl wd (xs0.map f)) ∧ xs0.length ≤ uptoBulk x.1 ∧ (∀ a ∈ xs0, ∃ d : DataW K, good a d ∧ uptoBulk d ≤ uptoBulk x.1) ∧ ∀ W : α → Nat, (∀ a d, good a d → W a ≤ uptoBulk d) → (xs0.map W).sum + 1 ≤ uptoBulk x.1 := by
  rcases DataW.trod_slice ht h with ⟨rfl, rfl⟩ | ⟨ad, len, cap, elems, rest, n, rfl, rfl, rfl, hb, hl, hm, hlen, hget, _, _⟩
  · refine ⟨[], ⟨by simp [Value.oneCell'], rfl, ?_⟩, Nat.zero_le _, by simp, fun W _ => by simp [uptoBulk]⟩
    intro φ k v c hv hc'
    match k with
    | 0 => cases hv; cases hc'; exact c1q wd hpos .nil
    | k + 1 => simp at hv
  · -- each element
    have each : ∀ i, i < len → ∃ a cs', good a ((elems.map (·.1)).getD i .nil) ∧ Stands w cs' (f a) ∧ cs'.length = wd ∧ ∀ j, j < wd → w.cell? (ad.add (i * wd + j)) = cs'[j]? := by
      intro i hi
      have h1 := hget i hi
      have hy : elems[i]? = some (elems[i]'(by omega)) := List.getElem?_eq_getElem (by omega)
      rw [hy, Option.bind_eq_some_iff] at h1
      obtain ⟨cs', h2, h3⟩ := h1
      rw [hc] at h2
      obtain ⟨_, hl2, hcell⟩ := World.cells?_some h2
      obtain ⟨a, g1, g2⟩ := hel n cs' _ h3 hl2
      refine ⟨a, cs', ?_, g2, hl2, fun j hj => ?_⟩
      · rw [List.getD_eq_getElem?_getD, List.getElem?_map, hy]; exact g1
      · have := hcell j hj
        rw [← this]
        rw [c6x]
    -- the list
    have all : ∀ m, m ≤ len → ∃ (xs0 : List α) (vs : List Value), xs0.length = m ∧ vs.length = m * wd ∧ (∀ (i : Nat) a, xs0[i]? = some a → good a ((elems.map (·.1)).getD i .nil)) ∧
        (∀ (k : Nat) v, vs[k]? = some v → w.cell? (ad.add k) = some v ∧ v.oneCell' = true) ∧ (∀ (φ : Nat → Option Nat) (k : Nat) v c, vs[k]? = some v → ((xs0.map f).flatMap AV.cells)[k]? = some c → Rep ⟨φ, [], w⟩ v c) := by
      intro m
      induction m with
      | zero => exact fun _ => ⟨[], [], rfl, by simp, by simp, by simp, by simp⟩
      | succ m ih =>
        intro hm'
        obtain ⟨xs0, vs, q1, q2, q3, q4, q5⟩ := ih (by omega)
        obtain ⟨a, cs', r1, r2, r3, r4⟩ := each m (by omega)
        have hfl : ((xs0.map f).flatMap AV.cells).length = m * wd := by
          rw [a2d (wd := wd) (by intro y hy; obtain ⟨z, _, rfl⟩ := List.mem_map.1 hy; exact hf z), List.length_map, q1]
        refine ⟨xs0 ++ [a], vs ++ cs', by simp [q1], by simp [q2, r3, Nat.add_mul], ?_, ?_, ?_⟩
        · intro i b hb'
          rcases Nat.lt_or_ge i m with hi | hi
          · rw [List.getElem?_append_left (by omega)] at hb'; exact q3 i b hb'
          · have hi' := a0e hb'
            simp at hi'
            have : i = m := by omega
            subst this
            rw [List.getElem?_append_right (by omega)] at hb'
            simp [q1] at hb'
            subst hb'; exact r1
        · intro k v hv
          rcases Nat.lt_or_ge k (m * wd) with hk | hk
          · rw [List.getElem?_append_left (by omega)] at hv; exact q4 k v hv
          · rw [List.getElem?_append_right (by omega), q2] at hv
            have hk2 := a0e hv
            refine ⟨?_, r2.one v (List.mem_of_getElem? hv)⟩
            have := r4 (k - m * wd) (by omega)
            rw [hv] at this
            rw [← this]; congr 2; omega
        · intro φ k v c hv hc'
          rw [List.map_append, List.flatMap_append] at hc'
          rcases Nat.lt_or_ge k (m * wd) with hk | hk
          · rw [List.getElem?_append_left (by omega)] at hv
            rw [List.getElem?_append_left (by omega)] at hc'
            exact q5 φ k v c hv hc'
          · rw [List.getElem?_append_right (by omega), q2] at hv
            rw [List.getElem?_append_right (by omega), hfl] at hc'
            simp at hc'
            exact r2.rep φ (k - m * wd) v c hv hc'
    obtain ⟨xs0, vs, q1, q2, q3, q4, q5⟩ := all len (Nat.le_refl _)
    have hw : ∀ y ∈ xs0.map f, y.cells.length = wd := by intro y hy; obtain ⟨z, _, rfl⟩ := List.mem_map.1 hy; exact hf z
    have hcl' : ∀ c ∈ (xs0.map f).flatMap AV.cells, Cl c := by
      intro c hc'
      obtain ⟨y, hy, hc'⟩ := List.mem_flatMap.1 hc'
      obtain ⟨z, _, rfl⟩ := List.mem_map.1 hy
      exact b2I (hcl z) c hc'
    refine ⟨xs0, ⟨by simp [Value.oneCell'], rfl, ?_⟩, ?_, ?_, ?_⟩
    · intro φ k v c hv hc'
      match k with
      | 0 =>
        cases hv; cases hc'
        have hlen' : len = (xs0.map f).length := by rw [List.length_map, q1]
        rw [hlen']
        rcases Nat.eq_zero_or_pos len with h0 | h0
        · have : xs0 = [] := List.length_eq_zero_iff.1 (by omega)
          subst this
          exact .sl _ cap wd [] [] 0 0 (Nat.zero_le _) hpos (by simp) (by simp) (.inl rfl) rfl (by simp) (by simp)
        · have hv0 : vs[0]? = some (vs[0]'(by rw [q2]; exact Nat.mul_pos h0 hpos)) := List.getElem?_eq_getElem _
          have hspot : ad.spot = none := by
            have h00 := (q4 0 _ hv0).1
            rw [show ad.add 0 = ad by simp [Addr.add]] at h00
            exact World.cell?_spot h00
          obtain ⟨b, o, s⟩ := ad
          simp only at hspot
          subst hspot
          exact .sl (some ⟨b, o, none⟩) cap wd (xs0.map f) vs b o (by rw [List.length_map, q1]; exact hl) hpos hw hcl' (.inr ⟨rfl, d2R⟩) (by rw [a2d hw, List.length_map, q1, q2])
            (fun k v hk => by have := q4 k v hk; rw [Go.WideShapes.add_plain] at this; exact this) (fun k v c hk hc2 => q5 φ k v c hk hc2)
      | k + 1 => simp at hv
    · have h1 := c9C (elems.map (·.1))
      have h2 := b5D (elems.map (·.1)) (rest.map (·.1))
      rw [List.length_map] at h1
      show xs0.length ≤ uptoBulk (.slice (elems.map (·.1)) (rest.map (·.1)))
      omega
    · intro a ha
      obtain ⟨i, hi, rfl⟩ := List.getElem_of_mem ha
      refine ⟨_, q3 i _ (List.getElem?_eq_getElem hi), ?_⟩
      have hm' : (elems.map (·.1)).getD i .nil ∈ elems.map (·.1) := by
        have : i < (elems.map (·.1)).length := by rw [List.length_map]; omega
        rw [List.getD_eq_getElem?_getD, List.getElem?_eq_getElem this]; exact List.getElem_mem this
      have h1 := c4s hm'
      have h2 := b5D (elems.map (·.1)) (rest.map (·.1))
      show uptoBulk _ ≤ uptoBulk (.slice (elems.map (·.1)) (rest.map (·.1)))
      omega
    · intro W hW
      have h1 : (xs0.map W).sum ≤ uptoBulkAll (elems.map (·.1)) := b8i W (elems.map (·.1)) xs0 (by rw [List.length_map]; omega) fun i a ha => hW a _ (q3 i a ha)
      have h2 := b5D (elems.map (·.1)) (rest.map (·.1))
      show (xs0.map W).sum + 1 ≤ uptoBulk (.slice (elems.map (·.1)) (rest.map (·.1)))
      omega
/-- Limbs. -/
theorem d5N {t e : TypeId} (ht : P.underlying t = some (.slice e)) (he : P.underlying e = some (.int .u32)) (hc : P.cellsOf e = 1) {fuel : Nat} {cs : List Value} {x : DataW K × List MemPlace} (h : DataW.trod enc P w base sp held fuel t cs = some x) :
    ∃ l : List Nat, Stands w cs (natV l) ∧ Lim l ∧ l.length ≤ uptoBulk x.1 := by
  obtain ⟨xs0, q1, q2, q3, _⟩ := c7f (enc := enc) (P := P) (w := w) (base := base) (sp := sp) (held := held) (fun n : Nat => .int .u32 (n : Int)) (fun n (_ : DataW K) => n < LB) 1 ht hc (by decide) (fun _ => rfl) (fun _ => .int _ _) (by
    intro m cs y hy hl
    obtain ⟨n, rfl, hx, hwf⟩ := DataW.trod_int he hy
    have hb := bounds_u32 hwf
    refine ⟨n.toNat, by show n.toNat < 4294967296; omega, by simp [Value.oneCell'], rfl, ?_⟩
    intro φ k v c hv hc'
    match k with
    | 0 =>
      cases hv; cases hc'
      have : (n.toNat : Int) = n := by omega
      rw [this]; exact .int _ _
    | k + 1 => simp at hv) h
  exact ⟨xs0, q1, fun d hd => (q3 d hd).choose_spec.1, q2⟩
/-- A whole number. -/
theorem open_z {t tb tm e : TypeId} {fs : Array Field} {f0 f1 : Field} (ht : P.underlying t = some (.struct fs)) (hfs : fs.toList = [f0, f1]) (h0 : f0.type = tb ∧ f0.offset = 0) (h1 : f1.type = tm ∧ f1.offset = 1) (hb : P.underlying tb = some .bool) (hbc : P.cellsOf tb = 1) (hmc : P.cellsOf tm = 1)
    (hm : P.underlying tm = some (.slice e)) (he : P.underlying e = some (.int .u32)) (hc : P.cellsOf e = 1) {fuel : Nat} {cs : List Value} {x : DataW K × List MemPlace} (h : DataW.trod enc P w base sp held fuel t cs = some x) (hl2 : cs.length = 2) :
    ∃ z : ZI, Stands w cs z.av ∧ Zok (uptoBulk x.1) z := by
  obtain ⟨xs, n, rfl, rfl, hl, hxs, hget⟩ := DataW.trod_struct ht h
  have hf0 : fs[0]? = some f0 := by rw [← Array.getElem?_toList, hfs]; rfl
  have hf1 : fs[1]? = some f1 := by rw [← Array.getElem?_toList, hfs]; rfl
  have hsz : fs.size = 2 := by rw [← Array.length_toList, hfs]; rfl
  have g0 := hget 0 f0 hf0
  have g1 := hget 1 f1 hf1
  rw [h0.1, h0.2, hbc] at g0
  rw [h1.1, h1.2, hmc] at g1
  obtain ⟨c0, c1, rfl⟩ : ∃ c0 c1, cs = [c0, c1] := by
    match cs, hl2 with
    | [a, b], _ => exact ⟨a, b, rfl⟩
  have e0 : xs[0]? = some (xs[0]'(by omega)) := List.getElem?_eq_getElem (by omega)
  have e1 : xs[1]? = some (xs[1]'(by omega)) := List.getElem?_eq_getElem (by omega)
  rw [e0] at g0
  rw [e1] at g1
  simp only [List.drop_zero, List.take_succ_cons, List.take_zero, List.drop_succ_cons] at g0 g1
  obtain ⟨b, hb1, _⟩ := DataW.trod_bool hb g0
  obtain ⟨l, q1, q2, q3⟩ := d5N hm he hc g1
  simp only [List.cons.injEq, and_true] at hb1
  subst hb1
  refine ⟨⟨b, l⟩, ⟨?_, rfl, ?_⟩, q2, ?_⟩
  · intro c hc'
    simp only [List.mem_cons, List.not_mem_nil, or_false] at hc'
    rcases hc' with rfl | rfl
    · rfl
    · exact q1.one _ (by simp)
  · intro φ k v c hv hc'
    match k with
    | 0 => cases hv; cases hc'; exact .bool b
    | 1 => cases hv; cases hc'; exact q1.rep φ 0 _ _ rfl rfl
    | k + 2 => simp at hv
  · have hm1 : (xs[1]'(by omega)).1 ∈ xs.map (·.1) := List.mem_map.2 ⟨_, List.getElem_mem _, rfl⟩
    have := c4s hm1
    show l.length ≤ uptoBulk (.agg (xs.map (·.1)))
    simp only [uptoBulk]
    omega
/-- The types of numbers, vectors, matrices in a program. -/
structure Types (P : Program) (tm tv tz tb tn te : TypeId) : Prop where
  mat : P.underlying tm = some (.slice tv)
  vec : P.underlying tv = some (.slice tz)
  num : ∃ fs f0 f1, P.underlying tz = some (.struct fs) ∧ fs.toList = [f0, f1] ∧ (f0.type = tb ∧ f0.offset = 0) ∧ (f1.type = tn ∧ f1.offset = 1)
  bool : P.underlying tb = some .bool
  nat : P.underlying tn = some (.slice te)
  u32 : P.underlying te = some (.int .u32)
  cv : P.cellsOf tv = 1
  cz : P.cellsOf tz = 2
  cb : P.cellsOf tb = 1
  cn : P.cellsOf tn = 1
  ce : P.cellsOf te = 1
variable {tm tv tz tb tn te : TypeId}
theorem Types.open_z (T : Types P tm tv tz tb tn te) {fuel : Nat} {cs : List Value} {x : DataW K × List MemPlace} (h : DataW.trod enc P w base sp held fuel tz cs = some x) (hl2 : cs.length = 2) : ∃ z : ZI, Stands w cs z.av ∧ Zok (uptoBulk x.1) z := by
  obtain ⟨fs, f0, f1, h1, h2, h3, h4⟩ := T.num
  exact Abs.open_z h1 h2 h3 h4 T.bool T.cb T.cn T.nat T.u32 T.ce h hl2
theorem Types.open_vec (T : Types P tm tv tz tb tn te) {fuel : Nat} {cs : List Value} {x : DataW K × List MemPlace} (h : DataW.trod enc P w base sp held fuel tv cs = some x) : ∃ v : List ZI, Stands w cs (vecV v) ∧ v.length ≤ uptoBulk x.1 ∧ (∀ z ∈ v, Zok (uptoBulk x.1) z) ∧ (v.map fun z => z.mag.length).sum ≤ uptoBulk x.1 := by
  obtain ⟨xs0, q1, q2, q3, q4⟩ := c7f (enc := enc) (P := P) (w := w) (base := base) (sp := sp) (held := held) ZI.av (fun z (d : DataW K) => Zok (uptoBulk d) z) 2 T.vec T.cz (by decide) (fun _ => rfl) ZI.cl (by
    intro m cs y hy hl
    obtain ⟨z, r1, r2⟩ := T.open_z hy hl
    exact ⟨z, r2, r1⟩) h
  exact ⟨xs0, q1, q2, fun z hz => (by obtain ⟨d, h1, h2⟩ := q3 z hz; exact h1.mono h2), by have := q4 (fun z => z.mag.length) (fun z d h => h.len); omega⟩
theorem Types.open_mat (T : Types P tm tv tz tb tn te) {fuel : Nat} {cs : List Value} {x : DataW K × List MemPlace} (h : DataW.trod enc P w base sp held fuel tm cs = some x) : ∃ b : List (List ZI), Stands w cs (matV b) ∧ b.length ≤ uptoBulk x.1 ∧ (∀ v ∈ b, v.length ≤ uptoBulk x.1 ∧ ∀ z ∈ v, Zok (uptoBulk x.1) z) ∧ (b.map fun v => v.length).sum ≤ uptoBulk x.1 ∧ (b.map fun v => (v.map fun z => z.mag.length).sum).sum ≤ uptoBulk x.1 := by
  obtain ⟨xs0, q1, q2, q3, q4⟩ := c7f (enc := enc) (P := P) (w := w) (base := base) (sp := sp) (held := held) vecV (fun v (d : DataW K) => v.length ≤ uptoBulk d ∧ (∀ z ∈ v, Zok (uptoBulk d) z) ∧ (v.map fun z => z.mag.length).sum ≤ uptoBulk d) 1 T.mat T.cv (by decide) (fun _ => rfl) a0d (by
    intro m cs y hy hl
    obtain ⟨v, r1, r2, r3, r4⟩ := T.open_vec hy
    exact ⟨v, ⟨r2, r3, r4⟩, r1⟩) h
  refine ⟨xs0, q1, q2, fun v hv => ?_, by have := q4 (fun v => v.length) (fun v d h => h.1); omega, by have := q4 (fun v => (v.map fun z => z.mag.length).sum) (fun v d h => h.2.2); omega⟩
  obtain ⟨d, h1, h2⟩ := q3 v hv
  exact ⟨Nat.le_trans h1.1 h2, fun z hz => (h1.2.1 z hz).mono h2⟩
/-- A value of one cell. -/
theorem Stands.rep1 {v : Value} {a : AV} (h : Stands w [v] a) (ha : a.cells = [a]) (φ : Nat → Option Nat) : Rep ⟨φ, [], w⟩ v a := h.rep φ 0 v a rfl (by rw [ha]; rfl)
end
end Go.Abs
namespace Go.Abs
open Go.ChangeShapes Go.WideShapes Go.RowKit
/-- A law's walk: it answers, and below the old end nothing turns. -/
theorem d3z {P : Program} {f : FuncId} {ss : List AV} {r : Bool} (hp : a0f P f ss (.bool r)) {args : Array Value} {W : World} (hl : args.size = ss.length) (hr : ∀ (k : Nat) v a, args.toList[k]? = some v → ss[k]? = some a → Rep ⟨fun _ => none, [], W⟩ v a) :
    Calls P f args W fun e W' => e = .returned (.bool r) ∧ Below W.heap.size W W' := by
  have h := (hp []).2 (fun _ => none) W args.toList (d9q _ _) (by simpa using hl) hr
  rw [Array.toArray_toList] at h
  refine h.mono ?_
  rintro e w' ⟨v, r', φ', H', rfl, ⟨rfl, rfl⟩, q1, q2, q3, q4⟩
  refine ⟨by rw [a2q q2], q4.os, q4.tape, q4.output, q4.size, fun k hk => q4.keep k hk d2R⟩
theorem Below.trodAll {K : Type} {enc : TypeId × Value → K} {P : Program} (hl : laidOutB P = true) {W W' : World} (hb : Below W.heap.size W W') : ∀ {ts : List TypeId} {vs : List Value} {ds : List (DataW K)} {ps : List MemPlace}, (ts.all fun t => P.readableRec t && decide (t < P.types.size)) = true →
    DataW.TrodAll enc P W 0 (fun _ => true) true ts vs ds ps → (∀ x ∈ ps, x.block < W.heap.size) → DataW.TrodAll enc P W' 0 (fun b => decide (b < W.heap.size)) true ts vs ds ps
  | [], [], [], _, _, h, _ => h
  | t :: ts, v :: vs, d :: ds, _, hts, ⟨p, q, h1, h2, e⟩, hlt => by
    simp only [List.all_cons, Bool.and_eq_true, decide_eq_true_eq] at hts
    exact ⟨p, q, Go.RowKit.Below.trod hl hts.1.1 hts.1.2 h1 hb (fun x hx => hlt x (by rw [e]; exact List.mem_append_left _ hx)), Below.trodAll hl hb (by simpa using hts.2) h2 (fun x hx => hlt x (by rw [e]; exact List.mem_append_right _ hx)), e⟩
  | [], _ :: _, _, _, _, h, _ => by simp [DataW.TrodAll] at h
  | [], [], _ :: _, _, _, h, _ => by simp [DataW.TrodAll] at h
  | _ :: _, [], _, _, _, h, _ => by simp [DataW.TrodAll] at h
  | _ :: _, _ :: _, [], _, _, h, _ => by simp [DataW.TrodAll] at h
theorem c0y {P : Program} {W : World} {base : Nat} {t e : TypeId} {v : Value} (ht : P.underlying t = some (.slice e)) (h : Value.okWide P W .any base t v) : v.cells.toList = [v] := by
  cases v <;> first | rfl | (exfalso; simp [Value.okWide, Cell.okWide, Cell.ok, ht] at h)
theorem d7R {v : List ZI} {n : Nat} (hl : v.length ≤ n) (he : ∀ z ∈ v, Zok n z) (hn : n ≤ 1048576) : Vok 1048576 v := ⟨by omega, fun z hz => (he z hz).mono hn⟩
theorem e1z {b : List (List ZI)} {n : Nat} (hl : b.length ≤ n) (he : ∀ v ∈ b, v.length ≤ n ∧ ∀ z ∈ v, Zok n z) (hn : n ≤ 1048576) : Mok 1048576 b := ⟨by omega, fun v hv => d7R (he v hv).1 (he v hv).2 hn⟩
/-- A law's promise: it answers true; what was handed in reads as it did. -/
theorem d5y {K : Type} {enc : TypeId × Value → K} {P : Program} {f : Func} {s : ChangeSpec} {fresh handsOn : Bool} {W W' : World} {args : Array Value} {ds gs : List (DataW K)} {before : List MemPlace} {tb : TypeId}
    (hW : DataW.Whole enc P f.params.toList s.vars false W args.toList ds gs before) (hv : s.vars = []) (hfn : s.fn K ds = { results := [.lit (.bool true)], args := ds }) (ht : f.resultTypes = #[tb]) (htb : P.underlying tb = some .bool)
    (hl : laidOutB P = true) (hts : (f.params.toList.all fun t => P.readableRec t && decide (t < P.types.size)) = true) (hb : Below W.heap.size W W') :
    s.post enc P f false fresh handsOn false W args (.bool true) W' := by
  have hW0 := hW
  obtain ⟨p, q, hA, hV, rfl, hz, hn⟩ := hW
  rw [hv] at hV
  obtain ⟨rfl, rfl⟩ := trodVars_none hV
  have hlt : ∀ x ∈ p, x.block < W.heap.size := fun x hx => by simpa using hW0.lt x (by simpa using hx)
  have hA' := Below.trodAll (enc := enc) hl hb hts hA hlt
  refine ⟨ds, [], p ++ [], [], p, [], hW0, ?_, ?_, ?_, ?_, by simp⟩
  · rw [List.append_nil, hfn, ht]
    exact trodAll_cons_mk (shut_bool htb true) trodAll_mk0
  · rw [List.append_nil, hfn]; exact hA'
  · rw [List.append_nil, hfn, hv]; rfl
  · refine ⟨hb.os, hb.output, fun i hi => ?_⟩
    have := (World.keptBut_refl W (fun x => x ∈ p ++ [] ∧ (x ∈ [] ∨ x ∈ p ∨ x ∈ []))).2.2 i hi
    rw [hb.block i hi]
    exact this
end Go.Abs
namespace Go.Abs
open Go.ChangeShapes Go.WideShapes Go.RowKit
open Go.Proofs.Ytkljokmnimblnaa.Rows (uptoBulk uptoBulkAll)
section
variable {K : Type} {enc : TypeId × Value → K} {P : Program} {w : World} {base : Nat} {sp : Nat → Bool} {held : Bool} {tm tv tz tb tn te : TypeId} {v : Value} {fuel : Nat} {x : DataW K × List MemPlace} {b1 : Nat}
theorem Types.arg_mat (T : Types P tm tv tz tb tn te) (hok : Value.okWide P w .any b1 tm v) (h : DataW.trod enc P w base sp held fuel tm v.cells.toList = some x) (hb : uptoBulk x.1 ≤ 1048576) : ∃ b, Mok 1048576 b ∧ ∀ φ, Rep ⟨φ, [], w⟩ v (matV b) := by
  obtain ⟨b, s, l, e, _⟩ := T.open_mat h
  rw [c0y T.mat hok] at s
  exact ⟨b, e1z l e hb, fun φ => s.rep1 rfl φ⟩
theorem Types.arg_vec (T : Types P tm tv tz tb tn te) (hok : Value.okWide P w .any b1 tv v) (h : DataW.trod enc P w base sp held fuel tv v.cells.toList = some x) (hb : uptoBulk x.1 ≤ 1048576) : ∃ b, Vok 1048576 b ∧ ∀ φ, Rep ⟨φ, [], w⟩ v (vecV b) := by
  obtain ⟨b, s, l, e, _⟩ := T.open_vec h
  rw [c0y T.vec hok] at s
  exact ⟨b, d7R l e hb, fun φ => s.rep1 rfl φ⟩
end
end Go.Abs

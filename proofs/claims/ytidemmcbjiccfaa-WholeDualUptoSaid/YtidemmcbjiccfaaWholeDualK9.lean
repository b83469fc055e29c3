/- Part 9 of the proof of WholeDual: G25, O1, O2, O3. -/
import Derived.Test.YtidemmcbjiccfaaWholeDualK8
import Derived.Test.YtidemmcbjiccfaaRows
import Derived.OpenShut
import Derived.ChangeArms
import Derived.Carry
import Derived.WalkKit
import Derived.ProofKit
import Derived.JoinedCond
set_option linter.unusedVariables false
set_option linter.unusedSimpArgs false
namespace Go.Abs
section
variable {b : List (List ZI)} {e : Nat} (hm : Mok e b) (hn : b.length ≤ 64) (hK : KB (e + e + 2) + KB (e + e + 2) + e + 100 < 1099511627776) (hD : detI b.length (Bm (a0s b)) ≠ 0)
include hm hn hK hD
theorem d9e : Mok (KB (e + e + 2) + 1 + (KB (e + e + 2) + 1 + e + 2)) (a1s b) := by
 obtain ⟨hs1, hs2, hs3, hs4⟩ := b7R hm hn hK hD
 have hpm : ∀ i, Vok (KB (e + e + 2) + 1 + e + 2) (mg (b9k (invM (a0s b)) b) i) := fun i => by
  refine Mok.row ?_ i
  unfold b9k
  refine b9C (by rw [b1S]; have := hm.len; omega) fun r hr' => ?_
  exact b8U (hm.row 0).len fun c _ => c3Z ((d7J hm hn hK hD).row r) hm c (Nat.le_refl _)
 unfold a1s
 refine b9C hm.len fun i hi => ?_
 rw [← d3b hm hn hD hi]
 exact b8U (hpm i).len fun c _ => a1R hs1 ((hpm i).abs c)
end
theorem d1P {b : List (List ZI)} {i : Nat} (hi : i < b.length) : mg (a1s b) i = vec (wid b) (b2p b i) := by unfold a1s; rw [b3J hi]
theorem d8u {b : List (List ZI)} (h0 : 0 < b.length) : wid (a1s b) = wid b := by
 unfold wid
 rw [d1P h0, a0e]; rfl
theorem e4B : Cl (.bool true) := .bool _
theorem d9G (b : List (List ZI)) (hm : Mok 1048576 b) : a0d Pr a3Z [matV b] (.bool true) := by
 have hK1 : KB (1048576 + 1048576 + 2) + KB (1048576 + 1048576 + 2) + 1048576 + 100 < 1099511627776 := by unfold KB; omega
 have hG1 : 4 * GB 1048576 + 8 < 17592186043000 := by unfold GB; omega
 have hG0 : GB 1048576 + GB 1048576 + 8 < 17592186044000 := by unfold GB; omega
 have hs := c2B b 1048576 hm hK1 hG0
 have hf := c6P b 1048576 hm hG1
 unfold sclA at hs
 by_cases h0 : valE true b = 0
 ·rw [if_pos h0] at hs
  rw [h0] at hf
  obtain ⟨hpos, h12, hr, hD, hw12⟩ := e1U hm h0
  have hmd := d9e hm (by omega) hK1 (by omega)
  obtain ⟨E2, hE2⟩ : ∃ E2, E2 = KB (1048576 + 1048576 + 2) + 1 + (KB (1048576 + 1048576 + 2) + 1 + 1048576 + 2) := ⟨_, rfl⟩
  rw [← hE2] at hmd
  have hK2 : KB (E2 + E2 + 2) + KB (E2 + E2 + 2) + E2 + 100 < 1099511627776 := by rw [hE2]; unfold KB; omega
  have hG2 : 4 * GB E2 + 8 < 17592186043000 := by rw [hE2]; unfold GB KB; omega
  obtain ⟨hs1, hs2, hs3, hs4⟩ := b7R hm (by omega) hK1 (by omega)
  obtain ⟨D, hDD⟩ : ∃ D, D = detI b.length (Bm (a0s b)) := ⟨_, rfl⟩
  rw [← hDD] at hs hD hs4
  have hzD : Zok (KB (1048576 + 1048576 + 2) + 1) (canZ D) := a0q hs4
  have hsg := a8Y (canZ D) (hzD.mono (by unfold KB; omega))
  rw [a2p, a0x, Int.sign_eq_one_of_pos hD] at hsg
  have hld : ∀ H z, a7p H (some 2) (.ro (Z z) 0) = some (Z z) := fun H z => by simp [a7p, atV, Z, AV.cells]
  have hrb : ∀ i, i < b.length → (mg b i).length = wid b := fun i hi => hr i hi
  have hpr := e0m b (a1s b) E2 (hm.mono (by rw [hE2]; unfold KB; omega)) hmd (by have := hG2; omega) h0 hpos (by rw [a2O]; exact hpos) hrb (fun j hj => by rw [a2O] at hj; rw [d1P hj, a0e])
  have hpl : (e2J b (a1s b)).length = b.length := by unfold e2J; rw [a0f]
  have hf2 := c6P (a1s b) E2 hmd hG2
  refine a0d.intro a3I a3H (Nat.le_of_ble_eq_true rfl) e4B fun H hH => ?_
  refine Safe.rg rfl ?_
  simp only [a2d, E3, seval]
  refine Safe.rg rfl ?_
  simp only [a2c, E3, seval]
  first | refine (hs).acall ?_ | refine (hs).dcall ?_ | refine (hs).dgcall ?_
  try simp only [E3, seval]
  try simp only [E3, seval]
  refine Safe.freeze 0 (b := ⟨2, [Z D]⟩) hH rfl rfl (a1U (Z_cl _)) ?_
  refine Safe.keep [0, 3, 4, 5] ?_
  simp only [a0K, a3v (a2g _), E3, seval]
  refine Safe.rg rfl ?_
  simp only [a2b, E3, seval]
  first | refine (hf).acall ?_ | refine (hf).dcall ?_ | refine (hf).dgcall ?_
  try simp only [E3, seval]
  try simp only [E3, seval]
  refine Safe.cd rfl ?_
  simp only [E3, seval]
  refine Safe.rg rfl ?_
  simp only [a3F, hld, E3, seval]
  first | refine (hsg).acall ?_ | refine (hsg).dcall ?_ | refine (hsg).dgcall ?_
  try simp only [E3, seval]
  try simp only [E3, seval]
  refine Safe.cd rfl ?_
  simp only [E3, seval]
  refine Safe.rg rfl ?_
  simp only [a3E, E3, seval]
  first | refine (hpr).acall ?_ | refine (hpr).dcall ?_ | refine (hpr).dgcall ?_
  try simp only [E3, seval]
  try simp only [E3, seval]
  refine Safe.rg rfl ?_
  simp only [a3D, b9F, hpl, E3, seval]
  refine Safe.cd rfl ?_
  simp only [E3, seval]
  refine Safe.rg rfl ?_
  simp only [a3C, E3, seval]
  first | refine (hf2).acall ?_ | refine (hf2).dcall ?_ | refine (hf2).dgcall ?_
  try simp only [E3, seval]
  by_cases h2 : valE true (a1s b) = 0
  ·have hsc := c2B (a1s b) E2 hmd hK2 (by have := hG2; omega)
   unfold sclA at hsc
   rw [if_pos h2] at hsc
   have hn2 : (a1s b).length ≤ 64 := by rw [a2O]; omega
   obtain ⟨_, _, hr2, hC, _⟩ := e1U hmd h2
   have hmw := d9e hmd hn2 hK2 (by omega)
   obtain ⟨_, _, _, ht4⟩ := b7R hmd hn2 hK2 (by omega)
   have hdd := fun (i c : Nat) => e3Y (i := i) (c := c) hm (by omega) hr ⟨_, hmd⟩
   rw [← hDD] at hdd
   obtain ⟨Cc, hCC⟩ : ∃ Cc, Cc = detI (a1s b).length (Bm (a0s (a1s b))) := ⟨_, rfl⟩
   rw [← hCC] at hsc ht4
   have hCC' : detI b.length (Bm (a0s (a1s b))) = Cc := by rw [hCC, a2O]
   rw [hCC'] at hdd
   obtain ⟨E3', hE3⟩ : ∃ E3', E3' = KB (E2 + E2 + 2) + 1 + (KB (E2 + E2 + 2) + 1 + E2 + 2) := ⟨_, rfl⟩
   rw [← hE3] at hmw
   have hE3b : E3' + E3' + 2 < 17592186044416 := by rw [hE3, hE2]; unfold KB; omega
   have hDE : D.natAbs < LB ^ E3' := Nat.lt_of_lt_of_le hs4 (a4H (by rw [hE3, hE2]; unfold KB; omega))
   have hCE : Cc.natAbs < LB ^ E3' := Nat.lt_of_lt_of_le ht4 (a4H (by rw [hE3]; omega))
   have hwl : (a1s (a1s b)).length = b.length := by rw [a2O, a2O]
   have hWi : ∀ (i : Nat) (h : i < b.length), (a1s (a1s b))[i]'(by rw [hwl]; exact h) = vec (wid b) (b2p (a1s b) i) := fun i h => by
    rw [← a1F, d1P (by rw [a2O]; exact h), d8u hpos]
   have hWx : ∀ H (i : Nat), i < b.length → idxV H 1 (matV (a1s (a1s b))) (.int .i64 (i : Nat)) = some (.ro (vecV (vec (wid b) (b2p (a1s b) i))) 0) := fun H i h => by
    rw [a1r H _ .i64 i (by rw [hwl]; exact h), hWi i h]
   have hla : ∀ H (x : ZI), a7p H (some 2) (.ro x.av 0) = some x.av := fun H x => by simp [a7p, atV, ZI.av, AV.cells]
   rw [h2]
   simp only [E3, seval]
   refine Safe.keep [0, 3, 4, 48] ?_
   simp only [E3, seval]
   refine Safe.cd rfl ?_
   simp only [E3, seval]
   refine Safe.rg rfl ?_
   simp only [a3q, E3, seval]
   first | refine (hsc).acall ?_ | refine (hsc).dcall ?_ | refine (hsc).dgcall ?_
   try simp only [E3, seval]
   try simp only [E3, seval]
   refine Safe.freeze 1 (b := ⟨2, [Z Cc]⟩) hH rfl rfl (a1U (Z_cl _)) ?_
   refine Safe.keep [0, 4, 8, 9, 10] ?_
   simp only [a0K, a3v (a2g _), E3, seval]
   refine Safe.rg rfl ?_
   simp only [a3p, b9F, hwl, E3, seval]
   refine Safe.cd rfl ?_
   simp only [E3, seval]
   refine Safe.rg rfl ?_
   simp only [a3o, E3, seval]
   refine Safe.lp rfl ?_
   refine Safe.keep [0, 4, 8, 9, 11] ?_
   try simp only [E3, seval]
   refine Safe.loopN (b.length) (fun i => [(0, matV b), (4, .ro (Z D) 0), (8, matV (a1s (a1s b))), (9, .ro (Z Cc) 0), (11, .int .i64 i)]) (fun i => hap H [none, none]) rfl rfl (fun i hi ih => ?_) ?_
   ·have hlt : ((i : Int) < (b.length : Int)) = True := eq_true (by omega)
    have hiw : IntKind.wrap .i64 ((i : Int) + 1) = ((i + 1 : Nat) : Int) := by rw [a0c] <;> omega
    have hbi : (b[i].length : Int) = (wid b : Int) := by rw [← a1F hi, hrb i hi]
    refine Safe.inLoop ?_
    refine Safe.rg rfl ?_
    simp only [a1P, b9F, hlt, E3, seval]
    refine Safe.cd rfl ?_
    simp only [E3, seval]
    refine Safe.rg rfl ?_
    simp only [a3n, E3, seval]
    refine Safe.lp rfl ?_
    refine Safe.keep [0, 4, 8, 9, 11, 12] ?_
    simp only [E3, seval]
    refine Safe.loopN (wid b) (fun k => [(0, matV b), (4, .ro (Z D) 0), (8, matV (a1s (a1s b))), (9, .ro (Z Cc) 0), (11, .int .i64 i), (12, .int .i64 k)]) (fun k => hap H [none, none]) rfl rfl (fun k hk ihk => ?_) ?_
    ·have hlk : ((k : Int) < (wid b : Int)) = True := eq_true (by omega)
     have hkw : IntKind.wrap .i64 ((k : Int) + 1) = ((k + 1 : Nat) : Int) := by rw [a0c] <;> omega
     have hkb : k < b[i].length := by omega
     refine Safe.inLoop ?_
     refine Safe.rg rfl ?_
     simp only [a1O, a1r _ b _ i hi, b4N, hbi, hlk, E3, seval]
     refine Safe.cd rfl ?_
     simp only [E3, seval]
     have hz := hdd i k hi hk
     rw [a1F hi, c3y hkb] at hz
     have hzx : (b2p (a1s b) i k).natAbs < LB ^ E3' := by
      have := (hmw.row i).abs k
      rwa [d1P (by rw [a2O]; exact hi), d8u hpos, d2W hk] at this
     have hm1 := d4C (k := E3') (l := E3') hzx hDE (by omega)
     have hm2 := a2L b[i][k] (canZ Cc) E3' E3' (((hm.get hi).get hkb).mono (by rw [hE3, hE2]; unfold KB; omega)) (a0q hCE) (by omega)
     rw [a0x, a2p] at hm2
     have hcm := e0i (canZ (b2p (a1s b) i k * D)) (canZ (b2p (a1s b) i k * D)) (E3' + E3') (a0q (a1R hzx hDE)) (a0q (a1R hzx hDE)) (by omega)
     rw [a2p, Int.sub_self, Int.sign_zero] at hcm
     rw [hz] at hm1 hcm
     have hvx : ∀ H, idxV H 2 (vecV b[i]) (.int .i64 (k : Nat)) = some (.ro b[i][k].av 0) := fun H => a4a H b[i] .i64 k hkb
     refine Safe.rg rfl ?_
     simp only [a3m, a1r _ b _ i hi, hWx _ i hi, b4N, hbi, a0e, hvx, d0T _ hk, hla, hld, E3, seval]
     first | refine (hm1).acall ?_ | refine (hm1).dcall ?_ | refine (hm1).dgcall ?_
     try simp only [E3, seval]
     try simp only [a1r _ b _ i hi, hvx, hla, hld, E3, seval]
     first | refine (hm2).acall ?_ | refine (hm2).dcall ?_ | refine (hm2).dgcall ?_
     try simp only [E3, seval]
     first | refine (hcm).acall ?_ | refine (hcm).dcall ?_ | refine (hcm).dgcall ?_
     try simp only [E3, seval]
     try simp only [E3, seval]
     refine Safe.cd rfl ?_
     simp only [E3, seval]
     refine Safe.rg rfl ?_
     simp only [a3l, hkw, E3, seval]
     refine Safe.keep [0, 4, 8, 9, 11, 12] ?_
     simp only [E3, seval]
     exact ihk
    ·refine Safe.inLoop ?_
     refine Safe.rg rfl ?_
     simp only [a1O, a1r _ b _ i hi, b4N, hbi, Int.lt_irrefl, E3, seval]
     refine Safe.cd rfl ?_
     simp only [E3, seval]
     refine Safe.rg rfl ?_
     simp only [a3k, hiw, E3, seval]
     refine Safe.keep [0, 4, 8, 9, 11] ?_
     simp only [E3, seval]
     exact ih
   ·refine Safe.inLoop ?_
    refine Safe.rg rfl ?_
    simp only [a1P, b9F, Int.lt_irrefl, E3, seval]
    refine Safe.cd rfl ?_
    simp only [E3, seval]
    refine Safe.rg rfl ?_
    simp only [a3j, E3, seval]
    refine Safe.rt rfl ?_
    simp only [E3, seval]
    first | exact ⟨rfl, _, rfl⟩ | exact ⟨_, rfl⟩ | exact ⟨trivial, _, rfl⟩
  ·have hne2 : (valE true (a1s b) = 0) = False := eq_false h2
   try simp only [hne2, E3, seval]
   refine Safe.cd rfl ?_
   simp only [E3, seval]
   refine Safe.rg rfl ?_
   simp only [a3r, E3, seval]
   refine Safe.rt rfl ?_
   simp only [E3, seval]
   first | exact ⟨rfl, _, rfl⟩ | exact ⟨_, rfl⟩ | exact ⟨trivial, _, rfl⟩
 ·rw [if_neg h0] at hs
  have hne : (valE true b = 0) = False := eq_false h0
  refine a0d.intro a3I a3H (Nat.le_of_ble_eq_true rfl) e4B fun H hH => ?_
  refine Safe.rg rfl ?_
  simp only [a2d, E3, seval]
  refine Safe.rg rfl ?_
  simp only [a2c, E3, seval]
  first | refine (hs).acall ?_ | refine (hs).dcall ?_ | refine (hs).dgcall ?_
  try simp only [E3, seval]
  try simp only [E3, seval]
  refine Safe.rg rfl ?_
  simp only [a2b, E3, seval]
  first | refine (hf).acall ?_ | refine (hf).dcall ?_ | refine (hf).dgcall ?_
  try simp only [E3, seval]
  try simp only [hne, E3, seval]
  refine Safe.cd rfl ?_
  simp only [E3, seval]
  refine Safe.rg rfl ?_
  simp only [a3G, hne, E3, seval]
  refine Safe.rt rfl ?_
  simp only [E3, seval]
  first | exact ⟨rfl, _, rfl⟩ | exact ⟨_, rfl⟩ | exact ⟨trivial, _, rfl⟩
end Go.Abs
namespace Go.Abs
open Go.ChangeShapes Go.WideShapes
open Go.Proofs.Ytidemmcbjiccfaa.Rows (uptoBulk uptoBulkAll)
section
variable {K : Type} {enc : TypeId × Value → K} {P : Program} {w : World} {base : Nat} {sp : Nat → Bool} {held : Bool}
theorem e6Z (d : DataW K) : 1 ≤ uptoBulk d := by
 cases d with
 | lit l => cases l <;> simp [uptoBulk]
 | nil => simp [uptoBulk]
 | ptr d => simp [uptoBulk]
 | slice elems spare => simp [uptoBulk]
 | agg a1Q => simp [uptoBulk]
 | iface t d => simp [uptoBulk]
 | map entries => simp [uptoBulk]
 | held h => simp [uptoBulk]
theorem d2z {d : DataW K} : ∀ {l : List (DataW K)}, d ∈ l → uptoBulk d ≤ uptoBulkAll l
 | [], h => by cases h
 | x :: r, h => by
  simp only [uptoBulkAll]
  rcases List.mem_cons.1 h with e | e
  ·subst e; omega
  ·have := d2z e; omega
theorem d9k : ∀ (l : List (DataW K)), l.length ≤ uptoBulkAll l
 | [] => by simp [uptoBulkAll]
 | x :: r => by have := e6Z x; have := d9k r; simp only [uptoBulkAll, List.length_cons]; omega
theorem c0c (es rs : List (DataW K)) : uptoBulkAll es + 1 ≤ uptoBulk (.slice es rs) := by simp only [uptoBulk]; omega
theorem c4D {α : Type} (W : α → Nat) : ∀ (ds : List (DataW K)) (xs : List α), xs.length = ds.length → (∀ (i : Nat) a, xs[i]? = some a → W a ≤ uptoBulk (ds.getD i .nil)) → (xs.map W).sum ≤ uptoBulkAll ds
 | [], [], _, _ => by simp
 | d :: ds, x :: xs, h, hw => by
  have h1 := hw 0 x rfl
  have h2 := c4D W ds xs (by simpa using h) fun i a ha => by have := hw (i + 1) a (by simpa using ha); simpa using this
  simp only [List.map_cons, List.sum_cons, uptoBulkAll]
  simp at h1
  omega
 | [], _ :: _, h, _ => by simp at h
 | _ :: _, [], h, _ => by simp at h
theorem d5Z (a : Addr) (m j : Nat) : (a.add m).add j = a.add (m + j) := by
 unfold Addr.add
 by_cases hm : m = 0 <;> by_cases hj : j = 0 <;> simp [hm, hj, Nat.add_assoc]
theorem e2P {φ : Nat → Option Nat} {b : Nat} : ¬ (Emb.mk φ [] w).Mut b := by
 rintro ⟨id, blk, h, _⟩; simp at h
theorem e9r (φ : Nat → Option Nat) (w : World) : HOk ⟨φ, [], w⟩ := ⟨fun id b _ h => by simp at h, fun id b h => by simp at h, fun id b _ h => by simp at h, fun id b h => by simp at h, fun i j b c _ h => by simp at h⟩
structure Stands (w : World) (cs : List Value) (a : AV) : Prop where
 one : ∀ c ∈ cs, c.oneCell' = true
 len : cs.length = a.cells.length
 rep : ∀ (φ : Nat → Option Nat) (k : Nat) v c, cs[k]? = some v → a.cells[k]? = some c → Rep ⟨φ, [], w⟩ v c
theorem d7i {α : Type} (f : α → AV) (good : α → DataW K → Prop) {t e : TypeId} (wd : Nat) (ht : P.underlying t = some (.slice e)) (hc : P.cellsOf e = wd) (hpos : 0 < wd) (hf : ∀ a, (f a).cells.length = wd) (hcl : ∀ a, Cl (f a))
  (hel : ∀ m cs y, DataW.trod enc P w base sp held m e cs = some y → cs.length = wd → ∃ a, good a y.1 ∧ Stands w cs (f a))
  {fuel : Nat} {cs : List Value} {x : DataW K × List MemPlace} (h : DataW.trod enc P w base sp held fuel t cs = some x) :
  ∃ xs0 : List α, Stands w cs (.sl wd (xs0.map f)) ∧ xs0.length ≤ uptoBulk x.1 ∧ (∀ a ∈ xs0, ∃ d : DataW K, good a d ∧ uptoBulk d ≤ uptoBulk x.1) ∧ ∀ W : α → Nat, (∀ a d, good a d → W a ≤ uptoBulk d) → (xs0.map W).sum + 1 ≤ uptoBulk x.1 := by
 rcases DataW.trod_slice ht h with ⟨rfl, rfl⟩ | ⟨ad, len, cap, elems, rest, n, rfl, rfl, rfl, hb, hl, hm, hlen, hget, _, _⟩
 ·refine ⟨[], ⟨by simp [Value.oneCell'], rfl, ?_⟩, Nat.zero_le _, by simp, fun W _ => by simp [uptoBulk]⟩
  intro φ k v c hv hc'
  match k with
  | 0 => cases hv; cases hc'; exact b9h wd hpos .nil
  | k + 1 => simp at hv
 ·-- each element
  have each : ∀ i, i < len → ∃ a cs', good a ((elems.map (·.1)).getD i .nil) ∧ Stands w cs' (f a) ∧ cs'.length = wd ∧ ∀ j, j < wd → w.cell? (ad.add (i * wd + j)) = cs'[j]? := by
   intro i hi
   have h1 := hget i hi
   have hy : elems[i]? = some (elems[i]'(by omega)) := List.getElem?_eq_getElem (by omega)
   rw [hy, Option.bind_eq_some_iff] at h1
   obtain ⟨cs', h2, h3⟩ := h1
   rw [hc] at h2
   obtain ⟨_, hl2, hcell⟩ := World.cells?_some h2
   obtain ⟨a, g1, g2⟩ := hel n cs' _ h3 hl2
   refine ⟨a, cs', ?_, g2, hl2, fun j hj => ?_⟩
   ·rw [List.getD_eq_getElem?_getD, List.getElem?_map, hy]; exact g1
   ·have := hcell j hj
    rw [← this]
    rw [d5Z]
  -- the list
  have all : ∀ m, m ≤ len → ∃ (xs0 : List α) (vs : List Value), xs0.length = m ∧ vs.length = m * wd ∧ (∀ (i : Nat) a, xs0[i]? = some a → good a ((elems.map (·.1)).getD i .nil)) ∧
    (∀ (k : Nat) v, vs[k]? = some v → w.cell? (ad.add k) = some v ∧ v.oneCell' = true) ∧ (∀ (φ : Nat → Option Nat) (k : Nat) v c, vs[k]? = some v → ((xs0.map f).flatMap AV.cells)[k]? = some c → Rep ⟨φ, [], w⟩ v c) := by
   intro m
   induction m with
   | zero => exact fun _ => ⟨[], [], rfl, by simp, by simp, by simp, by simp⟩
   | succ m ih =>
    intro hm'
    obtain ⟨xs0, vs, q1, q2, q3, q4, q5⟩ := ih (by omega)
    obtain ⟨a, cs', r1, r2, r3, r4⟩ := each m (by omega)
    have hfl : ((xs0.map f).flatMap AV.cells).length = m * wd := by
     rw [a2m (wd := wd) (by intro y hy; obtain ⟨z, _, rfl⟩ := List.mem_map.1 hy; exact hf z), List.length_map, q1]
    refine ⟨xs0 ++ [a], vs ++ cs', by simp [q1], by simp [q2, r3, Nat.add_mul], ?_, ?_, ?_⟩
    ·intro i b hb'
     rcases Nat.lt_or_ge i m with hi | hi
     ·rw [List.getElem?_append_left (by omega)] at hb'; exact q3 i b hb'
     ·have hi' := a0h hb'
      simp at hi'
      have : i = m := by omega
      subst this
      rw [List.getElem?_append_right (by omega)] at hb'
      simp [q1] at hb'
      subst hb'; exact r1
    ·intro k v hv
     rcases Nat.lt_or_ge k (m * wd) with hk | hk
     ·rw [List.getElem?_append_left (by omega)] at hv; exact q4 k v hv
     ·rw [List.getElem?_append_right (by omega), q2] at hv
      have hk2 := a0h hv
      refine ⟨?_, r2.one v (List.mem_of_getElem? hv)⟩
      have := r4 (k - m * wd) (by omega)
      rw [hv] at this
      rw [← this]; congr 2; omega
    ·intro φ k v c hv hc'
     rw [List.map_append, List.flatMap_append] at hc'
     rcases Nat.lt_or_ge k (m * wd) with hk | hk
     ·rw [List.getElem?_append_left (by omega)] at hv
      rw [List.getElem?_append_left (by omega)] at hc'
      exact q5 φ k v c hv hc'
     ·rw [List.getElem?_append_right (by omega), q2] at hv
      rw [List.getElem?_append_right (by omega), hfl] at hc'
      simp at hc'
      exact r2.rep φ (k - m * wd) v c hv hc'
  obtain ⟨xs0, vs, q1, q2, q3, q4, q5⟩ := all len (Nat.le_refl _)
  have hw : ∀ y ∈ xs0.map f, y.cells.length = wd := by intro y hy; obtain ⟨z, _, rfl⟩ := List.mem_map.1 hy; exact hf z
  have hcl' : ∀ c ∈ (xs0.map f).flatMap AV.cells, Cl c := by
   intro c hc'
   obtain ⟨y, hy, hc'⟩ := List.mem_flatMap.1 hc'
   obtain ⟨z, _, rfl⟩ := List.mem_map.1 hy
   exact a3f (hcl z) c hc'
  refine ⟨xs0, ⟨by simp [Value.oneCell'], rfl, ?_⟩, ?_, ?_, ?_⟩
  ·intro φ k v c hv hc'
   match k with
   | 0 =>
    cases hv; cases hc'
    have hlen' : len = (xs0.map f).length := by rw [List.length_map, q1]
    rw [hlen']
    rcases Nat.eq_zero_or_pos len with h0 | h0
    ·have : xs0 = [] := List.length_eq_zero_iff.1 (by omega)
     subst this
     exact .sl _ cap wd [] [] 0 0 (Nat.zero_le _) hpos (by simp) (by simp) (.inl rfl) rfl (by simp) (by simp)
    ·have hv0 : vs[0]? = some (vs[0]'(by rw [q2]; exact Nat.mul_pos h0 hpos)) := List.getElem?_eq_getElem _
     have hspot : ad.spot = none := by
      have h00 := (q4 0 _ hv0).1
      rw [show ad.add 0 = ad by simp [Addr.add]] at h00
      exact World.cell?_spot h00
     obtain ⟨b, o, s⟩ := ad
     simp only at hspot
     subst hspot
     exact .sl (some ⟨b, o, none⟩) cap wd (xs0.map f) vs b o (by rw [List.length_map, q1]; exact hl) hpos hw hcl' (.inr ⟨rfl, e2P⟩) (by rw [a2m hw, List.length_map, q1, q2])
      (fun k v hk => by have := q4 k v hk; rw [Go.WideShapes.add_plain] at this; exact this) (fun k v c hk hc2 => q5 φ k v c hk hc2)
   | k + 1 => simp at hv
  ·have h1 := d9k (elems.map (·.1))
   have h2 := c0c (elems.map (·.1)) (rest.map (·.1))
   rw [List.length_map] at h1
   show xs0.length ≤ uptoBulk (.slice (elems.map (·.1)) (rest.map (·.1)))
   omega
  ·intro a ha
   obtain ⟨i, hi, rfl⟩ := List.getElem_of_mem ha
   refine ⟨_, q3 i _ (List.getElem?_eq_getElem hi), ?_⟩
   have hm' : (elems.map (·.1)).getD i .nil ∈ elems.map (·.1) := by
    have : i < (elems.map (·.1)).length := by rw [List.length_map]; omega
    rw [List.getD_eq_getElem?_getD, List.getElem?_eq_getElem this]; exact List.getElem_mem this
   have h1 := d2z hm'
   have h2 := c0c (elems.map (·.1)) (rest.map (·.1))
   show uptoBulk _ ≤ uptoBulk (.slice (elems.map (·.1)) (rest.map (·.1)))
   omega
  ·intro W hW
   have h1 : (xs0.map W).sum ≤ uptoBulkAll (elems.map (·.1)) := c4D W (elems.map (·.1)) xs0 (by rw [List.length_map]; omega) fun i a ha => hW a _ (q3 i a ha)
   have h2 := c0c (elems.map (·.1)) (rest.map (·.1))
   show (xs0.map W).sum + 1 ≤ uptoBulk (.slice (elems.map (·.1)) (rest.map (·.1)))
   omega
theorem e5L {t e : TypeId} (ht : P.underlying t = some (.slice e)) (he : P.underlying e = some (.int .u32)) (hc : P.cellsOf e = 1) {fuel : Nat} {cs : List Value} {x : DataW K × List MemPlace} (h : DataW.trod enc P w base sp held fuel t cs = some x) :
  ∃ l : List Nat, Stands w cs (natV l) ∧ Lim l ∧ l.length ≤ uptoBulk x.1 := by
 obtain ⟨xs0, q1, q2, q3, _⟩ := d7i (enc := enc) (P := P) (w := w) (base := base) (sp := sp) (held := held) (fun n : Nat => .int .u32 (n : Int)) (fun n (_ : DataW K) => n < LB) 1 ht hc (by decide) (fun _ => rfl) (fun _ => .int _ _) (by
  intro m cs y hy hl
  obtain ⟨n, rfl, hx, hwf⟩ := DataW.trod_int he hy
  have hb := bounds_u32 hwf
  refine ⟨n.toNat, by show n.toNat < 4294967296; omega, by simp [Value.oneCell'], rfl, ?_⟩
  intro φ k v c hv hc'
  match k with
  | 0 =>
   cases hv; cases hc'
   have : (n.toNat : Int) = n := by omega
   rw [this]; exact .int _ _
  | k + 1 => simp at hv) h
 exact ⟨xs0, q1, fun d hd => (q3 d hd).choose_spec.1, q2⟩
theorem open_z {t tb tm e : TypeId} {fs : Array Field} {f0 f1 : Field} (ht : P.underlying t = some (.struct fs)) (hfs : fs.toList = [f0, f1]) (h0 : f0.type = tb ∧ f0.offset = 0) (h1 : f1.type = tm ∧ f1.offset = 1) (hb : P.underlying tb = some .bool) (hbc : P.cellsOf tb = 1) (hmc : P.cellsOf tm = 1)
  (hm : P.underlying tm = some (.slice e)) (he : P.underlying e = some (.int .u32)) (hc : P.cellsOf e = 1) {fuel : Nat} {cs : List Value} {x : DataW K × List MemPlace} (h : DataW.trod enc P w base sp held fuel t cs = some x) (hl2 : cs.length = 2) :
  ∃ z : ZI, Stands w cs z.av ∧ Zok (uptoBulk x.1) z := by
 obtain ⟨xs, n, rfl, rfl, hl, hxs, hget⟩ := DataW.trod_struct ht h
 have hf0 : fs[0]? = some f0 := by rw [← Array.getElem?_toList, hfs]; rfl
 have hf1 : fs[1]? = some f1 := by rw [← Array.getElem?_toList, hfs]; rfl
 have hsz : fs.size = 2 := by rw [← Array.length_toList, hfs]; rfl
 have g0 := hget 0 f0 hf0
 have g1 := hget 1 f1 hf1
 rw [h0.1, h0.2, hbc] at g0
 rw [h1.1, h1.2, hmc] at g1
 obtain ⟨c0, c1, rfl⟩ : ∃ c0 c1, cs = [c0, c1] := by
  match cs, hl2 with
  | [a, b], _ => exact ⟨a, b, rfl⟩
 have e0 : xs[0]? = some (xs[0]'(by omega)) := List.getElem?_eq_getElem (by omega)
 have e1 : xs[1]? = some (xs[1]'(by omega)) := List.getElem?_eq_getElem (by omega)
 rw [e0] at g0
 rw [e1] at g1
 simp only [List.drop_zero, List.take_succ_cons, List.take_zero, List.drop_succ_cons] at g0 g1
 obtain ⟨b, hb1, _⟩ := DataW.trod_bool hb g0
 obtain ⟨l, q1, q2, q3⟩ := e5L hm he hc g1
 simp only [List.cons.injEq, and_true] at hb1
 subst hb1
 refine ⟨⟨b, l⟩, ⟨?_, rfl, ?_⟩, q2, ?_⟩
 ·intro c hc'
  simp only [List.mem_cons, List.not_mem_nil, or_false] at hc'
  rcases hc' with rfl | rfl
  ·rfl
  ·exact q1.one _ (by simp)
 ·intro φ k v c hv hc'
  match k with
  | 0 => cases hv; cases hc'; exact .bool b
  | 1 => cases hv; cases hc'; exact q1.rep φ 0 _ _ rfl rfl
  | k + 2 => simp at hv
 ·have hm1 : (xs[1]'(by omega)).1 ∈ xs.map (·.1) := List.mem_map.2 ⟨_, List.getElem_mem _, rfl⟩
  have := d2z hm1
  show l.length ≤ uptoBulk (.agg (xs.map (·.1)))
  simp only [uptoBulk]
  omega
structure Types (P : Program) (tm tv tz tb tn te : TypeId) : Prop where
 mat : P.underlying tm = some (.slice tv)
 vec : P.underlying tv = some (.slice tz)
 num : ∃ fs f0 f1, P.underlying tz = some (.struct fs) ∧ fs.toList = [f0, f1] ∧ (f0.type = tb ∧ f0.offset = 0) ∧ (f1.type = tn ∧ f1.offset = 1)
 bool : P.underlying tb = some .bool
 nat : P.underlying tn = some (.slice te)
 u32 : P.underlying te = some (.int .u32)
 cv : P.cellsOf tv = 1
 cz : P.cellsOf tz = 2
 cb : P.cellsOf tb = 1
 cn : P.cellsOf tn = 1
 ce : P.cellsOf te = 1
variable {tm tv tz tb tn te : TypeId}
theorem Types.open_z (T : Types P tm tv tz tb tn te) {fuel : Nat} {cs : List Value} {x : DataW K × List MemPlace} (h : DataW.trod enc P w base sp held fuel tz cs = some x) (hl2 : cs.length = 2) : ∃ z : ZI, Stands w cs z.av ∧ Zok (uptoBulk x.1) z := by
 obtain ⟨fs, f0, f1, h1, h2, h3, h4⟩ := T.num
 exact Abs.open_z h1 h2 h3 h4 T.bool T.cb T.cn T.nat T.u32 T.ce h hl2
theorem Types.open_vec (T : Types P tm tv tz tb tn te) {fuel : Nat} {cs : List Value} {x : DataW K × List MemPlace} (h : DataW.trod enc P w base sp held fuel tv cs = some x) : ∃ v : List ZI, Stands w cs (vecV v) ∧ v.length ≤ uptoBulk x.1 ∧ (∀ z ∈ v, Zok (uptoBulk x.1) z) ∧ (v.map fun z => z.mag.length).sum ≤ uptoBulk x.1 := by
 obtain ⟨xs0, q1, q2, q3, q4⟩ := d7i (enc := enc) (P := P) (w := w) (base := base) (sp := sp) (held := held) ZI.av (fun z (d : DataW K) => Zok (uptoBulk d) z) 2 T.vec T.cz (by decide) (fun _ => rfl) ZI.cl (by
  intro m cs y hy hl
  obtain ⟨z, r1, r2⟩ := T.open_z hy hl
  exact ⟨z, r2, r1⟩) h
 exact ⟨xs0, q1, q2, fun z hz => (by obtain ⟨d, h1, h2⟩ := q3 z hz; exact h1.mono h2), by have := q4 (fun z => z.mag.length) (fun z d h => h.len); omega⟩
theorem Types.open_mat (T : Types P tm tv tz tb tn te) {fuel : Nat} {cs : List Value} {x : DataW K × List MemPlace} (h : DataW.trod enc P w base sp held fuel tm cs = some x) : ∃ b : List (List ZI), Stands w cs (matV b) ∧ b.length ≤ uptoBulk x.1 ∧ (∀ v ∈ b, v.length ≤ uptoBulk x.1 ∧ ∀ z ∈ v, Zok (uptoBulk x.1) z) ∧ (b.map fun v => v.length).sum ≤ uptoBulk x.1 ∧ (b.map fun v => (v.map fun z => z.mag.length).sum).sum ≤ uptoBulk x.1 := by
 obtain ⟨xs0, q1, q2, q3, q4⟩ := d7i (enc := enc) (P := P) (w := w) (base := base) (sp := sp) (held := held) vecV (fun v (d : DataW K) => v.length ≤ uptoBulk d ∧ (∀ z ∈ v, Zok (uptoBulk d) z) ∧ (v.map fun z => z.mag.length).sum ≤ uptoBulk d) 1 T.mat T.cv (by decide) (fun _ => rfl) a0g (by
  intro m cs y hy hl
  obtain ⟨v, r1, r2, r3, r4⟩ := T.open_vec hy
  exact ⟨v, ⟨r2, r3, r4⟩, r1⟩) h
 refine ⟨xs0, q1, q2, fun v hv => ?_, by have := q4 (fun v => v.length) (fun v d h => h.1); omega, by have := q4 (fun v => (v.map fun z => z.mag.length).sum) (fun v d h => h.2.2); omega⟩
 obtain ⟨d, h1, h2⟩ := q3 v hv
 exact ⟨Nat.le_trans h1.1 h2, fun z hz => (h1.2.1 z hz).mono h2⟩
theorem Stands.rep1 {v : Value} {a : AV} (h : Stands w [v] a) (ha : a.cells = [a]) (φ : Nat → Option Nat) : Rep ⟨φ, [], w⟩ v a := h.rep φ 0 v a rfl (by rw [ha]; rfl)
end
end Go.Abs
namespace Go.Abs
open Go.ChangeShapes Go.WideShapes Go.RowKit
theorem e3v {P : Program} {f : FuncId} {ss : List AV} {r : Bool} (hp : a0d P f ss (.bool r)) {args : Array Value} {W : World} (hl : args.size = ss.length) (hr : ∀ (k : Nat) v a, args.toList[k]? = some v → ss[k]? = some a → Rep ⟨fun _ => none, [], W⟩ v a) :
  Calls P f args W fun e W' => e = .returned (.bool r) ∧ Below W.heap.size W W' := by
 have h := (hp []).2 (fun _ => none) W args.toList (e9r _ _) (by simpa using hl) hr
 rw [Array.toArray_toList] at h
 refine h.mono ?_
 rintro e w' ⟨v, r', φ', H', rfl, ⟨rfl, rfl⟩, q1, q2, q3, q4⟩
 refine ⟨by rw [a2u q2], q4.os, q4.tape, q4.output, q4.size, fun k hk => q4.keep k hk e2P⟩
theorem Below.trodAll {K : Type} {enc : TypeId × Value → K} {P : Program} (hl : laidOutB P = true) {W W' : World} (hb : Below W.heap.size W W') : ∀ {ts : List TypeId} {vs : List Value} {ds : List (DataW K)} {ps : List MemPlace}, (ts.all fun t => P.readableRec t && decide (t < P.types.size)) = true →
  DataW.TrodAll enc P W 0 (fun _ => true) true ts vs ds ps → (∀ x ∈ ps, x.block < W.heap.size) → DataW.TrodAll enc P W' 0 (fun b => decide (b < W.heap.size)) true ts vs ds ps
 | [], [], [], _, _, h, _ => h
 | t :: ts, v :: vs, d :: ds, _, hts, ⟨p, q, h1, h2, e⟩, hlt => by
  simp only [List.all_cons, Bool.and_eq_true, decide_eq_true_eq] at hts
  exact ⟨p, q, Go.RowKit.Below.trod hl hts.1.1 hts.1.2 h1 hb (fun x hx => hlt x (by rw [e]; exact List.mem_append_left _ hx)), Below.trodAll hl hb (by simpa using hts.2) h2 (fun x hx => hlt x (by rw [e]; exact List.mem_append_right _ hx)), e⟩
 | [], _ :: _, _, _, _, h, _ => by simp [DataW.TrodAll] at h
 | [], [], _ :: _, _, _, h, _ => by simp [DataW.TrodAll] at h
 | _ :: _, [], _, _, _, h, _ => by simp [DataW.TrodAll] at h
 | _ :: _, _ :: _, [], _, _, h, _ => by simp [DataW.TrodAll] at h
theorem d8k {P : Program} {W : World} {base : Nat} {t e : TypeId} {v : Value} (ht : P.underlying t = some (.slice e)) (h : Value.okWide P W .any base t v) : v.cells.toList = [v] := by
 cases v <;> first | rfl | (exfalso; simp [Value.okWide, Cell.okWide, Cell.ok, ht] at h)
theorem f0Q {v : List ZI} {n : Nat} (hl : v.length ≤ n) (he : ∀ z ∈ v, Zok n z) (hn : n ≤ 1048576) : Vok 1048576 v := ⟨by omega, fun z hz => (he z hz).mono hn⟩
theorem f1u {b : List (List ZI)} {n : Nat} (hl : b.length ≤ n) (he : ∀ v ∈ b, v.length ≤ n ∧ ∀ z ∈ v, Zok n z) (hn : n ≤ 1048576) : Mok 1048576 b := ⟨by omega, fun v hv => f0Q (he v hv).1 (he v hv).2 hn⟩
theorem e5u {K : Type} {enc : TypeId × Value → K} {P : Program} {f : Func} {s : ChangeSpec} {fresh handsOn : Bool} {W W' : World} {args : Array Value} {ds gs : List (DataW K)} {before : List MemPlace} {tb : TypeId}
  (hW : DataW.Whole enc P f.params.toList s.vars false W args.toList ds gs before) (hv : s.vars = []) (hfn : s.fn K ds = { results := [.lit (.bool true)], args := ds }) (ht : f.resultTypes = #[tb]) (htb : P.underlying tb = some .bool)
  (hl : laidOutB P = true) (hts : (f.params.toList.all fun t => P.readableRec t && decide (t < P.types.size)) = true) (hb : Below W.heap.size W W') :
  s.post enc P f false fresh handsOn false W args (.bool true) W' := by
 have hW0 := hW
 obtain ⟨p, q, hA, hV, rfl, hz, hn⟩ := hW
 rw [hv] at hV
 obtain ⟨rfl, rfl⟩ := trodVars_none hV
 have hlt : ∀ x ∈ p, x.block < W.heap.size := fun x hx => by simpa using hW0.lt x (by simpa using hx)
 have hA' := Below.trodAll (enc := enc) hl hb hts hA hlt
 refine ⟨ds, [], p ++ [], [], p, [], hW0, ?_, ?_, ?_, ?_, by simp⟩
 ·rw [List.append_nil, hfn, ht]
  exact trodAll_cons_mk (shut_bool htb true) trodAll_mk0
 ·rw [List.append_nil, hfn]; exact hA'
 ·rw [List.append_nil, hfn, hv]; rfl
 ·refine ⟨hb.os, hb.output, fun i hi => ?_⟩
  have := (World.keptBut_refl W (fun x => x ∈ p ++ [] ∧ (x ∈ [] ∨ x ∈ p ∨ x ∈ []))).2.2 i hi
  rw [hb.block i hi]
  exact this
end Go.Abs
namespace Go.Abs
open Go.ChangeShapes Go.WideShapes Go.RowKit
open Go.Proofs.Ytidemmcbjiccfaa.Rows (uptoBulk uptoBulkAll)
section
variable {K : Type} {enc : TypeId × Value → K} {P : Program} {w : World} {base : Nat} {sp : Nat → Bool} {held : Bool} {tm tv tz tb tn te : TypeId} {v : Value} {fuel : Nat} {x : DataW K × List MemPlace} {b1 : Nat}
theorem Types.arg_mat (T : Types P tm tv tz tb tn te) (hok : Value.okWide P w .any b1 tm v) (h : DataW.trod enc P w base sp held fuel tm v.cells.toList = some x) (hb : uptoBulk x.1 ≤ 1048576) : ∃ b, Mok 1048576 b ∧ ∀ φ, Rep ⟨φ, [], w⟩ v (matV b) := by
 obtain ⟨b, s, l, e, _⟩ := T.open_mat h
 rw [d8k T.mat hok] at s
 exact ⟨b, f1u l e hb, fun φ => s.rep1 rfl φ⟩
end
end Go.Abs

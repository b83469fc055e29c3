/- Matrices of the call's own or handed in: a row of rows. The outer row names the inner ones in any order. -/
import Derived.Test.YtmbjamifiadncaaDoorA21
set_option linter.unusedVariables false
set_option linter.unusedSimpArgs false
namespace Go.Abs

def fr (n : Nat) (f : Nat → AV) : List AV := (List.range n).map f
theorem fr_len (n : Nat) (f : Nat → AV) : (fr n f).length = n := by simp [fr]
theorem fr_get {n : Nat} {f : Nat → AV} {i : Nat} (h : i < n) : (fr n f).getD i .top = f i := by simp [fr, List.getD_eq_getElem?_getD, h]
theorem fr_get? {n : Nat} {f : Nat → AV} {i : Nat} (h : i < n) : (fr n f)[i]? = some (f i) := by simp [fr, h]
theorem fr_congr {n : Nat} {f g : Nat → AV} (h : ∀ i, i < n → f i = g i) : fr n f = fr n g := List.map_congr_left fun i hi => h i (List.mem_range.1 hi)
theorem fr_set (n : Nat) (f : Nat → AV) (i : Nat) (v : AV) : (fr n f).set i v = fr n fun j => if j = i then v else f j := by
  apply List.ext_getElem?
  intro j
  rw [List.getElem?_set]
  simp only [fr, List.getElem?_map, List.length_map, List.length_range]
  rcases Nat.lt_or_ge j n with h | h
  · rw [List.getElem?_range h]
    by_cases e : i = j
    · subst e; simp [h]
    · simp [e, Ne.symm e]
  · by_cases e : i = j
    · subst e; simp [h]
    · simp [e, h]
theorem fr_mem {n : Nat} {f : Nat → AV} {a : AV} (h : a ∈ fr n f) : ∃ i, i < n ∧ a = f i := by
  obtain ⟨i, hi, rfl⟩ := List.mem_map.1 h
  exact ⟨i, List.mem_range.1 hi, rfl⟩
theorem fr_succ (n : Nat) (f : Nat → AV) : fr (n + 1) f = fr n f ++ [f n] := by simp [fr, List.range_succ]

theorem clcells' {a : AV} (h : Cl a) : ∀ c ∈ a.cells, Cl c := by
  cases h with
  | agg cs h => exact h
  | top => intro c hc; simp [AV.cells] at hc; subst hc; exact .top
  | int k n => intro c hc; simp [AV.cells] at hc; subst hc; exact .int k n
  | bool b => intro c hc; simp [AV.cells] at hc; subst hc; exact .bool b
  | str b => intro c hc; simp [AV.cells] at hc; subst hc; exact .str b
  | nil => intro c hc; simp [AV.cells] at hc; subst hc; exact .nil
  | lit v => intro c hc; simp [AV.cells] at hc; subst hc; exact .lit v
  | sl wd xs h => intro c hc; simp [AV.cells] at hc; subst hc; exact .sl wd xs h
  | ro x off h => intro c hc; simp [AV.cells] at hc; subst hc; exact .ro x off h
  | tup cs h => intro c hc; simp [AV.cells] at hc; subst hc; exact .tup cs h
  | fn f cs h => intro c hc; simp [AV.cells] at hc; subst hc; exact .fn f cs h
  | bfn f cs h => intro c hc; simp [AV.cells] at hc; subst hc; exact .bfn f cs h

/-- Rows bound anew: the outer one, and n inner ones behind it. -/
def hm (G : Heap) (β n : Nat) (O : List AV) (R : Nat → Option Blk) : Heap := G.mapIdx fun j o => if j = β then some ⟨1, O⟩ else if β < j ∧ j ≤ β + n then R (j - (β + 1)) else o
theorem hm_len (G : Heap) (β n : Nat) (O : List AV) (R : Nat → Option Blk) : (hm G β n O R).length = G.length := by simp [hm]
theorem hm_get (G : Heap) (β n : Nat) (O : List AV) (R : Nat → Option Blk) (j : Nat) (hj : j < G.length) : (hm G β n O R)[j]? = if j = β then some (some ⟨1, O⟩) else if β < j ∧ j ≤ β + n then some (R (j - (β + 1))) else G[j]? := by
  simp only [hm, List.getElem?_mapIdx, List.getElem?_eq_getElem hj, Option.map_some]
  split
  · rfl
  · split <;> rfl
theorem hm_self {G : Heap} {β n : Nat} {O : List AV} {R : Nat → Option Blk} (ho : G[β]? = some (some ⟨1, O⟩)) (hr : ∀ j, j < n → G[β + 1 + j]? = some (R j)) : hm G β n O R = G := by
  apply List.ext_getElem?
  intro j
  rcases Nat.lt_or_ge j G.length with hj | hj
  · rw [hm_get _ _ _ _ _ _ hj]
    split
    · rename_i e; subst e; exact ho.symm
    · split
      · rename_i e1 e2
        have := hr (j - (β + 1)) (by omega)
        rw [show β + 1 + (j - (β + 1)) = j by omega] at this
        exact this.symm
      · rfl
  · rw [List.getElem?_eq_none (by rw [hm_len]; exact hj), List.getElem?_eq_none hj]
theorem hm_hm (G : Heap) (β n : Nat) (O O' : List AV) (R R' : Nat → Option Blk) : hm (hm G β n O R) β n O' R' = hm G β n O' R' := by
  apply List.ext_getElem?
  intro j
  rcases Nat.lt_or_ge j G.length with hj | hj
  · rw [hm_get _ _ _ _ _ _ (by rw [hm_len]; exact hj), hm_get _ _ _ _ _ _ hj, hm_get _ _ _ _ _ _ hj]
    by_cases h1 : j = β
    · rw [if_pos h1, if_pos h1]
    · rw [if_neg h1, if_neg h1, if_neg h1]
      by_cases h2 : β < j ∧ j ≤ β + n
      · rw [if_pos h2, if_pos h2]
      · rw [if_neg h2, if_neg h2, if_neg h2]
  · rw [List.getElem?_eq_none (by rw [hm_len, hm_len]; exact hj), List.getElem?_eq_none (by rw [hm_len]; exact hj)]
theorem hm_congr {G : Heap} {β n : Nat} {O O' : List AV} {R R' : Nat → Option Blk} (ho : O = O') (hr : ∀ j, j < n → R j = R' j) : hm G β n O R = hm G β n O' R' := by
  subst ho
  apply List.ext_getElem?
  intro j
  rcases Nat.lt_or_ge j G.length with hj | hj
  · rw [hm_get _ _ _ _ _ _ hj, hm_get _ _ _ _ _ _ hj]
    split
    · rfl
    · split
      · rw [hr _ (by omega)]
      · rfl
  · rw [List.getElem?_eq_none (by rw [hm_len]; exact hj), List.getElem?_eq_none (by rw [hm_len]; exact hj)]

theorem set_app (A B : Heap) (id : Nat) (b : Option Blk) (h : id < A.length) : (hap A B).set id b = hap (A.set id b) B := by
  unfold hap; exact List.set_append_left _ _ h
theorem lid_hm (G : Heap) (β n : Nat) (O : List AV) (R : Nat → Option Blk) (i : Nat) : lid (hm G β n O R) i = lid G i := by unfold lid; rw [hm_len]

section
variable {G L : Heap} {β n : Nat} {O : List AV} {R : Nat → Option Blk}
/-- Local rows behind. -/
theorem hrow_loc (i : Nat) : hrow (hap (hm G β n O R) L) (lid G i) = (L[i]?).join := by
  rw [← lid_hm G β n O R, hrow_hap]
theorem set_loc (i : Nat) (x : Option Blk) : (hap (hm G β n O R) L).set (lid G i) x = hap (hm G β n O R) (L.set i x) := by
  rw [← lid_hm G β n O R, set_hap]
variable (hG : β + n < G.length)
include hG
theorem hrow_out : hrow (hap (hm G β n O R) L) β = some ⟨1, O⟩ := by
  rw [hrow_old _ _ _ (by rw [hm_len]; omega)]
  simp only [hrow]
  rw [hm_get _ _ _ _ _ _ (by omega), if_pos rfl]; rfl
theorem hrow_in {j : Nat} (hj : j < n) : hrow (hap (hm G β n O R) L) (β + 1 + j) = R j := by
  rw [hrow_old _ _ _ (by rw [hm_len]; omega)]
  simp only [hrow]
  rw [hm_get _ _ _ _ _ _ (by omega), if_neg (by omega), if_pos (by omega), show β + 1 + j - (β + 1) = j by omega]; rfl
theorem set_out (O' : List AV) : (hap (hm G β n O R) L).set β (some ⟨1, O'⟩) = hap (hm G β n O' R) L := by
  rw [set_app _ _ _ _ (by rw [hm_len]; omega)]
  congr 1
  apply List.ext_getElem?
  intro j
  rw [List.getElem?_set]
  rcases Nat.lt_or_ge j G.length with hj | hj
  · rw [hm_get _ _ _ _ _ _ hj, hm_get _ _ _ _ _ _ hj, hm_len]
    by_cases h : β = j
    · subst h; simp [hj]
    · rw [if_neg h, if_neg (Ne.symm h), if_neg (Ne.symm h)]
  · rw [List.getElem?_eq_none (by rw [hm_len]; exact hj), List.getElem?_eq_none (by rw [hm_len]; exact hj), if_neg (by omega)]
theorem set_in {j : Nat} (hj : j < n) (b : Option Blk) : (hap (hm G β n O R) L).set (β + 1 + j) b = hap (hm G β n O fun t => if t = j then b else R t) L := by
  rw [set_app _ _ _ _ (by rw [hm_len]; omega)]
  congr 1
  apply List.ext_getElem?
  intro i
  rw [List.getElem?_set]
  rcases Nat.lt_or_ge i G.length with hi | hi
  · rw [hm_get _ _ _ _ _ _ hi, hm_get _ _ _ _ _ _ hi, hm_len]
    by_cases h : β + 1 + j = i
    · subst h
      rw [if_pos rfl, if_pos (by omega), if_neg (by omega), if_pos (by omega), if_pos (by omega)]
    · rw [if_neg h]
      by_cases h1 : i = β
      · rw [if_pos h1, if_pos h1]
      · rw [if_neg h1, if_neg h1]
        by_cases h2 : β < i ∧ i ≤ β + n
        · rw [if_pos h2, if_pos h2, if_neg (by omega)]
        · rw [if_neg h2, if_neg h2]
  · rw [List.getElem?_eq_none (by rw [hm_len]; exact hi), List.getElem?_eq_none (by rw [hm_len]; exact hi), if_neg (by omega)]
end

/-- A matrix: inner rows of c elements of w cells; logical row i lies at π i. -/
def orow (β n c : Nat) (oc : Option Nat) (π : Nat → Nat) : List AV := fr n fun i => .mu (β + 1 + π i) 0 c oc
def hM (G : Heap) (β n w c : Nat) (oc : Option Nat) (π : Nat → Nat) (S : Nat → Nat → AV) : Heap := hm G β n (orow β n c oc π) fun j => some ⟨w, fr c (S j)⟩
def upd2 (S : Nat → Nat → AV) (j k : Nat) (v : AV) : Nat → Nat → AV := fun a b => if a = j then (if b = k then v else S a b) else S a b
def swp (π : Nat → Nat) (p r : Nat) : Nat → Nat := fun i => if i = p then π r else if i = r then π p else π i
theorem hM_len (G : Heap) (β n w c : Nat) (oc : Option Nat) (π : Nat → Nat) (S : Nat → Nat → AV) : (hM G β n w c oc π S).length = G.length := hm_len _ _ _ _ _
theorem lid_hM (G : Heap) (β n w c : Nat) (oc : Option Nat) (π : Nat → Nat) (S : Nat → Nat → AV) (i : Nat) : lid (hM G β n w c oc π S) i = lid G i := lid_hm _ _ _ _ _ _
theorem hM_congr {G : Heap} {β n w c : Nat} {oc : Option Nat} {π : Nat → Nat} {S S' : Nat → Nat → AV} (h : ∀ j k, j < n → k < c → S j k = S' j k) : hM G β n w c oc π S = hM G β n w c oc π S' :=
  hm_congr rfl fun j hj => by rw [fr_congr fun k hk => h j k hj hk]
section
variable {G L : Heap} {β n w c : Nat} {oc : Option Nat} {π : Nat → Nat} {S : Nat → Nat → AV}
theorem hrow_locM (i : Nat) : hrow (hap (hM G β n w c oc π S) L) (lid G i) = (L[i]?).join := hrow_loc i
theorem set_locM (i : Nat) (x : Option Blk) : (hap (hM G β n w c oc π S) L).set (lid G i) x = hap (hM G β n w c oc π S) (L.set i x) := set_loc i x
variable (hG : β + n < G.length)
include hG
theorem hrow_outM : hrow (hap (hM G β n w c oc π S) L) β = some ⟨1, orow β n c oc π⟩ := hrow_out hG
theorem hrow_inM {j : Nat} (hj : j < n) : hrow (hap (hM G β n w c oc π S) L) (β + 1 + j) = some ⟨w, fr c (S j)⟩ := hrow_in hG hj
/-- A row of the matrix. -/
theorem M_idx {i : Nat} (hi : i < n) (oc' : Option Nat) (k : IntKind) : idxV (hap (hM G β n w c oc π S) L) 1 (.mu β 0 n oc') (.int k i) = some (.loc β i 0) := by
  rw [idxV_mu _ _ _ _ _ _ _ _ (by omega) (by omega), hrow_outM hG]; simp
theorem M_at {i : Nat} (hi : i < n) : atV (hap (hM G β n w c oc π S) L) (.loc β i 0) = some [.mu (β + 1 + π i) 0 c oc] := by
  rw [atV_loc, hrow_outM hG]
  simp only [Option.bind_some, orow, fr_len]
  rw [if_pos hi, fr_get hi]; rfl
theorem M_len (len : Nat) (oc' : Option Nat) : lenV (hap (hM G β n w c oc π S) L) (.mu β 0 len oc') = some (.int .i64 len) := by
  rw [lenV_mu, hrow_outM hG]; rfl
theorem M_rlen {j : Nat} (hj : j < n) (len : Nat) (oc' : Option Nat) : lenV (hap (hM G β n w c oc π S) L) (.mu (β + 1 + j) 0 len oc') = some (.int .i64 len) := by
  rw [lenV_mu, hrow_inM hG hj]; rfl
/-- An entry. -/
theorem E_idx {j k : Nat} (hj : j < n) (hk : k < c) (oc' : Option Nat) (ki : IntKind) : idxV (hap (hM G β n w c oc π S) L) w (.mu (β + 1 + j) 0 c oc') (.int ki k) = some (.loc (β + 1 + j) k 0) := by
  rw [idxV_mu _ _ _ _ _ _ _ _ (by omega) (by omega), hrow_inM hG hj]; simp
theorem E_at {j k : Nat} (hj : j < n) (hk : k < c) : atV (hap (hM G β n w c oc π S) L) (.loc (β + 1 + j) k 0) = some (S j k).cells := by
  rw [atV_loc, hrow_inM hG hj]
  simp only [Option.bind_some, fr_len]
  rw [if_pos hk, fr_get hk]; rfl
theorem E_st {j k : Nat} (hj : j < n) (hk : k < c) {v : AV} (hf : v.fit = true) (hw : v.cells.length = w) (env : Env) : storeV w (.loc (β + 1 + j) k 0) v env (hap (hM G β n w c oc π S) L) = some (.top, env, hap (hM G β n w c oc π (upd2 S j k v)) L) := by
  simp only [storeV, hrow_inM hG hj, Option.bind_some, fr_len]
  rw [if_pos ⟨hk, hf, hw, by omega⟩]
  rw [upd_whole, fr_set]
  unfold hM
  rw [set_in hG hj]
  refine congrArg (fun x => some (AV.top, env, hap x L)) (hm_congr rfl fun t ht => ?_)
  split
  · rename_i e; subst e
    congr 2; exact fr_congr fun a _ => by simp [upd2]
  · rename_i e
    congr 2; exact fr_congr fun a _ => by simp [upd2, e]
/-- A row put at another place. -/
theorem M_st {i j : Nat} (hi : i < n) (env : Env) : storeV 1 (.loc β i 0) (.mu (β + 1 + j) 0 c oc) env (hap (hM G β n w c oc π S) L) = some (.top, env, hap (hM G β n w c oc (fun t => if t = i then j else π t) S) L) := by
  simp only [storeV, hrow_outM hG, Option.bind_some, orow, fr_len]
  rw [if_pos ⟨hi, rfl, rfl, by omega⟩, upd_whole, fr_set]
  unfold hM
  rw [set_out hG]
  refine congrArg (fun x => some (AV.top, env, hap x L)) (hm_congr (fr_congr fun t _ => ?_) fun _ _ => rfl)
  by_cases e : t = i <;> simp [e]
end

/-! ### Rows behind rows that were there before -/
theorem Safe.dropG {x : Cx} {todo : List AItem} {env : Env} {H L : Heap} {R : AV → Heap → Prop} {o : Option Blk} (hH : HRefs H) (hx : x.n0 ≤ H.length) (he : env.all (fun p => nref (lid H L.length) p.2) = true)
    (hL : ∀ b, some b ∈ L → ∀ a ∈ b.flat, nref (lid H L.length) a = true) (h : Safe x todo env (hap H L) R) : Safe x todo env (hap H (L ++ [o])) R := by
  intro φ w tmps b k cs hg hn hb hk htd hsz hok hrep
  have hlen : (hap H (L ++ [o])).length = lid H L.length + 1 := by simp [hap, lid, Nat.add_assoc]
  have lt : ∀ {a}, Ref (· < (hap H (L ++ [o])).length) a → Ref (· ≠ lid H L.length) a → Ref (· < lid H L.length) a := fun h1 h2 => (h1.both h2).mono fun i ⟨q1, q2⟩ => by rw [hlen] at q1; show i < _; omega
  have htake : (hap H (L ++ [o])).take (lid H L.length) = hap H L := by
    simp only [hap, lid, ← List.append_assoc]
    rw [show H.length + L.length = (H ++ L).length by simp, List.take_left']
    rfl
  have hcut := HOk.cut (E := ⟨φ, hap H (L ++ [o]), w⟩) hok (lid H L.length) (by
    intro j bj hj hbj a ha
    refine lt (hok.refs hbj a ha) ?_
    simp only [hap] at hbj
    rcases Nat.lt_or_ge j H.length with hlt | hge
    · rw [List.getElem?_append_left hlt] at hbj
      exact (hH j bj hbj a ha).mono fun i hi => by show i ≠ H.length + L.length; have : i < H.length := hi; omega
    · rw [List.getElem?_append_right hge] at hbj
      have hj2 : j - H.length < L.length := by simp only [lid] at hj; omega
      rw [List.getElem?_append_left hj2] at hbj
      exact nref_iff.1 (hL bj (List.mem_of_getElem? hbj) a ha))
  simp only [htake] at hcut
  obtain ⟨v, w', fr, r, φ', H', q1, q2, q3, q4, q5, q6⟩ := h φ w tmps b k cs hg (by simp [hap]; omega) hb hk htd hsz hcut.1 (fun t => (hrep t).mono hcut.2 (lt (hrep t).ref (look_nref he t)))
  exact ⟨v, w', fr, r, φ', H', q1, q2, q3, q4, (hcut.2.sub fun i hi => by show i < H.length + L.length; have : i < x.n0 := hi; omega).trans q5, q6⟩
theorem Safe.freezeB {x : Cx} {todo : List AItem} {env : Env} {H : Heap} {R : AV → Heap → Prop} (i : Nat) {L : Heap} {b : Blk} (hH : HRefs H) (hx : x.n0 ≤ H.length) (hl : L[i]? = some (some b)) (hcl : ∀ c ∈ b.flat, Cl c)
    (h : Safe x todo (frzE (lid H i) b env) (hap H ((frzL (lid H i) b L).set i none)) R) : Safe x todo env (hap H L) R := by
  refine Safe.freezeG (id := lid H i) (b := b) (Nat.le_trans hx (lid_ge H i)) ?_ hcl ?_
  · unfold hap lid
    rw [List.getElem?_append_right (by omega), Nat.add_sub_cancel_left]; exact hl
  · rw [frzH_hap hH]; exact h

/-- Behind a row of old. -/
theorem app_old {G L : Heap} {n0 wd bytes id len : Nat} {xs ys : List AV} {y : AV} {env : Env} (hl : G[id]? = some (some ⟨wd, xs⟩)) (hn : n0 ≤ id) (hlen : len = xs.length) (hy : srcEls (hap G L) wd false y = some ys) (hyl : 0 < ys.length)
    (hfree : Free (hap G L) id) (hys : ∀ a ∈ ys.flatMap AV.cells, Ref (· ≠ id) a) (hxs : ∀ a ∈ xs.flatMap AV.cells, Ref (· ≠ id) a) (hb : (len + ys.length) * bytes ≤ 140737488355328) (h63 : len + ys.length ≤ 9223372036854775807) :
    appV n0 wd bytes false (.mu id 0 len none) y env (hap G L) = some (.mu id 0 (len + ys.length) none, scrub id env, hap (G.set id (some ⟨wd, xs ++ ys⟩)) L) := by
  have hid := lt_of_live hl
  have hr : hrow (hap G L) id = some ⟨wd, xs⟩ := by rw [hrow_old _ _ _ hid]; simp [hrow, hl]
  simp only [appV, hy, Option.bind_some, hr, Option.any_none]
  rw [if_neg (by simp), if_pos ⟨trivial, trivial, by omega, hn, free_iff.2 hfree, List.all_eq_true.2 fun a ha => nref_iff.2 (hys a ha), List.all_eq_true.2 fun a ha => nref_iff.2 (hxs a ha), hb, h63⟩]
  subst hlen
  rw [List.take_length, set_app _ _ _ _ hid]
  rfl

/-- A matrix as it comes out of a function: the outer row, the inner ones behind it. -/
def mrows (β n w c : Nat) (oc : Option Nat) (S : Nat → Nat → AV) : Heap := some ⟨1, orow β n c oc fun i => i⟩ :: (List.range n).map fun j => some ⟨w, fr c (S j)⟩
theorem mrows_len (β n w c : Nat) (oc : Option Nat) (S : Nat → Nat → AV) : (mrows β n w c oc S).length = n + 1 := by simp [mrows]
theorem mrows_row {β n w c : Nat} {oc : Option Nat} {S : Nat → Nat → AV} {j : Nat} (h : j < n) : (mrows β n w c oc S)[j + 1]? = some (some ⟨w, fr c (S j)⟩) := by simp [mrows, h]
theorem hM_rows (H X : Heap) (n w c : Nat) (oc : Option Nat) (S : Nat → Nat → AV) : hM (hap H (X ++ mrows (lid H X.length) n w c oc S)) (lid H X.length) n w c oc (fun i => i) S = hap H (X ++ mrows (lid H X.length) n w c oc S) := by
  refine hm_self ?_ fun j hj => ?_
  · simp only [hap, lid, ← List.append_assoc]
    rw [List.getElem?_append_right (by simp)]
    simp [mrows, lid]
  · simp only [hap, lid, ← List.append_assoc]
    rw [List.getElem?_append_right (by simp; omega)]
    have : H.length + X.length + 1 + j - (H ++ X).length = j + 1 := by simp; omega
    rw [this]; exact mrows_row hj
theorem mrows_lt (H X : Heap) (n w c : Nat) (oc : Option Nat) (S : Nat → Nat → AV) : lid H X.length + n < (hap H (X ++ mrows (lid H X.length) n w c oc S)).length := by
  simp [hap, lid, mrows_len]; omega
/-- One row more. -/
theorem mrows_succ (H : Heap) (n w c : Nat) (oc : Option Nat) (S : Nat → Nat → AV) :
    hap ((hap H (mrows (lid H 0) n w c oc S)).set (lid H 0) (some ⟨1, orow (lid H 0) n c oc (fun i => i) ++ [.mu (lid (hap H (mrows (lid H 0) n w c oc S)) 0) 0 c oc]⟩)) [some ⟨w, fr c (S n)⟩] = hap H (mrows (lid H 0) (n + 1) w c oc S) := by
  have e : lid (hap H (mrows (lid H 0) n w c oc S)) 0 = lid H 0 + 1 + n := by simp [hap, lid, mrows_len]; omega
  have e2 : orow (lid H 0) n c oc (fun i => i) ++ [.mu (lid H 0 + 1 + n) 0 c oc] = orow (lid H 0) (n + 1) c oc fun i => i := by
    unfold orow; rw [fr_succ]
  rw [e, e2]
  simp only [hap, lid, Nat.add_zero]
  rw [List.set_append_right _ _ (Nat.le_refl _), Nat.sub_self]
  simp only [mrows, List.set_cons_zero, List.append_assoc, List.cons_append]
  congr 2
  rw [List.range_succ, List.map_append]; rfl
theorem orow_refs {β n c : Nat} {oc : Option Nat} {π : Nat → Nat} {P : Nat → Prop} (h : ∀ i, i < n → P (β + 1 + π i)) : ∀ a ∈ (Blk.mk 1 (orow β n c oc π)).flat, Ref P a := by
  intro a ha
  obtain ⟨y, hy, hya⟩ := List.mem_flatMap.1 ha
  obtain ⟨i, hi, rfl⟩ := fr_mem hy
  simp [AV.cells] at hya
  subst hya
  exact .mu _ _ _ _ (h i hi)
theorem fr_flat_cl {w c : Nat} {f : Nat → AV} (h : ∀ k, k < c → Cl (f k)) : ∀ a ∈ (Blk.mk w (fr c f)).flat, Cl a := by
  intro a ha
  obtain ⟨y, hy, hya⟩ := List.mem_flatMap.1 ha
  obtain ⟨k, hk, rfl⟩ := fr_mem hy
  exact clcells' (h k hk) a hya
theorem mrows_refs {H X : Heap} (hH : HRefs H) (hX : ∀ b, some b ∈ X → ∀ a ∈ b.flat, Cl a) {n w c : Nat} {oc : Option Nat} {S : Nat → Nat → AV} (hS : ∀ j k, j < n → k < c → Cl (S j k)) : HRefs (hap H (X ++ mrows (lid H X.length) n w c oc S)) := by
  have hlen : (hap H (X ++ mrows (lid H X.length) n w c oc S)).length = lid H X.length + 1 + n := by simp [hap, lid, mrows_len]; omega
  intro id b hb a ha
  rw [hlen]
  simp only [hap] at hb
  rcases Nat.lt_or_ge id H.length with h1 | h1
  · rw [List.getElem?_append_left h1] at hb
    exact (hH id b hb a ha).mono fun i hi => by have : i < H.length := hi; show i < _; unfold lid; omega
  · rw [List.getElem?_append_right h1] at hb
    rcases Nat.lt_or_ge (id - H.length) X.length with h2 | h2
    · rw [List.getElem?_append_left h2] at hb
      exact (hX b (List.mem_of_getElem? hb) a ha).ref
    · rw [List.getElem?_append_right h2] at hb
      generalize id - H.length - X.length = j at hb
      cases j with
      | zero =>
        simp [mrows] at hb; subst hb
        exact orow_refs (fun i hi => by show _ < _; omega) a ha
      | succ j =>
        have hj := lt_of_live' hb
        rw [mrows_len] at hj
        rw [mrows_row (by omega)] at hb
        cases hb
        exact (fr_flat_cl (fun k hk => hS j k (by omega) hk) a ha).ref
theorem hM_refs {G : Heap} {β n w c : Nat} {oc : Option Nat} {π π' : Nat → Nat} {S S' : Nat → Nat → AV} (hG : β + n < G.length) (h : HRefs (hM G β n w c oc π S)) (hπ : ∀ i, i < n → π' i < n) (hS : ∀ j k, j < n → k < c → Cl (S' j k)) : HRefs (hM G β n w c oc π' S') := by
  intro id b hb a ha
  rw [hM_len]
  have hid := lt_of_live hb
  rw [hM_len] at hid
  unfold hM at hb
  rw [hm_get _ _ _ _ _ _ hid] at hb
  split at hb
  · cases hb
    exact orow_refs (fun i hi => by show _ < _; have := hπ i hi; omega) a ha
  · split at hb
    · cases hb
      exact (fr_flat_cl (fun k hk => hS _ k (by omega) hk) a ha).ref
    · rename_i h1 h2
      have := h id b (by unfold hM; rw [hm_get _ _ _ _ _ _ hid, if_neg h1, if_neg h2]; exact hb) a ha
      rwa [hM_len] at this
theorem hap_hm (G L : Heap) (β n : Nat) (O : List AV) (R : Nat → Option Blk) (hG : β + n < G.length) : hap (hm G β n O R) L = hm (hap G L) β n O R := by
  apply List.ext_getElem?
  intro j
  have hl : (hap G L).length = G.length + L.length := by simp [hap]
  rcases Nat.lt_or_ge j (G.length + L.length) with hj | hj
  · rw [hm_get _ _ _ _ _ _ (by omega)]
    unfold hap
    rcases Nat.lt_or_ge j G.length with h1 | h1
    · rw [List.getElem?_append_left (by rw [hm_len]; exact h1), hm_get _ _ _ _ _ _ h1, List.getElem?_append_left h1]
    · rw [List.getElem?_append_right (by rw [hm_len]; exact h1), List.getElem?_append_right h1, if_neg (by omega), if_neg (by omega), hm_len]
  · rw [List.getElem?_eq_none (by simp [hap, hm_len]; omega), List.getElem?_eq_none (by rw [hm_len]; omega)]
theorem hap_hM (G L : Heap) (β n w c : Nat) (oc : Option Nat) (π : Nat → Nat) (S : Nat → Nat → AV) (hG : β + n < G.length) : hap (hM G β n w c oc π S) L = hM (hap G L) β n w c oc π S := hap_hm G L β n _ _ hG
/-- No row beside names the outer one. -/
theorem mrows_free {H X : Heap} (hH : HRefs H) (hX : ∀ b, some b ∈ X → ∀ a ∈ b.flat, Cl a) {n w c : Nat} {oc : Option Nat} {S : Nat → Nat → AV} (hS : ∀ j k, j < n → k < c → Cl (S j k)) : Free (hap H (X ++ mrows (lid H X.length) n w c oc S)) (lid H X.length) := by
  intro id b hne hb a ha
  simp only [hap] at hb
  rcases Nat.lt_or_ge id H.length with h1 | h1
  · rw [List.getElem?_append_left h1] at hb
    exact (hH id b hb a ha).mono fun i hi => by have : i < H.length := hi; show i ≠ _; unfold lid; omega
  · rw [List.getElem?_append_right h1] at hb
    rcases Nat.lt_or_ge (id - H.length) X.length with h2 | h2
    · rw [List.getElem?_append_left h2] at hb
      exact (hX b (List.mem_of_getElem? hb) a ha).ref
    · rw [List.getElem?_append_right h2] at hb
      generalize hj0 : id - H.length - X.length = j at hb
      cases j with
      | zero => exact absurd (show id = lid H X.length by unfold lid; omega) hne
      | succ j =>
        have hj := lt_of_live' hb
        rw [mrows_len] at hj
        rw [mrows_row (by omega)] at hb
        cases hb
        exact (fr_flat_cl (fun k hk => hS j k (by omega) hk) a ha).ref
theorem free_app {G L : Heap} {id : Nat} (hG : Free G id) (hL : ∀ b, some b ∈ L → ∀ a ∈ b.flat, Ref (· ≠ id) a) : Free (hap G L) id := by
  intro j b hne hb a ha
  simp only [hap] at hb
  rcases Nat.lt_or_ge j G.length with h1 | h1
  · rw [List.getElem?_append_left h1] at hb; exact hG j b hne hb a ha
  · rw [List.getElem?_append_right h1] at hb; exact hL b (List.mem_of_getElem? hb) a ha
theorem st_zeroM {G L : Heap} {β n w c : Nat} {oc : Option Nat} {π : Nat → Nat} {S : Nat → Nat → AV} (m i off : Nat) (v : AV) (env : Env) : storeV m (.loc (lid G i) 0 off) v env (hap (hM G β n w c oc π S) L) = (L[i]?).join.bind fun b =>
    if 0 < b.xs.length ∧ v.fit = true ∧ v.cells.length = m ∧ off + m ≤ b.wd then some (.top, env, hap (hM G β n w c oc π S) (L.set i (some ⟨b.wd, b.xs.set 0 (upd (b.xs.getD 0 .top) b.wd off m v)⟩))) else none := by
  simp only [storeV, hrow_locM, set_locM]
theorem M_slc {G L : Heap} {β n w c : Nat} {oc : Option Nat} {π : Nat → Nat} {S : Nat → Nat → AV} (hG : β + n < G.length) {r m : Nat} (hr : r ≤ m) (k : IntKind) : slcV (hap (hM G β n w c oc π S) L) 1 (.mu β 0 m none) none (some (.int k r)) none = some (.mu β 0 r none) := by
  simp only [slcV, hrow_outM hG, Option.bind_some, boundV]
  rw [if_pos ⟨trivial, by omega, by omega, by omega⟩]
  simp
theorem Safe.dropM {G : Heap} {β n w c : Nat} {oc : Option Nat} {π : Nat → Nat} {S : Nat → Nat → AV} {x : Cx} {todo : List AItem} {env : Env} {R : AV → Heap → Prop} (L : Heap) {o : Option Blk} (hH : HRefs (hM G β n w c oc π S)) (hx : x.n0 ≤ G.length)
    (he : env.all (fun p => nref (lid G L.length) p.2) = true) (hL : ∀ b, some b ∈ L → ∀ a ∈ b.flat, Cl a) (h : Safe x todo env (hap (hM G β n w c oc π S) L) R) : Safe x todo env (hap (hM G β n w c oc π S) (L ++ [o])) R :=
  Safe.dropG hH (by rw [hM_len]; exact hx) (by rw [lid_hM]; exact he) (fun b hb a ha => nref_cl (hL b hb a ha)) h
theorem Safe.freezeM {G : Heap} {β n w c : Nat} {oc : Option Nat} {π : Nat → Nat} {S : Nat → Nat → AV} {x : Cx} {todo : List AItem} {env : Env} {R : AV → Heap → Prop} (i : Nat) {L : Heap} {b : Blk} (hH : HRefs (hM G β n w c oc π S)) (hx : x.n0 ≤ G.length) (hl : L[i]? = some (some b)) (hcl : ∀ c ∈ b.flat, Cl c)
    (h : Safe x todo (frzE (lid G i) b env) (hap (hM G β n w c oc π S) ((frzL (lid G i) b L).set i none)) R) : Safe x todo env (hap (hM G β n w c oc π S) L) R :=
  Safe.freezeB i hH (by rw [hM_len]; exact hx) hl hcl (by rw [lid_hM]; exact h)
theorem zero4_cl : Cl (.agg [.bool false, .nil, .bool false, .nil]) := .agg _ fun c hc => by
  simp only [List.mem_cons, List.not_mem_nil, or_false] at hc
  rcases hc with rfl | rfl | rfl | rfl
  · exact .bool _
  · exact .nil
  · exact .bool _
  · exact .nil
/-! Rows before the matrix -/
theorem hap_hap' (H L M : Heap) : hap (hap H L) M = hap H (L ++ M) := by simp [hap]
theorem hrow_low {G L : Heap} {β n id : Nat} {O : List AV} {R : Nat → Option Blk} (hG : β + n < G.length) (hid : id < β) : hrow (hap (hm G β n O R) L) id = hrow G id := by
  rw [hrow_old _ _ _ (by rw [hm_len]; omega)]
  simp only [hrow]
  rw [hm_get _ _ _ _ _ _ (by omega), if_neg (by omega), if_neg (by omega)]
theorem set_low {G L : Heap} {β n id : Nat} {O : List AV} {R : Nat → Option Blk} (hG : β + n < G.length) (hid : id < β) (b : Option Blk) : (hap (hm G β n O R) L).set id b = hap (hm (G.set id b) β n O R) L := by
  rw [set_app _ _ _ _ (by rw [hm_len]; omega)]
  congr 1
  apply List.ext_getElem?
  intro j
  rcases Nat.lt_or_ge j G.length with hj | hj
  · rw [List.getElem?_set, hm_get _ _ _ _ _ _ hj, hm_get _ _ _ _ _ _ (by rw [List.length_set]; exact hj), hm_len, List.getElem?_set]
    by_cases h : id = j
    · subst h
      rw [if_pos rfl, if_pos (by omega), if_neg (by omega), if_neg (by omega), if_pos rfl]
    · rw [if_neg h, if_neg h]
  · rw [List.getElem?_eq_none (by rw [List.length_set, hm_len]; exact hj), List.getElem?_eq_none (by rw [hm_len, List.length_set]; exact hj)]
theorem st_low {G L : Heap} {β n w c id m : Nat} {oc : Option Nat} {π : Nat → Nat} {S : Nat → Nat → AV} (hG : β + n < G.length) (hid : id < β) {x v : AV} (h : G[id]? = some (some ⟨m, [x]⟩)) (hf : v.fit = true) (hv : v.cells.length = m) (env : Env) :
    storeV m (.loc id 0 0) v env (hap (hM G β n w c oc π S) L) = some (.top, env, hap (hM (G.set id (some ⟨m, [v]⟩)) β n w c oc π S) L) := by
  have hr : hrow (hap (hM G β n w c oc π S) L) id = some ⟨m, [x]⟩ := by unfold hM; rw [hrow_low hG hid]; simp [hrow, h]
  simp only [storeV, hr, Option.bind_some]
  rw [if_pos ⟨by simp, hf, hv, by omega⟩, upd_whole, List.set_cons_zero]
  unfold hM
  rw [set_low hG hid]
theorem at_low {G L : Heap} {β n w c id m : Nat} {oc : Option Nat} {π : Nat → Nat} {S : Nat → Nat → AV} (hG : β + n < G.length) (hid : id < β) {x : AV} (h : G[id]? = some (some ⟨m, [x]⟩)) : atV (hap (hM G β n w c oc π S) L) (.loc id 0 0) = some x.cells := by
  have hr : hrow (hap (hM G β n w c oc π S) L) id = some ⟨m, [x]⟩ := by unfold hM; rw [hrow_low hG hid]; simp [hrow, h]
  rw [atV_loc, hr]; rfl
theorem hM_hap {H L : Heap} {β n w c : Nat} {oc : Option Nat} {π : Nat → Nat} {S : Nat → Nat → AV} (hβ : H.length ≤ β) (hG : β + n < (hap H L).length) : ∃ L', hM (hap H L) β n w c oc π S = hap H L' := by
  refine ⟨(hM (hap H L) β n w c oc π S).drop H.length, ?_⟩
  have ht : (hM (hap H L) β n w c oc π S).take H.length = H := by
    apply List.ext_getElem?
    intro j
    rw [List.getElem?_take]
    split
    · rename_i hj
      unfold hM
      have hl : (hap H L).length = H.length + L.length := by simp [hap]
      rw [hm_get _ _ _ _ _ _ (by omega), if_neg (by omega), if_neg (by omega)]
      simp only [hap]
      rw [List.getElem?_append_left hj]
    · rename_i hj
      rw [List.getElem?_eq_none (by omega)]
  exact (List.take_append_drop H.length _).symm.trans (by rw [ht]; rfl)
end Go.Abs

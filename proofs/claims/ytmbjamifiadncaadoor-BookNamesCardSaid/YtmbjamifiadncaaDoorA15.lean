/- A value told as one that tells less. -/
import Derived.Test.YtmbjamifiadncaaDoorA14
set_option linter.unusedVariables false
set_option linter.unusedSimpArgs false
set_option linter.defProp false
namespace Go.Abs

/-- Whatever is the one is the other. -/
def Le (a b : AV) : Prop := ∀ E v, Rep E v a → Rep E v b
theorem Le.refl (a : AV) : Le a a := fun _ _ h => h
theorem Le.trans {a b c : AV} (h : Le a b) (k : Le b c) : Le a c := fun E v r => k E v (h E v r)
theorem Le.nil (wd : Nat) (h : 0 < wd) : Le .nil (.sl wd []) := fun E v r => rep_nil_sl wd h r
theorem Le.top (a : AV) : Le a .top := fun E v r => .top v

theorem Le.agg {as bs : List AV} (hl : as.length = bs.length) (h : ∀ (k : Nat) a b, as[k]? = some a → bs[k]? = some b → Le a b) : Le (.agg as) (.agg bs) := by
  intro E v r
  cases r with
  | agg vs _ hlen h1 hrep =>
    refine .agg vs bs (by omega) h1 fun k v b hv hb => ?_
    have hk := lt_of_live' hb
    exact h k _ b (List.getElem?_eq_getElem (by omega)) hb E v (hrep k v _ hv (List.getElem?_eq_getElem (by omega)))
  | dead v a id hr hd h1 => simp [AV.ref] at hr
theorem Le.tup {as bs : List AV} (hl : as.length = bs.length) (h : ∀ (k : Nat) a b, as[k]? = some a → bs[k]? = some b → Le a b) : Le (.tup as) (.tup bs) := by
  intro E v r
  cases r with
  | tup vs _ hlen hrep =>
    refine .tup vs bs (by omega) fun k v b hv hb => ?_
    have hk := lt_of_live' hb
    exact h k _ b (List.getElem?_eq_getElem (by omega)) hb E v (hrep k v _ hv (List.getElem?_eq_getElem (by omega)))
  | dead v a id hr hd h1 => simp [AV.ref] at hr
theorem Le.agg2 {a b c d : AV} (h : Le a c) (k : Le b d) : Le (.agg [a, b]) (.agg [c, d]) := Le.agg rfl fun i x y hx hy => by
  match i with
  | 0 => cases hx; cases hy; exact h
  | 1 => cases hx; cases hy; exact k
theorem Le.tup2 {a b c d : AV} (h : Le a c) (k : Le b d) : Le (.tup [a, b]) (.tup [c, d]) := Le.tup rfl fun i x y hx hy => by
  match i with
  | 0 => cases hx; cases hy; exact h
  | 1 => cases hx; cases hy; exact k
theorem Le.tup3 {a b e c d f : AV} (h : Le a c) (k : Le b d) (l : Le e f) : Le (.tup [a, b, e]) (.tup [c, d, f]) := Le.tup rfl fun i x y hx hy => by
  match i with
  | 0 => cases hx; cases hy; exact h
  | 1 => cases hx; cases hy; exact k
  | 2 => cases hx; cases hy; exact l

theorem ACalls.cutL {P : Program} {f : FuncId} {args : List AV} {H : Heap} {r : AV} (hr : Ref (· < H.length) r) (h : ACalls P f args H fun r' H' => Le r' r ∧ ∃ L, H' = hap H L) : ACalls P f args H fun r' H' => r' = r ∧ H' = H := by
  refine ⟨h.1, fun φ w vs hok hl hrep => (h.2 φ w vs hok hl hrep).mono ?_⟩
  rintro e w' ⟨v, r', φ', H', rfl, ⟨hle, L, rfl⟩, q1, q2, q3, q4⟩
  have hfree : ∀ (j : Nat) bj, j < H.length → (hap H L)[j]? = some (some bj) → ∀ a ∈ bj.flat, Ref (· < H.length) a := by
    intro j bj hj hb
    simp only [hap] at hb
    rw [List.getElem?_append_left hj] at hb
    exact hok.refs hb
  have hcut := HOk.cut q1 H.length hfree
  have ht : (hap H L).take H.length = H := by simp [hap]
  simp only [ht] at hcut
  exact ⟨v, r, φ', H, rfl, ⟨rfl, rfl⟩, hcut.1, (hle _ _ q2).mono hcut.2 hr, Nat.le_refl _, q4.trans hcut.2⟩

theorem PureC.introL {P : Program} {mu : Nat → Nat → Bool} {f : FuncId} {fn : Func} (hf : P.funcs[f]? = some fn) {ac : ACode} {rs : List ResV} {nt : Nat} (hc : fchk P mu fn = some (ac, rs, nt))
    {args : List AV} {r : AV} (ha : args.length ≤ nt) (hr : Cl r) (h : ∀ H, HRefs H → Safe ⟨P, mu, f, nt, rs, H.length⟩ [.code ac] (envOf 0 args) (hap H []) fun r' H' => Le r' r ∧ ∃ L, H' = hap H L) : PureC P f args r := by
  intro H
  refine ACalls.cutL hr.ref (ACalls.intro hf hc ha fun hH => ?_)
  have := h H hH
  rw [hap_nil] at this
  exact this

/-- A row's elements told as others that tell less. -/
theorem Safe.toldRow (i : Nat) {x : Cx} {todo : List AItem} {env : Env} {H L : Heap} {R : AV → Heap → Prop} {b b' : Blk} (hl : L[i]? = some (some b)) (hw : b'.wd = b.wd) (hx : ∀ y ∈ b'.xs, y.cells.length = b.wd) (hlen : b'.flat.length = b.flat.length) (hemp : b.xs = [] → b'.xs = [])
    (hle : ∀ (k : Nat) a c, b.flat[k]? = some a → b'.flat[k]? = some c → Le a c) (h : Safe x todo env (hap H (L.set i (some b'))) R) : Safe x todo env (hap H L) R := by
  intro φ w tmps bf k cs hg hn hb hk htd hsz hok he
  have hl' : (hap H L)[lid H i]? = some (some b) := by
    unfold hap lid
    rw [List.getElem?_append_right (by omega), Nat.add_sub_cancel_left]; exact hl
  have hget : ∀ (j : Nat), (hap H (L.set i (some b')))[j]? = if lid H i = j then some (some b') else (hap H L)[j]? := by
    intro j
    rw [← set_hap]
    exact set_get _ _ _ (lt_of_live hl') j
  have hx2 : ∀ w : World, Ext All ⟨φ, hap H L, w⟩ ⟨φ, hap H (L.set i (some b')), w⟩ := by
    intro w
    refine ⟨rfl, rfl, rfl, Nat.le_refl _, by simp [hap], fun _ _ _ => rfl, ?_, fun _ _ _ _ _ _ _ => rfl, ?_, fun _ _ _ => rfl⟩
    · intro j blk' _ _ hb'
      rw [hget] at hb'
      split at hb'
      · rename_i hj; subst hj; simp at hb'; subst hb'; exact ⟨b, hl', hw.symm⟩
      · exact ⟨blk', hb', rfl⟩
    · rintro b0 _ ⟨j, blk', hb', hp⟩
      simp only [hget] at hb'
      split at hb'
      · rename_i hj; subst hj; exact ⟨_, b, hl', hp⟩
      · exact ⟨j, blk', hb', hp⟩
  have live : ∀ (j : Nat) blk', (hap H (L.set i (some b')))[j]? = some (some blk') → (j = lid H i ∧ blk' = b') ∨ (j ≠ lid H i ∧ (hap H L)[j]? = some (some blk')) := by
    intro j blk' hb'
    rw [hget] at hb'
    split at hb'
    · rename_i hj; simp at hb'; exact .inl ⟨hj.symm, hb'.symm⟩
    · rename_i hj; exact .inr ⟨fun e => hj e.symm, hb'⟩
  have hok' : HOk ⟨φ, hap H (L.set i (some b')), w⟩ := by
    refine ⟨fun j x h => ?_, fun j x h => ?_, fun j x bl h hp => ?_, fun j x h hp => ?_, fun j1 j2 x y bl h1 h2 p1 p2 => ?_⟩
    · rcases live j x h with ⟨rfl, rfl⟩ | ⟨_, h'⟩
      · rw [hw]; exact hok.wpos _ b hl'
      · exact hok.wpos j x h'
    · rcases live j x h with ⟨rfl, rfl⟩ | ⟨_, h'⟩
      · rw [hw]; exact hx
      · exact hok.wids j x h'
    · have mv : ∀ {v a}, Rep ⟨φ, hap H L, w⟩ v a → Rep ⟨φ, hap H (L.set i (some b')), w⟩ v a := fun r => r.mono (hx2 w) (r.ref.mono fun _ _ => trivial)
      rcases live j x h with ⟨rfl, rfl⟩ | ⟨_, h'⟩
      · obtain ⟨c, e, r⟩ := hok.row _ b bl hl' hp
        refine ⟨c, e, r.heap, by rw [hlen]; exact r.fits, fun k v hk hv => r.one k v (by rw [← hlen]; exact hk) hv, fun k v a hv ha => ?_⟩
        have hk := lt_of_live' ha
        have ha' : b.flat[k]? = some (b.flat[k]'(by omega)) := List.getElem?_eq_getElem (by omega)
        exact mv (hle k _ a ha' ha _ _ (r.rep k v _ hv ha'))
      · obtain ⟨c, e, r⟩ := hok.row j x bl h' hp
        exact ⟨c, e, r.heap, r.fits, r.one, fun k v a hv ha => mv (r.rep k v a hv ha)⟩
    · rcases live j x h with ⟨rfl, rfl⟩ | ⟨_, h'⟩
      · exact hemp (hok.emp _ b hl' hp)
      · exact hok.emp j x h' hp
    · have g1 : ∃ z, (hap H L)[j1]? = some (some z) := by rcases live j1 x h1 with ⟨rfl, _⟩ | ⟨_, h'⟩; exact ⟨b, hl'⟩; exact ⟨x, h'⟩
      have g2 : ∃ z, (hap H L)[j2]? = some (some z) := by rcases live j2 y h2 with ⟨rfl, _⟩ | ⟨_, h'⟩; exact ⟨b, hl'⟩; exact ⟨y, h'⟩
      obtain ⟨_, g1⟩ := g1
      obtain ⟨_, g2⟩ := g2
      exact hok.inj j1 j2 _ _ bl g1 g2 p1 p2
  obtain ⟨v, w', fr, r, φ', H', q1, q2, q3, q4, q5, q6⟩ := h φ w tmps bf k cs hg (by simpa [hap] using hn) hb hk htd hsz hok' (fun t => (he t).mono (hx2 w) ((he t).ref.mono fun _ _ => trivial))
  exact ⟨v, w', fr, r, φ', H', q1, q2, q3, q4, ((hx2 w).sub fun _ _ => trivial).trans q5, q6⟩

/-! ### More of the evaluator -/
theorem st_zero (n i off : Nat) (v : AV) (env : Env) (H L : Heap) : storeV n (.loc (lid H i) 0 off) v env (hap H L) = (L[i]?).join.bind fun b =>
    if 0 < b.xs.length ∧ v.fit = true ∧ v.cells.length = n ∧ off + n ≤ b.wd then some (.top, env, hap H (L.set i (some ⟨b.wd, b.xs.set 0 (upd (b.xs.getD 0 .top) b.wd off n v)⟩))) else none := by
  simp only [storeV, hrow_hap, set_hap]
theorem bldV_nil (env : Env) (cs : List AV) : bldV env cs [] = some cs := rfl
theorem bldV_cons (env : Env) (cs : List AV) (off n : Nat) (s : Src) (r : List (Nat × Nat × Src)) :
    bldV env cs ((off, n, s) :: r) = if (s.ev env).cells.length = n ∧ off + n ≤ cs.length ∧ (s.ev env).fit = true then bldV env (splice cs off (s.ev env).cells) r else none := rfl
theorem splice_eq (cs : List AV) (off : Nat) (as : List AV) : splice cs off as = cs.take off ++ as ++ cs.drop (off + as.length) := rfl
def EV2 := And.intro (And.intro @st_zero (And.intro @bldV_nil (And.intro @bldV_cons @splice_eq))) (And.intro (And.intro (And.intro (@List.drop_succ_cons.{0}) (@List.take_succ_cons.{0})) (And.intro (@List.take_zero.{0}) (@List.take_nil.{0}))) (And.intro (And.intro (@List.drop_nil.{0}) (@List.append_nil.{0})) (And.intro (@Nat.le_refl) (@Nat.lt_irrefl))))

end Go.Abs

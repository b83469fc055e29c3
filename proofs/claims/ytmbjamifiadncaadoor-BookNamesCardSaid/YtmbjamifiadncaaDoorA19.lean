/- Functions that write into what is handed in. -/
import Derived.Test.YtmbjamifiadncaaDoorA17
set_option linter.unusedVariables false
set_option linter.unusedSimpArgs false
namespace Go.Abs

theorem HRefs.set {H : Heap} (h : HRefs H) (id : Nat) {b : Blk} (hb : ∀ a ∈ b.flat, Ref (· < H.length) a) : HRefs (H.set id (some b)) := by
  intro j bj hj a ha
  rw [List.length_set]
  rw [List.getElem?_set] at hj
  split at hj
  · split at hj
    · cases hj; exact hb a ha
    · cases hj
  · exact h j bj hj a ha

/-- A function's rows of its own are forgotten; what it wrote below stays. -/
theorem ACalls.eff {P : Program} {mu : Nat → Nat → Bool} {f : FuncId} {fn : Func} (hf : P.funcs[f]? = some fn) {ac : ACode} {rs : List ResV} {nt : Nat} (hc : fchk P mu fn = some (ac, rs, nt))
    {args : List AV} {H : Heap} {R : AV → Heap → Prop} (ha : args.length ≤ nt)
    (h : HRefs H → Safe ⟨P, mu, f, nt, rs, H.length⟩ [.code ac] (envOf 0 args) (hap H []) fun r' H' => ∃ H1 L, H' = hap H1 L ∧ H1.length = H.length ∧ HRefs H1 ∧ Ref (· < H.length) r' ∧ R r' H1) : ACalls P f args H R := by
  have h0 : ACalls P f args H fun r' H' => ∃ H1 L, H' = hap H1 L ∧ H1.length = H.length ∧ HRefs H1 ∧ Ref (· < H.length) r' ∧ R r' H1 := ACalls.intro hf hc ha fun hH => by
    have := h hH
    rw [hap_nil] at this
    exact this
  refine ⟨h0.1, fun φ w vs hok hl hrep => (h0.2 φ w vs hok hl hrep).mono ?_⟩
  rintro e w' ⟨v, r', φ', H', rfl, ⟨H1, L, rfl, hlen, hrefs, hcl, hR⟩, q1, q2, q3, q4⟩
  have hfree : ∀ (j : Nat) bj, j < H.length → (hap H1 L)[j]? = some (some bj) → ∀ a ∈ bj.flat, Ref (· < H.length) a := by
    intro j bj hj hb
    simp only [hap] at hb
    rw [List.getElem?_append_left (by omega)] at hb
    have := hrefs j bj hb
    rwa [hlen] at this
  have hcut := HOk.cut q1 H.length hfree
  have ht : (hap H1 L).take H.length = H1 := by simp [hap, ← hlen]
  simp only [ht] at hcut
  exact ⟨v, r', φ', H1, rfl, hR, hcut.1, q2.mono hcut.2 hcl, by omega, q4.trans hcut.2⟩

section
variable {H L : Heap} {id : Nat} (hid : id < H.length)
include hid
theorem old_row (b : Blk) : hrow (hap (H.set id (some b)) L) id = some b := by
  rw [hrow_old _ _ _ (by simpa using hid)]
  simp [hrow, hid]
theorem old_set (b : Option Blk) (b' : Option Blk) : (hap (H.set id b) L).set id b' = hap (H.set id b') L := by
  unfold hap
  rw [List.set_append_left _ _ (by simpa using hid), List.set_set]
theorem old_len (b : Blk) (off len : Nat) (oc : Option Nat) : lenV (hap (H.set id (some b)) L) (.mu id off len oc) = some (.int .i64 len) := by
  rw [lenV_mu, old_row hid]; rfl
theorem old_idx (wd : Nat) (X : List AV) (off len j : Nat) (oc : Option Nat) (k : IntKind) (h : j < len) : idxV (hap (H.set id (some ⟨wd, X⟩)) L) wd (.mu id off len oc) (.int k j) = some (.loc id (off + j) 0) := by
  rw [idxV_mu _ _ _ _ _ _ _ _ (by omega) (by omega), old_row hid]
  simp
theorem old_at (b : Blk) (j : Nat) (h : j < b.xs.length) : atV (hap (H.set id (some b)) L) (.loc id j 0) = some (b.xs.getD j .top).cells := by
  rw [atV_loc, old_row hid]; simp [h]
theorem old_st (env : Env) (b : Blk) (n j : Nat) (v : AV) (h : j < b.xs.length) (hf : v.fit = true) (hn : v.cells.length = n) (ho : n ≤ b.wd) :
    storeV n (.loc id j 0) v env (hap (H.set id (some b)) L) = some (.top, env, hap (H.set id (some ⟨b.wd, b.xs.set j (upd (b.xs.getD j .top) b.wd 0 n v)⟩)) L) := by
  simp only [storeV, old_row hid, Option.bind_some, old_set hid]
  rw [if_pos ⟨h, hf, hn, by omega⟩]
end
theorem set_self {H : Heap} {id : Nat} {b : Option Blk} (h : H[id]? = some b) : H.set id b = H := by
  apply List.ext_getElem?
  intro j
  rw [List.getElem?_set]
  split
  · rename_i e; subst e
    have := (List.getElem?_eq_some_iff.1 h).1
    rw [if_pos this, h]
  · rfl
end Go.Abs

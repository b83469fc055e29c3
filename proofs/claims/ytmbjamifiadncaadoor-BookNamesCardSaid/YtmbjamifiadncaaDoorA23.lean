/- What a function hands out told as a value, row by row. -/
import Derived.Test.YtmbjamifiadncaaDoorA22
set_option linter.unusedVariables false
set_option linter.unusedSimpArgs false
namespace Go.Abs

theorem HOk.hrefs {φ : Nat → Option Nat} {H : Heap} {w : World} (h : HOk ⟨φ, H, w⟩) : HRefs H := fun id b hb a ha => h.refs (E := ⟨φ, H, w⟩) hb a ha
/-- A row of what is handed out is no longer written. -/
theorem ACalls.frz {P : Program} {f : FuncId} {args : List AV} {H : Heap} {R R2 : AV → Heap → Prop} (h : ACalls P f args H R)
    (hR : HRefs H → ∀ r H', R r H' → ∃ id b, H'[id]? = some (some b) ∧ (∀ c ∈ b.flat, Cl c) ∧ R2 (Abs.frz id b r) (frzH id b H')) : ACalls P f args H R2 := by
  refine ⟨h.1, fun φ w vs hok hl hrep => (h.2 φ w vs hok hl hrep).mono ?_⟩
  rintro e w' ⟨v, r, φ', H', rfl, hr, q1, q2, q3, q4⟩
  obtain ⟨id, b, h1, h2, h3⟩ := hR hok.hrefs r H' hr
  exact ⟨v, _, φ', _, rfl, h3, frz_ok q1 h1 h2, frz_rep q1 h1 h2 q2, by simpa [frzH] using q3, q4.trans ((frz_ext (E := ⟨φ', H', w'⟩)).sub fun _ _ => trivial)⟩
theorem frz_refP {P : Nat → Prop} {id : Nat} {b : Blk} {a : AV} (h : Ref P a) : Ref P (frz id b a) := by
  induction h with
  | top => simp only [frz]; exact .top
  | int k n => simp only [frz]; exact .int k n
  | bool b' => simp only [frz]; exact .bool b'
  | str s => simp only [frz]; exact .str s
  | nil => simp only [frz]; exact .nil
  | lit v => simp only [frz]; exact .lit v
  | sl wd xs => simp only [frz]; exact .sl wd xs
  | ro x off => simp only [frz]; exact .ro x off
  | mu i off len oc h =>
    simp only [frz]; split
    · split
      · exact .sl _ _
      · exact .top
    · exact .mu i off len oc h
  | loc i k off h =>
    simp only [frz]; split
    · split
      · exact .ro _ _
      · exact .top
    · exact .loc i k off h
  | agg cs h ih => simp only [frz]; exact .agg _ fun c hc => by obtain ⟨d, hd, rfl⟩ := List.mem_map.1 hc; exact ih d hd
  | tup cs h ih => simp only [frz]; exact .tup _ fun c hc => by obtain ⟨d, hd, rfl⟩ := List.mem_map.1 hc; exact ih d hd
  | fn f cs h ih => simp only [frz]; exact .fn f _ fun c hc => by obtain ⟨d, hd, rfl⟩ := List.mem_map.1 hc; exact ih d hd
  | bfn f cs h ih => simp only [frz]; exact .bfn f _ fun c hc => by obtain ⟨d, hd, rfl⟩ := List.mem_map.1 hc; exact ih d hd
theorem hrefs_frz {H : Heap} (h : HRefs H) (id : Nat) (b : Blk) : HRefs (frzH id b H) := by
  intro j x hx a ha
  obtain ⟨_, y, hy, rfl⟩ := frzH_live hx
  rw [frzB_flat] at ha
  obtain ⟨c, hc, rfl⟩ := List.mem_map.1 ha
  have := frz_refP (id := id) (b := b) (h j y hy c hc)
  simpa [frzH] using this
theorem frzH_hm {G : Heap} {β n m : Nat} {O : List AV} {R : Nat → Option Blk} (hG : β + n < G.length) (hm' : m < n) (b : Blk) : frzH (β + 1 + m) b (hm G β n O R) = hm (frzH (β + 1 + m) b G) β n (O.map (frz (β + 1 + m) b)) (fun t => if t = m then none else (R t).map (frzB (β + 1 + m) b)) := by
  apply List.ext_getElem?
  intro j
  have hl : (frzH (β + 1 + m) b G).length = G.length := by simp [frzH]
  rcases Nat.lt_or_ge j G.length with hj | hj
  · rw [frzH_get, hm_get G _ _ _ _ j hj, hm_get (frzH (β + 1 + m) b G) _ _ _ _ j (by omega), hm_len, frzH_get]
    by_cases h1 : j = β
    · rw [if_neg (by omega), if_pos h1, if_pos h1]; rfl
    · rw [if_neg h1, if_neg h1]
      by_cases h2 : β < j ∧ j ≤ β + n
      · rw [if_pos h2, if_pos h2]
        by_cases h3 : j = β + 1 + m
        · rw [if_pos h3, if_pos (by omega), if_pos (by omega)]
        · rw [if_neg h3, if_neg (by omega)]; rfl
      · rw [if_neg h2, if_neg h2, if_neg (by omega)]
  · rw [List.getElem?_eq_none (by simp [frzH, hm_len]; exact hj), List.getElem?_eq_none (by rw [hm_len, hl]; exact hj)]
end Go.Abs

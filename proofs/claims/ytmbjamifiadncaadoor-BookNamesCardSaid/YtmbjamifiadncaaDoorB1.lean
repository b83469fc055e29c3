/- The functions that the framework does not cover: a book without anything; the place of a byte. -/
import Derived.Test.YtmbjamifiadncaaDoorCode
import Derived.Test.YtmbjamifiadncaaDoorA18
import Derived.Test.YtmbjamifiadncaaDoorA23
import Derived.Test.YtmbjamifiadncaaDoorShelf
import Derived.WalkKit
import Derived.RowKit
namespace Go.Abs
open Go.Proofs Go.RowKit

theorem new_raw (w : World) : Calls Pr F_book_New #[] w fun e w' => e = .returned (.pointer (some ⟨w.heap.size + 1, 0, none⟩)) ∧ w' = (w.alloc (.map #[] 0)).alloc (.cells #[.map (some w.heap.size)] 38) := by
  have hmm : ∀ w : World, (Instr.makeMap 36 none).run Pr w = .ok (.map (some w.heap.size)) (w.alloc (.map #[] 0)) := fun w => by first | rfl | (simp [Instr.makeMap, newObj]; rfl) | simp [Instr.makeMap, newObj, go_sem]
  go_enter Tryd.func5, Tryd.ntmps5
  go_wp2
  go_ret
  exact ⟨rfl, rfl⟩
theorem new_calls (H : Heap) : ACalls Pr F_book_New [] H fun r' H' => r' = .loc H.length 0 0 ∧ H' = H ++ [some ⟨1, [.top]⟩] := by
  refine ⟨⟨_, Tryd.func5, by decide +kernel, by kernel_rfl⟩, fun φ w vs hok hl _ => ?_⟩
  have hvs : vs = [] := List.length_eq_zero_iff.1 (by simpa using hl)
  subst hvs
  refine (new_raw w).mono ?_
  rintro e w' ⟨rfl, rfl⟩
  have k1 : ∀ b, b < w.heap.size → (w.alloc (.map #[] 0)).heap[b]? = w.heap[b]? := alloc_keep w _
  have hs1 : (w.alloc (.map #[] 0)).heap.size = w.heap.size + 1 := by simp
  have ok1 : HOk ⟨φ, H, w.alloc (.map #[] 0)⟩ := HOk.of_heap (E := ⟨φ, H, w⟩) rfl rfl rfl (by simp) (fun b hb => k1 b hb) hok
  have x1 : Ext (· < H.length) ⟨φ, H, w⟩ ⟨φ, H, w.alloc (.map #[] 0)⟩ := Ext.of_heap (E := ⟨φ, H, w⟩) rfl rfl rfl (by simp) (fun b hb => k1 b hb) hok
  obtain ⟨φ', h1, h2, h3, h4, h5⟩ := new_row (env := []) (tmps := #[]) (n0 := H.length) (E := ⟨φ, H, w.alloc (.map #[] 0)⟩) (Nat.le_refl _) ok1 (fun t => .top _) (w := (w.alloc (.map #[] 0)).alloc (.cells #[.map (some w.heap.size)] 38)) rfl rfl rfl (by simp) (alloc_keep _ _) (w.alloc (.map #[] 0)).heap.size (Nat.le_refl _) ⟨1, [.top]⟩ (by decide)
    (by simp [AV.cells]) (c := #[.map (some w.heap.size)]) (e := 38) (heap_alloc_new _ _) (by simp [Blk.flat, AV.cells])
    (fun k v b hv hb => by
      match k with
      | 0 =>
        simp [Blk.flat, AV.cells] at hv hb
        subst hv; subst hb
        exact ⟨rfl, .top _⟩
      | k + 1 => simp [Blk.flat, AV.cells] at hb)
  refine ⟨_, _, φ', _, rfl, ⟨rfl, rfl⟩, h1, ?_, by simp, x1.trans h3⟩
  have := Rep.loc (E := ⟨φ', H ++ [some ⟨1, [.top]⟩], (w.alloc (.map #[] 0)).alloc (.cells #[.map (some w.heap.size)] 38)⟩) ⟨1, [.top]⟩ H.length 0 0 (w.alloc (.map #[] 0)).heap.size h5 h4
  rw [hs1] at this
  simpa using this
end Go.Abs

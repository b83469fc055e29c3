/- Numbers as values of the walks. -/
import Derived.Test.YtofbhhncpjegfaaA15
import Derived.Test.YtofbhhncpjegfaaM1
set_option linter.unusedVariables false
set_option linter.unusedSimpArgs false
set_option linter.defProp false
namespace Go.Abs

def u32s (l : List Nat) : List AV := l.map fun n : Nat => .int .u32 (n : Int)
def natV (l : List Nat) : AV := .sl 1 (u32s l)

theorem u32s_len (l : List Nat) : (u32s l).length = l.length := by simp [u32s]
theorem u32s_append (a b : List Nat) : u32s (a ++ b) = u32s a ++ u32s b := by simp [u32s]
theorem u32s_nil : u32s [] = [] := rfl
theorem u32s_cons (d : Nat) (l : List Nat) : u32s (d :: l) = .int .u32 (d : Int) :: u32s l := rfl
theorem u32s_take (l : List Nat) (n : Nat) : (u32s l).take n = u32s (l.take n) := by simp [u32s, List.map_take]
theorem u32s_drop (l : List Nat) (n : Nat) : (u32s l).drop n = u32s (l.drop n) := by simp [u32s, List.map_drop]
theorem u32s_set (l : List Nat) (i d : Nat) : (u32s l).set i (.int .u32 (d : Int)) = u32s (l.set i d) := by simp [u32s, List.map_set]
theorem u32s_getD {l : List Nat} {i : Nat} (h : i < l.length) : (u32s l).getD i .top = .int .u32 (l.getD i 0 : Nat) := by
  simp [u32s, h]
theorem u32s_flat (l : List Nat) : (u32s l).flatMap AV.cells = u32s l := by
  induction l with
  | nil => rfl
  | cons d l ih => rw [u32s_cons, List.flatMap_cons, ih]; rfl
theorem u32s_rep (n : Nat) : List.replicate n (AV.int .u32 0) = u32s (List.replicate n 0) := by simp [u32s]
theorem u32s_cl {l : List Nat} {a : AV} (h : a ∈ u32s l) : Cl a := by
  obtain ⟨n, _, rfl⟩ := List.mem_map.1 h; exact .int _ _
theorem u32s_clf {l : List Nat} {a : AV} (h : a ∈ (u32s l).flatMap AV.cells) : Cl a := by rw [u32s_flat] at h; exact u32s_cl h
theorem blk_u32 (l : List Nat) : ∀ a ∈ (Blk.mk 1 (u32s l)).flat, Cl a := fun a h => u32s_clf h

theorem natV_cl (l : List Nat) : Cl (natV l) := .sl 1 _ fun c h => u32s_clf h
theorem natV_cells (l : List Nat) : (natV l).cells = [natV l] := rfl
theorem natV_fit (l : List Nat) : (natV l).fit = true := rfl
theorem natV_nref (id : Nat) (l : List Nat) : nref id (natV l) = true := nref_cl (natV_cl l)
theorem natV_clb (l : List Nat) : clb (natV l) = true := clb_cl (natV_cl l)
theorem natV_frz (id : Nat) (b : Blk) (l : List Nat) : frz id b (natV l) = natV l := frz_cl (natV_cl l)
theorem natV_frz' (id : Nat) (b : Blk) (l : List Nat) : (u32s l).map (frz id b) = u32s l := by
  rw [List.map_congr_left (g := fun x => x) fun a h => frz_cl (u32s_cl h)]; simp
theorem natV_len (H : Heap) (l : List Nat) : lenV H (natV l) = some (.int .i64 l.length) := by simp [natV, lenV_sl, u32s_len]
theorem natV_src (H : Heap) (l : List Nat) : srcEls H 1 false (natV l) = some (u32s l) := srcEls_sl H 1 _
theorem natV_idx (H : Heap) (l : List Nat) (k : IntKind) (i : Nat) (h : i < l.length) : idxV H 1 (natV l) (.int k i) = some (.ro (.int .u32 (l.getD i 0 : Nat)) 0) := by
  rw [natV, idxV_sl _ _ _ _ _ (by omega) (by rw [u32s_len]; omega)]
  rw [Int.toNat_natCast, u32s_getD h]
theorem natV_slc (H : Heap) (l : List Nat) (k : IntKind) (n : Nat) (h : n ≤ l.length) : slcV H 1 (natV l) none (some (.int k n)) none = some (natV (l.take n)) := by
  simp only [natV, slcV, boundV, Option.bind_some, u32s_len]
  rw [if_pos ⟨trivial, by omega, by omega, by omega⟩]
  simp [u32s_take]

theorem mu_len (H L : Heap) (i off len : Nat) (oc : Option Nat) {b : Blk} (h : L[i]? = some (some b)) : lenV (hap H L) (.mu (lid H i) off len oc) = some (.int .i64 len) := by
  rw [lenV_mu, hrow_hap, h]; simp
theorem mu_idx (H L : Heap) (wd i off len : Nat) (oc : Option Nat) (k : IntKind) (j : Nat) {b : Blk} (h : L[i]? = some (some b)) (hw : b.wd = wd) (hj : j < len) :
    idxV (hap H L) wd (.mu (lid H i) off len oc) (.int k j) = some (.loc (lid H i) (off + j) 0) := by
  rw [idxV_mu _ _ _ _ _ _ _ _ (by omega) (by omega), hrow_hap, h]; simp [hw]
theorem loc_load (H L : Heap) (i k : Nat) {b : Blk} (h : L[i]? = some (some b)) (hk : k < b.xs.length) : atV (hap H L) (.loc (lid H i) k 0) = some (b.xs.getD k .top).cells := by
  rw [atV_loc, hrow_hap, h]; simp [hk]

/-! ### Words -/
theorem wrap_u32 {n : Int} (h0 : 0 ≤ n) (h1 : n < 4294967296) : IntKind.wrap .u32 n = n := by
  simp [IntKind.wrap, IntKind.bits, IntKind.signed]; omega
theorem wrap_u64 {n : Int} (h0 : 0 ≤ n) (h1 : n < 18446744073709551616) : IntKind.wrap .u64 n = n := by
  simp [IntKind.wrap, IntKind.bits, IntKind.signed]; omega
theorem wrap_i64 {n : Int} (h0 : -9223372036854775808 ≤ n) (h1 : n < 9223372036854775808) : IntKind.wrap .i64 n = n := by
  simp [IntKind.wrap, IntKind.bits, IntKind.signed]; omega
theorem wrap_u32_mod (n : Nat) : IntKind.wrap .u32 (n : Int) = ((n % LB : Nat) : Int) := by
  simp [IntKind.wrap, IntKind.bits, IntKind.signed]
theorem wrap_u64_mod (n : Int) : IntKind.wrap .u64 n = n % 18446744073709551616 := by
  simp [IntKind.wrap, IntKind.bits, IntKind.signed]

theorem app_nil_nat (n0 : Nat) (env : Env) (H L : Heap) (l : List Nat) (h : l.length ≤ 17592186044416) :
    appV n0 1 4 false .nil (natV l) env (hap H L) = some (.mu (lid H L.length) 0 l.length none, env, hap H (L ++ [some ⟨1, u32s l⟩])) := by
  have := appV_nil n0 env H L 1 4 false (natV l) (u32s l) (natV_src _ l) (by decide) (by rw [u32s_len]; omega) (by rw [u32s_len]; omega)
  rwa [u32s_len] at this
theorem app_own_nat (n0 : Nat) (env : Env) (H L : Heap) (i len : Nat) (oc : Option Nat) (y : AV) (xs l : List Nat) (hH : HRefs H) (hl : L[i]? = some (some ⟨1, u32s xs⟩)) (hlen : len = xs.length) (hn : n0 ≤ lid H i) (ha : Aside H L i)
    (hy : srcEls (hap H L) 1 false y = some (u32s l)) (hb : xs.length + l.length ≤ 35184372088832) (hoc : (oc.any fun c => decide (len + l.length ≤ c)) = false := by rfl) :
    appV n0 1 4 false (.mu (lid H i) 0 len oc) y env (hap H L) = some (.mu (lid H i) 0 (len + l.length) (capAfter oc (len + l.length)), scrub (lid H i) env, hap H (L.set i (some ⟨1, u32s (xs ++ l)⟩))) := by
  have := appV_own n0 env H L 1 4 false i len oc y (u32s xs) (u32s l) hH hl (by rw [u32s_len]; exact hlen) hn hy ha (fun a h => (u32s_clf h).ref) (by rw [u32s_len]; omega) (by rw [u32s_len]; omega) (by rw [u32s_len]; exact hoc)
  rwa [u32s_len, ← u32s_append] at this

theorem frz_mu_nat (H : Heap) (i : Nat) (l : List Nat) (oc : Option Nat) : frz (lid H i) ⟨1, u32s l⟩ (.mu (lid H i) 0 l.length oc) = natV l := by
  rw [frz_mu_same _ _ _ _ _ (by rw [u32s_len])]; rfl
/-- The rules for numbers. -/
def EN := And.intro @natV_len (And.intro @frz_mu_nat (And.intro @natV_frz' (And.intro @natV_nref (And.intro @natV_clb (And.intro @natV_cells (And.intro @natV_fit (And.intro @natV_frz (And.intro @natV_src @u32s_len))))))))

/-! One row of its own -/
theorem one_len (H : Heap) (X : Blk) (len : Nat) (oc : Option Nat) : lenV (hap H [some X]) (.mu (lid H 0) 0 len oc) = some (.int .i64 len) := mu_len H [some X] 0 0 len oc rfl
theorem one_idx (H : Heap) (X : List AV) (wd len : Nat) (oc : Option Nat) (k : IntKind) (j : Nat) (h : j < len) : idxV (hap H [some ⟨wd, X⟩]) wd (.mu (lid H 0) 0 len oc) (.int k j) = some (.loc (lid H 0) j 0) := by
  rw [mu_idx H [some ⟨wd, X⟩] wd 0 0 len oc k j rfl rfl h, Nat.zero_add]
theorem one_at (H : Heap) (x : List Nat) (j : Nat) (h : j < x.length) : atV (hap H [some ⟨1, u32s x⟩]) (.loc (lid H 0) j 0) = some [.int .u32 (x.getD j 0 : Nat)] := by
  rw [loc_load H [some ⟨1, u32s x⟩] 0 j rfl (by simpa [u32s_len] using h)]
  simp only [u32s_getD h, AV.cells]
theorem one_st (H : Heap) (env : Env) (x : List Nat) (j d : Nat) (h : j < x.length) : storeV 1 (.loc (lid H 0) j 0) (.int .u32 (d : Int)) env (hap H [some ⟨1, u32s x⟩]) = some (.top, env, hap H [some ⟨1, u32s (x.set j d)⟩]) := by
  rw [storeV_loc env H [some ⟨1, u32s x⟩] 1 0 j 0 _ rfl (by simpa [u32s_len] using h) rfl rfl (Nat.le_refl 1)]
  simp only [upd_whole, u32s_set, List.set_cons_zero]
theorem mksl_nat (env : Env) (H L : Heap) (k k' : IntKind) (n : Nat) (h : n ≤ 35184372088832) : mkslV 1 4 (.int .u32 0) (.int k n) (.int k' n) env (hap H L) = some (.mu (lid H L.length) 0 n (some n), env, hap H (L ++ [some ⟨1, u32s (List.replicate n 0)⟩])) := by
  rw [mkslV_int env H L 1 4 _ k k' n n (by decide) (Nat.le_refl _) (by omega) (by omega), u32s_rep]

theorem wrap_u32_emod (n : Int) : IntKind.wrap .u32 n = n % 4294967296 := by
  simp [IntKind.wrap, IntKind.bits, IntKind.signed]
theorem shr32 (t : Nat) : Int.fdiv (t : Int) (2 ^ min (Int.toNat 32) IntKind.u64.bits) = ((t / LB : Nat) : Int) := by
  rw [show (2 : Int) ^ min (Int.toNat 32) IntKind.u64.bits = (LB : Int) by decide, Int.fdiv_eq_ediv_of_nonneg _ (by decide)]; rfl

theorem one_app (H : Heap) (hH : HRefs H) (n0 : Nat) (hn : n0 ≤ lid H 0) (env : Env) (x : List Nat) (d : Nat) (hb : x.length < 35184372088832) :
    appV n0 1 4 false (.mu (lid H 0) 0 x.length none) (.sl 1 [.int .u32 (d : Int)]) env (hap H [some ⟨1, u32s x⟩]) = some (.mu (lid H 0) 0 (x.length + 1) none, scrub (lid H 0) env, hap H [some ⟨1, u32s (x ++ [d])⟩]) := by
  have := app_own_nat n0 env H [some ⟨1, u32s x⟩] 0 x.length none (.sl 1 [.int .u32 (d : Int)]) x [d] hH rfl rfl hn (aside_cl fun b hb a ha => by
    simp at hb; subst hb; exact blk_u32 x a ha) (srcEls_sl _ 1 _) (by simp; omega)
  simpa [capAfter] using this

theorem rem_lb (t : Nat) : binV .rem (.int .u64 (t : Int)) (.int .u64 4294967296) = some (.int .u64 ((t % LB : Nat) : Int)) := by
  rw [binV_rem _ _ _ (by decide), Int.tmod_eq_emod_of_nonneg (by omega)]; rfl
theorem quo_lb (t : Nat) (h : t < 18446744073709551616) : binV .quo (.int .u64 (t : Int)) (.int .u64 4294967296) = some (.int .u64 ((t / LB : Nat) : Int)) := by
  have hLB : LB = 4294967296 := rfl
  rw [binV_quo _ _ _ (by decide), Int.tdiv_eq_ediv_of_nonneg (by omega)]
  have : (t : Int) / 4294967296 = ((t / LB : Nat) : Int) := rfl
  rw [this, wrap_u64 (by omega) (by omega)]

def E1 := And.intro EV (And.intro EVC EN)

end Go.Abs

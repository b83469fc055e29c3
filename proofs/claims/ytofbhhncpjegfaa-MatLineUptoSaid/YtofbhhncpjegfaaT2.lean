/- The walks: strings.Join. -/
import Derived.Test.YtofbhhncpjegfaaT1
import Derived.Test.YtofbhhncpjegfaaW7
import Derived.Test.YtofbhhncpjegfaaA18
import Derived.Test.YtofbhhncpjegfaaShelf
set_option linter.unusedVariables false
set_option linter.unusedSimpArgs false
namespace Go.Abs
theorem flat_strs (xs : List (List UInt8)) : (xs.map strU).flatMap AV.cells = xs.map strU := by
  induction xs with
  | nil => rfl
  | cons x xs ih => rw [List.map_cons, List.flatMap_cons, ih]; rfl
theorem cell_lt {w : World} {b o : Nat} {v : Value} (h : w.cell? ⟨b, o, none⟩ = some v) : b < w.heap.size := by
  simp only [World.cell?] at h
  cases hb : w.heap[b]? with
  | none => simp [hb] at h
  | some o => exact (Array.getElem?_eq_some_iff.1 hb).1
theorem join_pure (xs : List (List UInt8)) (sep : List UInt8) (hN : xs.length ≤ 140737488355328) (hlen : (Lib.join xs sep).length ≤ 140737488355328) : PureC Pr F_strings_Join [.sl 1 (xs.map strU), strU sep] (strU (Lib.join xs sep)) := by
  refine PureC.ofBelow (fn := Go.Proofs.Try.f80) Go.Proofs.Try.func80 (by kernel_rfl) (by kernel_rfl) ?_
  intro E vs hok hl hrep
  match vs, hl with
  | [v0, v1], _ =>
  have h0 := hrep 0 v0 _ rfl rfl
  have h1 := rep_str_inv (hrep 1 v1 _ rfl rfl)
  subst h1
  have key : ∀ (base : Option Addr) (cap : Nat), xs.length ≤ cap → (xs = [] ∨ ∃ b o, base = some ⟨b, o, none⟩ ∧ ∀ (j : Nat) l, xs[j]? = some l → E.w.cell? ⟨b, o + j, none⟩ = some (.string ⟨l.toArray⟩)) →
      Calls Pr F_strings_Join [.slice base xs.length cap, .string ⟨sep.toArray⟩].toArray E.w fun e w' => (∃ v, e = .returned v ∧ ∀ E', Rep E' v (strU (Lib.join xs sep))) ∧ Go.RowKit.Below E.w.heap.size E.w w' := by
    intro base cap hcap hb
    rcases hb with rfl | ⟨b, o, rfl, hc⟩
    · refine (Go.Proofs.Try.strings_Join_none base cap ⟨sep.toArray⟩ E.w).mono ?_
      rintro e w' ⟨rfl, rfl⟩
      exact ⟨⟨_, rfl, fun _ => .str _⟩, Go.RowKit.Below.refl _ _⟩
    · by_cases hx : xs = []
      · subst hx
        refine (Go.Proofs.Try.strings_Join_none (some ⟨b, o, none⟩) cap ⟨sep.toArray⟩ E.w).mono ?_
        rintro e w' ⟨rfl, rfl⟩
        exact ⟨⟨_, rfl, fun _ => .str _⟩, Go.RowKit.Below.refl _ _⟩
      have hpos : 0 < xs.length := List.length_pos_iff.2 hx
      have hmm : (xs.map fun l => ByteArray.mk l.toArray).map (·.data.toList) = xs := by
        rw [List.map_map]
        conv => rhs; rw [← List.map_id xs]
        exact List.map_congr_left fun l _ => rfl
      have := Go.Proofs.Try.strings_Join b o cap (xs.map fun l => ByteArray.mk l.toArray) ⟨sep.toArray⟩ E.w (by
        intro j x hj
        rw [List.getElem?_map, Option.map_eq_some_iff] at hj
        obtain ⟨l, hl, rfl⟩ := hj
        exact hc j l hl) (cell_lt (hc 0 _ (List.getElem?_eq_getElem hpos))) (by rw [List.length_map]; exact hN) (by rw [List.length_map]; exact hcap) (by rw [hmm]; exact hlen)
      rw [List.length_map, hmm] at this
      refine this.mono ?_
      rintro e w' ⟨rfl, hbl⟩
      exact ⟨⟨_, rfl, fun _ => .str _⟩, hbl⟩
  generalize hx : xs.map strU = ys at h0
  cases h0 with
  | sl base cap wd _ vs' b o hcap hpos hw hcl hbase hlen2 hcell hrep2 =>
    subst hx
    rw [List.length_map] at hcap ⊢
    refine key base cap hcap ?_
    rcases hbase with h | ⟨h, _⟩
    · exact .inl (List.map_eq_nil_iff.1 h)
    · refine .inr ⟨b, o, h, fun j l hj => ?_⟩
      rw [flat_strs] at hlen2 hrep2
      have hjl := (List.getElem?_eq_some_iff.1 hj).1
      have hv : vs'[j]? = some (vs'[j]'(by rw [hlen2, List.length_map]; exact hjl)) := List.getElem?_eq_getElem _
      have hr := hrep2 j _ (strU l) hv (by rw [List.getElem?_map, hj]; rfl)
      have := (hcell j _ hv).1
      rw [rep_str_inv hr] at this
      exact this
  | dead _ _ i hr hd h1 => simp [AV.ref] at hr

theorem ztext_pure (x : ZI) (hx : Zok 8796093022208 x) : PureC Pr F_zint_Text [x.av] (strU (decI x.z)) := by
  have hx' := hx.mono (show 8796093022208 ≤ 17592186044416 by omega)
  have hs := zsign_pure x hx'
  have ht := nattext_pure x.mag ⟨hx'.lim, hx'.len⟩ hx.len
  have hab : x.z.natAbs = val x.mag := by unfold ZI.z; rw [sgn_abs]
  have hdl : (dec (val x.mag)).length ≤ 10 * x.mag.length + 1 := dec_len (val_lt hx.lim)
  have hxl := hx.len
  have hadd : binV .add (.str ⟨#[45]⟩) (strU (dec (val x.mag))) = some (strU (45 :: dec (val x.mag))) := sadd_strU [45] _ (by simp only [List.length_cons, List.length_nil]; omega)
  by_cases hn : x.z < 0
  · have hd : decI x.z = 45 :: dec (val x.mag) := by rw [decI, if_pos hn, hab]
    rw [hd]
    obtain ⟨n, m⟩ := x
    simp only [ZI.av] at hs ht hadd ⊢
    refine PureC.intro zint_Text_fn zint_Text_ok (Nat.le_of_ble_eq_true rfl) (strU_cl _) fun H hH => ?_
    refine Safe.rg rfl ?_
    simp only [zint_Text_r0, E3, Nat.reduceLeDiff, Nat.reduceSub, Nat.reduceAdd, Nat.reduceEqDiff, reduceCtorEq, ↓reduceIte]
    refine Safe.rg rfl ?_
    simp only [zint_Text_r1, E3, Nat.reduceLeDiff, Nat.reduceSub, Nat.reduceAdd, Nat.reduceEqDiff, reduceCtorEq, ↓reduceIte]
    first | refine (hs).acall ?_ | refine (hs).dcall ?_
    try simp only [E3, Nat.reduceLeDiff, Nat.reduceSub, Nat.reduceAdd, Nat.reduceEqDiff, reduceCtorEq, ↓reduceIte]
    refine Safe.cd rfl ?_
    simp only [sign_lt, hn, E3, Nat.reduceLeDiff, Nat.reduceSub, Nat.reduceAdd, Nat.reduceEqDiff, reduceCtorEq, ↓reduceIte]
    refine Safe.rg rfl ?_
    simp only [zint_Text_r2, E3, Nat.reduceLeDiff, Nat.reduceSub, Nat.reduceAdd, Nat.reduceEqDiff, reduceCtorEq, ↓reduceIte]
    first | refine (ht).acall ?_ | refine (ht).dcall ?_
    try simp only [E3, Nat.reduceLeDiff, Nat.reduceSub, Nat.reduceAdd, Nat.reduceEqDiff, reduceCtorEq, ↓reduceIte]
    simp only [hadd, E3, Nat.reduceLeDiff, Nat.reduceSub, Nat.reduceAdd, Nat.reduceEqDiff, reduceCtorEq, ↓reduceIte]
    refine Safe.rt rfl ?_
    simp only [E3, Nat.reduceLeDiff, Nat.reduceSub, Nat.reduceAdd, Nat.reduceEqDiff, reduceCtorEq, ↓reduceIte]
    first | exact ⟨rfl, _, rfl⟩ | exact ⟨_, rfl⟩ | exact ⟨trivial, _, rfl⟩
  · have hd : decI x.z = dec (val x.mag) := by rw [decI, if_neg hn, hab]
    rw [hd]
    obtain ⟨n, m⟩ := x
    simp only [ZI.av] at hs ht hadd ⊢
    refine PureC.intro zint_Text_fn zint_Text_ok (Nat.le_of_ble_eq_true rfl) (strU_cl _) fun H hH => ?_
    refine Safe.rg rfl ?_
    simp only [zint_Text_r0, E3, Nat.reduceLeDiff, Nat.reduceSub, Nat.reduceAdd, Nat.reduceEqDiff, reduceCtorEq, ↓reduceIte]
    refine Safe.rg rfl ?_
    simp only [zint_Text_r1, E3, Nat.reduceLeDiff, Nat.reduceSub, Nat.reduceAdd, Nat.reduceEqDiff, reduceCtorEq, ↓reduceIte]
    first | refine (hs).acall ?_ | refine (hs).dcall ?_
    try simp only [E3, Nat.reduceLeDiff, Nat.reduceSub, Nat.reduceAdd, Nat.reduceEqDiff, reduceCtorEq, ↓reduceIte]
    refine Safe.cd rfl ?_
    simp only [sign_lt, hn, E3, Nat.reduceLeDiff, Nat.reduceSub, Nat.reduceAdd, Nat.reduceEqDiff, reduceCtorEq, ↓reduceIte]
    refine Safe.rg rfl ?_
    simp only [zint_Text_r3, E3, Nat.reduceLeDiff, Nat.reduceSub, Nat.reduceAdd, Nat.reduceEqDiff, reduceCtorEq, ↓reduceIte]
    first | refine (ht).acall ?_ | refine (ht).dcall ?_
    try simp only [E3, Nat.reduceLeDiff, Nat.reduceSub, Nat.reduceAdd, Nat.reduceEqDiff, reduceCtorEq, ↓reduceIte]
    refine Safe.rt rfl ?_
    simp only [E3, Nat.reduceLeDiff, Nat.reduceSub, Nat.reduceAdd, Nat.reduceEqDiff, reduceCtorEq, ↓reduceIte]
    first | exact ⟨rfl, _, rfl⟩ | exact ⟨_, rfl⟩ | exact ⟨trivial, _, rfl⟩
theorem r2text_pure (x : ZI) (hx : Zok 8796093022208 x) : PureC Pr F_ref02_Text [x.av] (strU (decI x.z)) := by
  have hx' := hx.mono (show 8796093022208 ≤ 17592186044416 by omega)
  have hs := r2sign_pure x hx'
  have ht := reftext_pure x.mag ⟨hx'.lim, hx'.len⟩ hx.len
  have hab : x.z.natAbs = val x.mag := by unfold ZI.z; rw [sgn_abs]
  have hdl : (dec (val x.mag)).length ≤ 10 * x.mag.length + 1 := dec_len (val_lt hx.lim)
  have hxl := hx.len
  have hadd : binV .add (.str ⟨#[45]⟩) (strU (dec (val x.mag))) = some (strU (45 :: dec (val x.mag))) := sadd_strU [45] _ (by simp only [List.length_cons, List.length_nil]; omega)
  by_cases hn : x.z < 0
  · have hd : decI x.z = 45 :: dec (val x.mag) := by rw [decI, if_pos hn, hab]
    rw [hd]
    obtain ⟨n, m⟩ := x
    simp only [ZI.av] at hs ht hadd ⊢
    refine PureC.intro ref02_Text_fn ref02_Text_ok (Nat.le_of_ble_eq_true rfl) (strU_cl _) fun H hH => ?_
    refine Safe.rg rfl ?_
    simp only [ref02_Text_r0, E3, Nat.reduceLeDiff, Nat.reduceSub, Nat.reduceAdd, Nat.reduceEqDiff, reduceCtorEq, ↓reduceIte]
    refine Safe.rg rfl ?_
    simp only [ref02_Text_r1, E3, Nat.reduceLeDiff, Nat.reduceSub, Nat.reduceAdd, Nat.reduceEqDiff, reduceCtorEq, ↓reduceIte]
    first | refine (ht).acall ?_ | refine (ht).dcall ?_
    try simp only [E3, Nat.reduceLeDiff, Nat.reduceSub, Nat.reduceAdd, Nat.reduceEqDiff, reduceCtorEq, ↓reduceIte]
    refine Safe.rg rfl ?_
    simp only [ref02_Text_r2, ES, E3, Nat.reduceLeDiff, Nat.reduceSub, Nat.reduceAdd, Nat.reduceEqDiff, reduceCtorEq, ↓reduceIte]
    first | refine (hs).acall ?_ | refine (hs).dcall ?_
    try simp only [E3, Nat.reduceLeDiff, Nat.reduceSub, Nat.reduceAdd, Nat.reduceEqDiff, reduceCtorEq, ↓reduceIte]
    refine Safe.cd rfl ?_
    simp only [sign_lt, hn, E3, Nat.reduceLeDiff, Nat.reduceSub, Nat.reduceAdd, Nat.reduceEqDiff, reduceCtorEq, ↓reduceIte]
    refine Safe.rg rfl ?_
    simp only [ref02_Text_r3, ES, hadd, E3, Nat.reduceLeDiff, Nat.reduceSub, Nat.reduceAdd, Nat.reduceEqDiff, reduceCtorEq, ↓reduceIte]
    refine Safe.rt rfl ?_
    simp only [E3, Nat.reduceLeDiff, Nat.reduceSub, Nat.reduceAdd, Nat.reduceEqDiff, reduceCtorEq, ↓reduceIte]
    first | exact ⟨rfl, _, rfl⟩ | exact ⟨_, rfl⟩ | exact ⟨trivial, _, rfl⟩
  · have hd : decI x.z = dec (val x.mag) := by rw [decI, if_neg hn, hab]
    rw [hd]
    obtain ⟨n, m⟩ := x
    simp only [ZI.av] at hs ht hadd ⊢
    refine PureC.intro ref02_Text_fn ref02_Text_ok (Nat.le_of_ble_eq_true rfl) (strU_cl _) fun H hH => ?_
    refine Safe.rg rfl ?_
    simp only [ref02_Text_r0, E3, Nat.reduceLeDiff, Nat.reduceSub, Nat.reduceAdd, Nat.reduceEqDiff, reduceCtorEq, ↓reduceIte]
    refine Safe.rg rfl ?_
    simp only [ref02_Text_r1, E3, Nat.reduceLeDiff, Nat.reduceSub, Nat.reduceAdd, Nat.reduceEqDiff, reduceCtorEq, ↓reduceIte]
    first | refine (ht).acall ?_ | refine (ht).dcall ?_
    try simp only [E3, Nat.reduceLeDiff, Nat.reduceSub, Nat.reduceAdd, Nat.reduceEqDiff, reduceCtorEq, ↓reduceIte]
    refine Safe.rg rfl ?_
    simp only [ref02_Text_r2, ES, E3, Nat.reduceLeDiff, Nat.reduceSub, Nat.reduceAdd, Nat.reduceEqDiff, reduceCtorEq, ↓reduceIte]
    first | refine (hs).acall ?_ | refine (hs).dcall ?_
    try simp only [E3, Nat.reduceLeDiff, Nat.reduceSub, Nat.reduceAdd, Nat.reduceEqDiff, reduceCtorEq, ↓reduceIte]
    refine Safe.cd rfl ?_
    simp only [sign_lt, hn, E3, Nat.reduceLeDiff, Nat.reduceSub, Nat.reduceAdd, Nat.reduceEqDiff, reduceCtorEq, ↓reduceIte]
    refine Safe.rg rfl ?_
    simp only [ref02_Text_r4, ES, E3, Nat.reduceLeDiff, Nat.reduceSub, Nat.reduceAdd, Nat.reduceEqDiff, reduceCtorEq, ↓reduceIte]
    refine Safe.rt rfl ?_
    simp only [E3, Nat.reduceLeDiff, Nat.reduceSub, Nat.reduceAdd, Nat.reduceEqDiff, reduceCtorEq, ↓reduceIte]
    first | exact ⟨rfl, _, rfl⟩ | exact ⟨_, rfl⟩ | exact ⟨trivial, _, rfl⟩

theorem each_IS (g : FuncId) (caps : List AV) (v : List ZI) (f : Nat → List UInt8) (hv : v.length ≤ 2097152) (hc : ∀ c ∈ caps, Cl c) (hf : ∀ (i : Nat) (h : i < v.length), PureC Pr g (v[i].av :: caps) (strU (f i))) : PureC Pr F_mat_each_I_string [vecV v, .fn g caps] (.sl 1 ((tx v.length f).map strU)) := by
  have hcl : ∀ id, caps.all (nref id) = true := fun id => List.all_eq_true.2 fun c h => nref_cl (hc c h)
  refine PureC.intro mat_each_I_string_fn mat_each_I_string_ok (Nat.le_of_ble_eq_true rfl) (cl_sl 1 strU _ strU_cl) fun H hH => ?_
  refine Safe.rg rfl ?_
  simp only [mat_each_I_string_r0, E3, Nat.reduceLeDiff, Nat.reduceSub, Nat.reduceAdd, Nat.reduceEqDiff, reduceCtorEq, ↓reduceIte]
  refine Safe.rg rfl ?_
  simp only [mat_each_I_string_r1, mksl_row _ _ 1 16 _ _ _ v.length (by decide) (by omega) (by omega), E3, Nat.reduceLeDiff, Nat.reduceSub, Nat.reduceAdd, Nat.reduceEqDiff, reduceCtorEq, ↓reduceIte]
  refine Safe.rg rfl ?_
  simp only [mat_each_I_string_r2, E3, Nat.reduceLeDiff, Nat.reduceSub, Nat.reduceAdd, Nat.reduceEqDiff, reduceCtorEq, ↓reduceIte]
  refine Safe.lp rfl ?_
  refine Safe.keep [1, 5, 11, 12, 13] ?_
  try simp only [E3, Nat.reduceLeDiff, Nat.reduceSub, Nat.reduceAdd, Nat.reduceEqDiff, reduceCtorEq, ↓reduceIte]
  refine Safe.loopN (v.length) (fun i => [(1, .fn g caps), (5, .mu (lid H 0) 0 i (some v.length)), (11, vecV v), (12, .int .i64 v.length), (13, .int .i64 i)]) (fun i => hap H [some ⟨1, (tx i f).map strU⟩]) rfl rfl (fun i hi ih => ?_) ?_
  · have hlt : (i : Int) < (v.length : Int) := by omega
    have hiw : IntKind.wrap .i64 ((i : Int) + 1) = ((i + 1 : Nat) : Int) := by rw [wrap_i64] <;> omega
    refine Safe.inLoop ?_
    refine Safe.rg rfl ?_
    simp only [mat_each_I_string_r3, hlt, E3, Nat.reduceLeDiff, Nat.reduceSub, Nat.reduceAdd, Nat.reduceEqDiff, reduceCtorEq, ↓reduceIte]
    refine Safe.cd rfl ?_
    simp only [E3, Nat.reduceLeDiff, Nat.reduceSub, Nat.reduceAdd, Nat.reduceEqDiff, reduceCtorEq, ↓reduceIte]
    refine Safe.rg rfl ?_
    simp only [mat_each_I_string_r4, vec_idx _ v _ i (by omega), E3, Nat.reduceLeDiff, Nat.reduceSub, Nat.reduceAdd, Nat.reduceEqDiff, reduceCtorEq, ↓reduceIte]
    refine Safe.rg rfl ?_
    simp only [mat_each_I_string_r5, E3, Nat.reduceLeDiff, Nat.reduceSub, Nat.reduceAdd, Nat.reduceEqDiff, reduceCtorEq, ↓reduceIte]
    first | refine (hf i hi).acall ?_ | refine (hf i hi).dcall ?_
    try simp only [E3, Nat.reduceLeDiff, Nat.reduceSub, Nat.reduceAdd, Nat.reduceEqDiff, reduceCtorEq, ↓reduceIte]
    simp only [ES, E3, Nat.reduceLeDiff, Nat.reduceSub, Nat.reduceAdd, Nat.reduceEqDiff, reduceCtorEq, ↓reduceIte]
    rw [app_room (H := H) 0 (lid_ge H 0) (f := strU) (tx i f) (f i) (tx (i + 1) f) (tx_length _ _).symm rfl rfl (tx_succ _ _) (by omega)]
    simp only [hcl, E3, Nat.reduceLeDiff, Nat.reduceSub, Nat.reduceAdd, Nat.reduceEqDiff, reduceCtorEq, ↓reduceIte]
    refine Safe.rg rfl ?_
    simp only [mat_each_I_string_r6, hiw, E3, Nat.reduceLeDiff, Nat.reduceSub, Nat.reduceAdd, Nat.reduceEqDiff, reduceCtorEq, ↓reduceIte]
    refine Safe.keep [1, 5, 11, 12, 13] ?_
    simp only [E3, Nat.reduceLeDiff, Nat.reduceSub, Nat.reduceAdd, Nat.reduceEqDiff, reduceCtorEq, ↓reduceIte]
    refine Safe.drop1 hH rfl (by simp only [List.all_cons, List.all_nil, hcl, E3, Nat.reduceLeDiff, Nat.reduceSub, Nat.reduceAdd, Nat.reduceEqDiff, reduceCtorEq, ↓reduceIte]) (RC.row strU_cl RC.nil) ?_
    exact ih
  · refine Safe.inLoop ?_
    refine Safe.rg rfl ?_
    simp only [mat_each_I_string_r3, Int.lt_irrefl, E3, Nat.reduceLeDiff, Nat.reduceSub, Nat.reduceAdd, Nat.reduceEqDiff, reduceCtorEq, ↓reduceIte]
    refine Safe.cd rfl ?_
    simp only [E3, Nat.reduceLeDiff, Nat.reduceSub, Nat.reduceAdd, Nat.reduceEqDiff, reduceCtorEq, ↓reduceIte]
    refine Safe.freeze 0 hH rfl rfl (blk_map 1 strU _ strU_cl) ?_
    refine Safe.keep [5] ?_
    simp only [frz_row 0 1 strU (tx v.length f) v.length (some v.length) (tx_length _ _).symm, E3, Nat.reduceLeDiff, Nat.reduceSub, Nat.reduceAdd, Nat.reduceEqDiff, reduceCtorEq, ↓reduceIte]
    refine Safe.rg rfl ?_
    simp only [mat_each_I_string_r7, E3, Nat.reduceLeDiff, Nat.reduceSub, Nat.reduceAdd, Nat.reduceEqDiff, reduceCtorEq, ↓reduceIte]
    refine Safe.rt rfl ?_
    simp only [E3, Nat.reduceLeDiff, Nat.reduceSub, Nat.reduceAdd, Nat.reduceEqDiff, reduceCtorEq, ↓reduceIte]
    first | exact ⟨rfl, _, rfl⟩ | exact ⟨_, rfl⟩ | exact ⟨trivial, _, rfl⟩
theorem each_VS (g : FuncId) (caps : List AV) (v : List (List ZI)) (f : Nat → List UInt8) (hv : v.length ≤ 2097152) (hc : ∀ c ∈ caps, Cl c) (hf : ∀ (i : Nat) (h : i < v.length), PureC Pr g (vecV v[i] :: caps) (strU (f i))) : PureC Pr F_mat_each_V_string [matV v, .fn g caps] (.sl 1 ((tx v.length f).map strU)) := by
  have hcl : ∀ id, caps.all (nref id) = true := fun id => List.all_eq_true.2 fun c h => nref_cl (hc c h)
  refine PureC.intro mat_each_V_string_fn mat_each_V_string_ok (Nat.le_of_ble_eq_true rfl) (cl_sl 1 strU _ strU_cl) fun H hH => ?_
  refine Safe.rg rfl ?_
  simp only [mat_each_V_string_r0, E3, Nat.reduceLeDiff, Nat.reduceSub, Nat.reduceAdd, Nat.reduceEqDiff, reduceCtorEq, ↓reduceIte]
  refine Safe.rg rfl ?_
  simp only [mat_each_V_string_r1, mksl_row _ _ 1 16 _ _ _ v.length (by decide) (by omega) (by omega), E3, Nat.reduceLeDiff, Nat.reduceSub, Nat.reduceAdd, Nat.reduceEqDiff, reduceCtorEq, ↓reduceIte]
  refine Safe.rg rfl ?_
  simp only [mat_each_V_string_r2, E3, Nat.reduceLeDiff, Nat.reduceSub, Nat.reduceAdd, Nat.reduceEqDiff, reduceCtorEq, ↓reduceIte]
  refine Safe.lp rfl ?_
  refine Safe.keep [1, 5, 11, 12, 13] ?_
  try simp only [E3, Nat.reduceLeDiff, Nat.reduceSub, Nat.reduceAdd, Nat.reduceEqDiff, reduceCtorEq, ↓reduceIte]
  refine Safe.loopN (v.length) (fun i => [(1, .fn g caps), (5, .mu (lid H 0) 0 i (some v.length)), (11, matV v), (12, .int .i64 v.length), (13, .int .i64 i)]) (fun i => hap H [some ⟨1, (tx i f).map strU⟩]) rfl rfl (fun i hi ih => ?_) ?_
  · have hlt : (i : Int) < (v.length : Int) := by omega
    have hiw : IntKind.wrap .i64 ((i : Int) + 1) = ((i + 1 : Nat) : Int) := by rw [wrap_i64] <;> omega
    refine Safe.inLoop ?_
    refine Safe.rg rfl ?_
    simp only [mat_each_V_string_r3, hlt, E3, Nat.reduceLeDiff, Nat.reduceSub, Nat.reduceAdd, Nat.reduceEqDiff, reduceCtorEq, ↓reduceIte]
    refine Safe.cd rfl ?_
    simp only [E3, Nat.reduceLeDiff, Nat.reduceSub, Nat.reduceAdd, Nat.reduceEqDiff, reduceCtorEq, ↓reduceIte]
    refine Safe.rg rfl ?_
    simp only [mat_each_V_string_r4, mat_idx _ v _ i (by omega), E3, Nat.reduceLeDiff, Nat.reduceSub, Nat.reduceAdd, Nat.reduceEqDiff, reduceCtorEq, ↓reduceIte]
    refine Safe.rg rfl ?_
    simp only [mat_each_V_string_r5, E3, Nat.reduceLeDiff, Nat.reduceSub, Nat.reduceAdd, Nat.reduceEqDiff, reduceCtorEq, ↓reduceIte]
    first | refine (hf i hi).acall ?_ | refine (hf i hi).dcall ?_
    try simp only [E3, Nat.reduceLeDiff, Nat.reduceSub, Nat.reduceAdd, Nat.reduceEqDiff, reduceCtorEq, ↓reduceIte]
    simp only [ES, E3, Nat.reduceLeDiff, Nat.reduceSub, Nat.reduceAdd, Nat.reduceEqDiff, reduceCtorEq, ↓reduceIte]
    rw [app_room (H := H) 0 (lid_ge H 0) (f := strU) (tx i f) (f i) (tx (i + 1) f) (tx_length _ _).symm rfl rfl (tx_succ _ _) (by omega)]
    simp only [hcl, E3, Nat.reduceLeDiff, Nat.reduceSub, Nat.reduceAdd, Nat.reduceEqDiff, reduceCtorEq, ↓reduceIte]
    refine Safe.rg rfl ?_
    simp only [mat_each_V_string_r6, hiw, E3, Nat.reduceLeDiff, Nat.reduceSub, Nat.reduceAdd, Nat.reduceEqDiff, reduceCtorEq, ↓reduceIte]
    refine Safe.keep [1, 5, 11, 12, 13] ?_
    simp only [E3, Nat.reduceLeDiff, Nat.reduceSub, Nat.reduceAdd, Nat.reduceEqDiff, reduceCtorEq, ↓reduceIte]
    exact ih
  · refine Safe.inLoop ?_
    refine Safe.rg rfl ?_
    simp only [mat_each_V_string_r3, Int.lt_irrefl, E3, Nat.reduceLeDiff, Nat.reduceSub, Nat.reduceAdd, Nat.reduceEqDiff, reduceCtorEq, ↓reduceIte]
    refine Safe.cd rfl ?_
    simp only [E3, Nat.reduceLeDiff, Nat.reduceSub, Nat.reduceAdd, Nat.reduceEqDiff, reduceCtorEq, ↓reduceIte]
    refine Safe.freeze 0 hH rfl rfl (blk_map 1 strU _ strU_cl) ?_
    refine Safe.keep [5] ?_
    simp only [frz_row 0 1 strU (tx v.length f) v.length (some v.length) (tx_length _ _).symm, E3, Nat.reduceLeDiff, Nat.reduceSub, Nat.reduceAdd, Nat.reduceEqDiff, reduceCtorEq, ↓reduceIte]
    refine Safe.rg rfl ?_
    simp only [mat_each_V_string_r7, E3, Nat.reduceLeDiff, Nat.reduceSub, Nat.reduceAdd, Nat.reduceEqDiff, reduceCtorEq, ↓reduceIte]
    refine Safe.rt rfl ?_
    simp only [E3, Nat.reduceLeDiff, Nat.reduceSub, Nat.reduceAdd, Nat.reduceEqDiff, reduceCtorEq, ↓reduceIte]
    first | exact ⟨rfl, _, rfl⟩ | exact ⟨_, rfl⟩ | exact ⟨trivial, _, rfl⟩

theorem tvec_pure (v : List ZI) (hv : Vok 8796093022208 v) (hs : (txV v).length ≤ 70368744177664) : PureC Pr F_mat_TextVector [vecV v] (strU (txV v)) := by
  have hvl := hv.len
  have he := each_IS F_zint_Text [] v (fun i => decI (zg v i)) hv.len (by simp) fun i h => by
    have := ztext_pure v[i] (hv.get h)
    rwa [← zg_lt h] at this
  have hj : PureC Pr F_strings_Join [.sl 1 ((tx v.length fun i => decI (zg v i)).map strU), .str ⟨#[32]⟩] (strU (txV v)) := join_pure _ [32] (by rw [tx_length]; omega) (Nat.le_trans hs (by decide))
  refine PureC.intro mat_TextVector_fn mat_TextVector_ok (Nat.le_of_ble_eq_true rfl) (strU_cl _) fun H hH => ?_
  refine Safe.rg rfl ?_
  simp only [mat_TextVector_r0, E3, Nat.reduceLeDiff, Nat.reduceSub, Nat.reduceAdd, Nat.reduceEqDiff, reduceCtorEq, ↓reduceIte]
  refine Safe.rg rfl ?_
  simp only [mat_TextVector_r1, E3, Nat.reduceLeDiff, Nat.reduceSub, Nat.reduceAdd, Nat.reduceEqDiff, reduceCtorEq, ↓reduceIte]
  first | refine (he).acall ?_ | refine (he).dcall ?_
  try simp only [E3, Nat.reduceLeDiff, Nat.reduceSub, Nat.reduceAdd, Nat.reduceEqDiff, reduceCtorEq, ↓reduceIte]
  first | refine (hj).acall ?_ | refine (hj).dcall ?_
  try simp only [E3, Nat.reduceLeDiff, Nat.reduceSub, Nat.reduceAdd, Nat.reduceEqDiff, reduceCtorEq, ↓reduceIte]
  refine Safe.rt rfl ?_
  simp only [E3, Nat.reduceLeDiff, Nat.reduceSub, Nat.reduceAdd, Nat.reduceEqDiff, reduceCtorEq, ↓reduceIte]
  first | exact ⟨rfl, _, rfl⟩ | exact ⟨_, rfl⟩ | exact ⟨trivial, _, rfl⟩
theorem tmat_pure (b : List (List ZI)) (hb : Mok 8796093022208 b) (hs : (txM b).length ≤ 70368744177664) (hv : ∀ i, i < b.length → (txV (mg b i)).length ≤ 70368744177664) : PureC Pr F_mat_Text [matV b] (strU (txM b)) := by
  have hvl := hb.len
  have he := each_VS F_mat_TextVector [] b (fun i => txV (mg b i)) hb.len (by simp) fun i h => by
    have hvi := hv i h
    rw [mg_lt h] at hvi ⊢
    exact tvec_pure b[i] (hb.get h) hvi
  have hj : PureC Pr F_strings_Join [.sl 1 ((tx b.length fun i => txV (mg b i)).map strU), .str ⟨#[59, 32]⟩] (strU (txM b)) := join_pure _ [59, 32] (by rw [tx_length]; omega) (Nat.le_trans hs (by decide))
  refine PureC.intro mat_Text_fn mat_Text_ok (Nat.le_of_ble_eq_true rfl) (strU_cl _) fun H hH => ?_
  refine Safe.rg rfl ?_
  simp only [mat_Text_r0, E3, Nat.reduceLeDiff, Nat.reduceSub, Nat.reduceAdd, Nat.reduceEqDiff, reduceCtorEq, ↓reduceIte]
  refine Safe.rg rfl ?_
  simp only [mat_Text_r1, E3, Nat.reduceLeDiff, Nat.reduceSub, Nat.reduceAdd, Nat.reduceEqDiff, reduceCtorEq, ↓reduceIte]
  first | refine (he).acall ?_ | refine (he).dcall ?_
  try simp only [E3, Nat.reduceLeDiff, Nat.reduceSub, Nat.reduceAdd, Nat.reduceEqDiff, reduceCtorEq, ↓reduceIte]
  first | refine (hj).acall ?_ | refine (hj).dcall ?_
  try simp only [E3, Nat.reduceLeDiff, Nat.reduceSub, Nat.reduceAdd, Nat.reduceEqDiff, reduceCtorEq, ↓reduceIte]
  refine Safe.rt rfl ?_
  simp only [E3, Nat.reduceLeDiff, Nat.reduceSub, Nat.reduceAdd, Nat.reduceEqDiff, reduceCtorEq, ↓reduceIte]
  first | exact ⟨rfl, _, rfl⟩ | exact ⟨_, rfl⟩ | exact ⟨trivial, _, rfl⟩

theorem rtvec_pure (v : List ZI) (hv : Vok 8796093022208 v) (hs : (txV v).length ≤ 70368744177664) : PureC Pr F_ref04_TextVector [vecV v] (strU (txV v)) := by
  have hvl := hv.len
  have hle := fun i (h : i ≤ v.length) => Nat.le_trans (join_le (fun i => decI (zg v i)) [32] h) hs
  refine PureC.intro ref04_TextVector_fn ref04_TextVector_ok (Nat.le_of_ble_eq_true rfl) (strU_cl _) fun H hH => ?_
  refine Safe.rg rfl ?_
  simp only [ref04_TextVector_r0, E3, Nat.reduceLeDiff, Nat.reduceSub, Nat.reduceAdd, Nat.reduceEqDiff, reduceCtorEq, ↓reduceIte]
  refine Safe.rg rfl ?_
  simp only [ref04_TextVector_r1, E3, Nat.reduceLeDiff, Nat.reduceSub, Nat.reduceAdd, Nat.reduceEqDiff, reduceCtorEq, ↓reduceIte]
  refine Safe.nilrow 3 1 (by decide) (by simp only [E3, Nat.reduceLeDiff, Nat.reduceSub, Nat.reduceAdd, Nat.reduceEqDiff, reduceCtorEq, ↓reduceIte]) ?_
  refine Safe.rg rfl ?_
  simp only [ref04_TextVector_r2, E3, Nat.reduceLeDiff, Nat.reduceSub, Nat.reduceAdd, Nat.reduceEqDiff, reduceCtorEq, ↓reduceIte]
  refine Safe.lp rfl ?_
  refine Safe.keep [0, 3, 4] ?_
  try simp only [E3, Nat.reduceLeDiff, Nat.reduceSub, Nat.reduceAdd, Nat.reduceEqDiff, reduceCtorEq, ↓reduceIte]
  refine Safe.loopN (v.length) (fun i => [(0, vecV v), (3, .mu (lid H 0) 0 (Lib.join (tx i fun i => decI (zg v i)) [32]).length none), (4, .int .i64 i)]) (fun i => hap H [some ⟨1, byts (Lib.join (tx i fun i => decI (zg v i)) [32])⟩]) rfl rfl (fun i hi ih => ?_) ?_
  · have hlt : (i : Int) < (v.length : Int) := by omega
    have ht := r2text_pure v[i] (hv.get hi)
    rw [← zg_lt hi] at ht
    have hiw : IntKind.wrap .i64 ((i : Int) + 1) = ((i + 1 : Nat) : Int) := by rw [wrap_i64] <;> omega
    refine Safe.inLoop ?_
    refine Safe.rg rfl ?_
    simp only [ref04_TextVector_r3, hlt, E3, Nat.reduceLeDiff, Nat.reduceSub, Nat.reduceAdd, Nat.reduceEqDiff, reduceCtorEq, ↓reduceIte]
    refine Safe.cd rfl ?_
    simp only [E3, Nat.reduceLeDiff, Nat.reduceSub, Nat.reduceAdd, Nat.reduceEqDiff, reduceCtorEq, ↓reduceIte]
    refine Safe.rg rfl ?_
    simp only [ref04_TextVector_r4, E3, Nat.reduceLeDiff, Nat.reduceSub, Nat.reduceAdd, Nat.reduceEqDiff, reduceCtorEq, ↓reduceIte]
    refine Safe.cd rfl ?_
    simp only [E3, Nat.reduceLeDiff, Nat.reduceSub, Nat.reduceAdd, Nat.reduceEqDiff, reduceCtorEq, ↓reduceIte]
    match i with
    | 0 =>
      have hl := hle 1 (by omega)
      rw [join_one] at hl ih
      rw [join_zero]
      have happ := fun env => app_byt (H := H) (L := []) (env := env) (n0 := H.length) hH (lid_ge H 0) RC.nil [] (decI (zg v 0)) 0 (strU (decI (zg v 0))) true (srcEls_strU _ _) rfl (by simp only [List.length_nil]; omega)
      simp only [show ¬ ((0 : Nat) : Int) > 0 by decide, E3, Nat.reduceLeDiff, Nat.reduceSub, Nat.reduceAdd, Nat.reduceEqDiff, reduceCtorEq, ↓reduceIte]
      refine Safe.rg rfl ?_
      simp only [ref04_TextVector_r6, vec_idx _ v _ 0 hi, E3, Nat.reduceLeDiff, Nat.reduceSub, Nat.reduceAdd, Nat.reduceEqDiff, reduceCtorEq, ↓reduceIte]
      first | refine (ht).acall ?_ | refine (ht).dcall ?_
      try simp only [E3, Nat.reduceLeDiff, Nat.reduceSub, Nat.reduceAdd, Nat.reduceEqDiff, reduceCtorEq, ↓reduceIte]
      simp only [ES, happ, List.nil_append, E3, Nat.reduceLeDiff, Nat.reduceSub, Nat.reduceAdd, Nat.reduceEqDiff, reduceCtorEq, ↓reduceIte]
      refine Safe.rg rfl ?_
      simp only [ref04_TextVector_r7, hiw, E3, Nat.reduceLeDiff, Nat.reduceSub, Nat.reduceAdd, Nat.reduceEqDiff, reduceCtorEq, ↓reduceIte]
      refine Safe.keep [0, 3, 4] ?_
      simp only [E3, Nat.reduceLeDiff, Nat.reduceSub, Nat.reduceAdd, Nat.reduceEqDiff, reduceCtorEq, ↓reduceIte]
      exact ih
    | i + 1 =>
      have hl := hle (i + 2) (by omega)
      rw [join_succ] at hl ih
      generalize Lib.join (tx (i + 1) fun i => decI (zg v i)) [32] = pre at *
      simp only [List.length_append, List.length_cons, List.length_nil] at hl
      have h1 := fun env => app_byt (H := H) (L := []) (env := env) (n0 := H.length) hH (lid_ge H 0) RC.nil pre [32] pre.length (.sl 1 [.int .u8 32]) false (srcEls_sl _ 1 _) rfl (by simp only [List.length_cons, List.length_nil]; omega)
      have h2 := fun env => app_byt (H := H) (L := []) (env := env) (n0 := H.length) hH (lid_ge H 0) RC.nil (pre ++ [32]) (decI (zg v (i + 1))) (pre.length + 1) (strU (decI (zg v (i + 1)))) true (srcEls_strU _ _) (by simp) (by simp only [List.length_append, List.length_cons, List.length_nil]; omega)
      simp only [show ((i + 1 : Nat) : Int) > 0 by omega, E3, Nat.reduceLeDiff, Nat.reduceSub, Nat.reduceAdd, Nat.reduceEqDiff, reduceCtorEq, ↓reduceIte]
      refine Safe.rg rfl ?_
      simp only [ref04_TextVector_r5, h1, E3, Nat.reduceLeDiff, Nat.reduceSub, Nat.reduceAdd, Nat.reduceEqDiff, reduceCtorEq, ↓reduceIte]
      refine Safe.rg rfl ?_
      simp only [ref04_TextVector_r6, vec_idx _ v _ (i + 1) hi, E3, Nat.reduceLeDiff, Nat.reduceSub, Nat.reduceAdd, Nat.reduceEqDiff, reduceCtorEq, ↓reduceIte]
      first | refine (ht).acall ?_ | refine (ht).dcall ?_
      try simp only [E3, Nat.reduceLeDiff, Nat.reduceSub, Nat.reduceAdd, Nat.reduceEqDiff, reduceCtorEq, ↓reduceIte]
      simp only [ES, h2, E3, Nat.reduceLeDiff, Nat.reduceSub, Nat.reduceAdd, Nat.reduceEqDiff, reduceCtorEq, ↓reduceIte]
      refine Safe.rg rfl ?_
      simp only [ref04_TextVector_r7, hiw, E3, Nat.reduceLeDiff, Nat.reduceSub, Nat.reduceAdd, Nat.reduceEqDiff, reduceCtorEq, ↓reduceIte]
      refine Safe.keep [0, 3, 4] ?_
      simp only [E3, Nat.reduceLeDiff, Nat.reduceSub, Nat.reduceAdd, Nat.reduceEqDiff, reduceCtorEq, ↓reduceIte]
      have hlen : List.length (pre ++ [32] ++ decI (zg v (i + 1))) = pre.length + 1 + (decI (zg v (i + 1))).length := by simp only [List.length_append, List.length_cons, List.length_nil]
      rw [hlen] at ih
      exact ih
  · refine Safe.inLoop ?_
    refine Safe.rg rfl ?_
    simp only [ref04_TextVector_r3, Int.lt_irrefl, E3, Nat.reduceLeDiff, Nat.reduceSub, Nat.reduceAdd, Nat.reduceEqDiff, reduceCtorEq, ↓reduceIte]
    refine Safe.cd rfl ?_
    simp only [E3, Nat.reduceLeDiff, Nat.reduceSub, Nat.reduceAdd, Nat.reduceEqDiff, reduceCtorEq, ↓reduceIte]
    refine Safe.rg rfl ?_
    simp only [ref04_TextVector_r8, b2s_r0 _ _ rfl, E3, Nat.reduceLeDiff, Nat.reduceSub, Nat.reduceAdd, Nat.reduceEqDiff, reduceCtorEq, ↓reduceIte]
    refine Safe.rt rfl ?_
    simp only [E3, Nat.reduceLeDiff, Nat.reduceSub, Nat.reduceAdd, Nat.reduceEqDiff, reduceCtorEq, ↓reduceIte]
    exact ⟨rfl, _, rfl⟩
theorem rtmat_pure (b : List (List ZI)) (hb : Mok 8796093022208 b) (hs : (txM b).length ≤ 70368744177664) (hv : ∀ i, i < b.length → (txV (mg b i)).length ≤ 70368744177664) : PureC Pr F_ref04_Text [matV b] (strU (txM b)) := by
  have hvl := hb.len
  have hle := fun i (h : i ≤ b.length) => Nat.le_trans (join_le (fun i => txV (mg b i)) [59, 32] h) hs
  refine PureC.intro ref04_Text_fn ref04_Text_ok (Nat.le_of_ble_eq_true rfl) (strU_cl _) fun H hH => ?_
  refine Safe.rg rfl ?_
  simp only [ref04_Text_r0, E3, Nat.reduceLeDiff, Nat.reduceSub, Nat.reduceAdd, Nat.reduceEqDiff, reduceCtorEq, ↓reduceIte]
  refine Safe.rg rfl ?_
  simp only [ref04_Text_r1, E3, Nat.reduceLeDiff, Nat.reduceSub, Nat.reduceAdd, Nat.reduceEqDiff, reduceCtorEq, ↓reduceIte]
  refine Safe.nilrow 3 1 (by decide) (by simp only [E3, Nat.reduceLeDiff, Nat.reduceSub, Nat.reduceAdd, Nat.reduceEqDiff, reduceCtorEq, ↓reduceIte]) ?_
  refine Safe.rg rfl ?_
  simp only [ref04_Text_r2, E3, Nat.reduceLeDiff, Nat.reduceSub, Nat.reduceAdd, Nat.reduceEqDiff, reduceCtorEq, ↓reduceIte]
  refine Safe.lp rfl ?_
  refine Safe.keep [0, 3, 4] ?_
  try simp only [E3, Nat.reduceLeDiff, Nat.reduceSub, Nat.reduceAdd, Nat.reduceEqDiff, reduceCtorEq, ↓reduceIte]
  refine Safe.loopN (b.length) (fun i => [(0, matV b), (3, .mu (lid H 0) 0 (Lib.join (tx i fun i => txV (mg b i)) [59, 32]).length none), (4, .int .i64 i)]) (fun i => hap H [some ⟨1, byts (Lib.join (tx i fun i => txV (mg b i)) [59, 32])⟩]) rfl rfl (fun i hi ih => ?_) ?_
  · have hlt : (i : Int) < (b.length : Int) := by omega
    have ht : PureC Pr F_ref04_TextVector [vecV b[i]] (strU (txV (mg b i))) := by
      have := rtvec_pure (mg b i) (hb.row i) (hv i hi)
      rwa [mg_lt hi] at this ⊢
    have hiw : IntKind.wrap .i64 ((i : Int) + 1) = ((i + 1 : Nat) : Int) := by rw [wrap_i64] <;> omega
    refine Safe.inLoop ?_
    refine Safe.rg rfl ?_
    simp only [ref04_Text_r3, hlt, E3, Nat.reduceLeDiff, Nat.reduceSub, Nat.reduceAdd, Nat.reduceEqDiff, reduceCtorEq, ↓reduceIte]
    refine Safe.cd rfl ?_
    simp only [E3, Nat.reduceLeDiff, Nat.reduceSub, Nat.reduceAdd, Nat.reduceEqDiff, reduceCtorEq, ↓reduceIte]
    refine Safe.rg rfl ?_
    simp only [ref04_Text_r4, E3, Nat.reduceLeDiff, Nat.reduceSub, Nat.reduceAdd, Nat.reduceEqDiff, reduceCtorEq, ↓reduceIte]
    refine Safe.cd rfl ?_
    simp only [E3, Nat.reduceLeDiff, Nat.reduceSub, Nat.reduceAdd, Nat.reduceEqDiff, reduceCtorEq, ↓reduceIte]
    match i with
    | 0 =>
      have hl := hle 1 (by omega)
      rw [join_one] at hl ih
      rw [join_zero]
      have happ := fun env => app_byt (H := H) (L := []) (env := env) (n0 := H.length) hH (lid_ge H 0) RC.nil [] (txV (mg b 0)) 0 (strU (txV (mg b 0))) true (srcEls_strU _ _) rfl (by simp only [List.length_nil]; omega)
      simp only [show ¬ ((0 : Nat) : Int) > 0 by decide, E3, Nat.reduceLeDiff, Nat.reduceSub, Nat.reduceAdd, Nat.reduceEqDiff, reduceCtorEq, ↓reduceIte]
      refine Safe.rg rfl ?_
      simp only [ref04_Text_r6, mat_idx _ b _ 0 hi, E3, Nat.reduceLeDiff, Nat.reduceSub, Nat.reduceAdd, Nat.reduceEqDiff, reduceCtorEq, ↓reduceIte]
      first | refine (ht).acall ?_ | refine (ht).dcall ?_
      try simp only [E3, Nat.reduceLeDiff, Nat.reduceSub, Nat.reduceAdd, Nat.reduceEqDiff, reduceCtorEq, ↓reduceIte]
      simp only [ES, happ, List.nil_append, E3, Nat.reduceLeDiff, Nat.reduceSub, Nat.reduceAdd, Nat.reduceEqDiff, reduceCtorEq, ↓reduceIte]
      refine Safe.rg rfl ?_
      simp only [ref04_Text_r7, hiw, E3, Nat.reduceLeDiff, Nat.reduceSub, Nat.reduceAdd, Nat.reduceEqDiff, reduceCtorEq, ↓reduceIte]
      refine Safe.keep [0, 3, 4] ?_
      simp only [E3, Nat.reduceLeDiff, Nat.reduceSub, Nat.reduceAdd, Nat.reduceEqDiff, reduceCtorEq, ↓reduceIte]
      exact ih
    | i + 1 =>
      have hl := hle (i + 2) (by omega)
      rw [join_succ] at hl ih
      generalize Lib.join (tx (i + 1) fun i => txV (mg b i)) [59, 32] = pre at *
      simp only [List.length_append, List.length_cons, List.length_nil] at hl
      have h1 := fun env => app_byt (H := H) (L := []) (env := env) (n0 := H.length) hH (lid_ge H 0) RC.nil pre [59, 32] pre.length (.sl 1 [.int .u8 59, .int .u8 32]) false (srcEls_sl _ 1 _) rfl (by simp only [List.length_cons, List.length_nil]; omega)
      have h2 := fun env => app_byt (H := H) (L := []) (env := env) (n0 := H.length) hH (lid_ge H 0) RC.nil (pre ++ [59, 32]) (txV (mg b (i + 1))) (pre.length + 2) (strU (txV (mg b (i + 1)))) true (srcEls_strU _ _) (by simp) (by simp only [List.length_append, List.length_cons, List.length_nil]; omega)
      simp only [show ((i + 1 : Nat) : Int) > 0 by omega, E3, Nat.reduceLeDiff, Nat.reduceSub, Nat.reduceAdd, Nat.reduceEqDiff, reduceCtorEq, ↓reduceIte]
      refine Safe.rg rfl ?_
      simp only [ref04_Text_r5, h1, E3, Nat.reduceLeDiff, Nat.reduceSub, Nat.reduceAdd, Nat.reduceEqDiff, reduceCtorEq, ↓reduceIte]
      refine Safe.rg rfl ?_
      simp only [ref04_Text_r6, mat_idx _ b _ (i + 1) hi, E3, Nat.reduceLeDiff, Nat.reduceSub, Nat.reduceAdd, Nat.reduceEqDiff, reduceCtorEq, ↓reduceIte]
      first | refine (ht).acall ?_ | refine (ht).dcall ?_
      try simp only [E3, Nat.reduceLeDiff, Nat.reduceSub, Nat.reduceAdd, Nat.reduceEqDiff, reduceCtorEq, ↓reduceIte]
      simp only [ES, h2, E3, Nat.reduceLeDiff, Nat.reduceSub, Nat.reduceAdd, Nat.reduceEqDiff, reduceCtorEq, ↓reduceIte]
      refine Safe.rg rfl ?_
      simp only [ref04_Text_r7, hiw, E3, Nat.reduceLeDiff, Nat.reduceSub, Nat.reduceAdd, Nat.reduceEqDiff, reduceCtorEq, ↓reduceIte]
      refine Safe.keep [0, 3, 4] ?_
      simp only [E3, Nat.reduceLeDiff, Nat.reduceSub, Nat.reduceAdd, Nat.reduceEqDiff, reduceCtorEq, ↓reduceIte]
      have hlen : List.length (pre ++ [59, 32] ++ txV (mg b (i + 1))) = pre.length + 2 + (txV (mg b (i + 1))).length := by simp only [List.length_append, List.length_cons, List.length_nil]
      rw [hlen] at ih
      exact ih
  · refine Safe.inLoop ?_
    refine Safe.rg rfl ?_
    simp only [ref04_Text_r3, Int.lt_irrefl, E3, Nat.reduceLeDiff, Nat.reduceSub, Nat.reduceAdd, Nat.reduceEqDiff, reduceCtorEq, ↓reduceIte]
    refine Safe.cd rfl ?_
    simp only [E3, Nat.reduceLeDiff, Nat.reduceSub, Nat.reduceAdd, Nat.reduceEqDiff, reduceCtorEq, ↓reduceIte]
    refine Safe.rg rfl ?_
    simp only [ref04_Text_r8, b2s_r0 _ _ rfl, E3, Nat.reduceLeDiff, Nat.reduceSub, Nat.reduceAdd, Nat.reduceEqDiff, reduceCtorEq, ↓reduceIte]
    refine Safe.rt rfl ?_
    simp only [E3, Nat.reduceLeDiff, Nat.reduceSub, Nat.reduceAdd, Nat.reduceEqDiff, reduceCtorEq, ↓reduceIte]
    exact ⟨rfl, _, rfl⟩

/-! ### Total lengths -/
def sumL (v : List ZI) : Nat := (v.map fun z => z.mag.length).sum
structure TotV (v : List ZI) : Prop where
  len : v.length ≤ 1048576
  sum : sumL v ≤ 1048576
structure TotM (b : List (List ZI)) : Prop where
  len : b.length ≤ 1048576
  cells : (b.map fun v => v.length).sum ≤ 1048576
  sum : (b.map sumL).sum ≤ 1048576
theorem map_tx {α : Type} (l : List α) (g : Nat → List UInt8) (W : List UInt8 → Nat) (B : α → Nat) (h : ∀ i (hi : i < l.length), W (g i) ≤ B l[i]) : ((tx l.length g).map W).sum ≤ (l.map B).sum := by
  suffices ∀ n, n ≤ l.length → ((tx n g).map W).sum ≤ ((l.take n).map B).sum by
    have := this l.length (Nat.le_refl _)
    rwa [List.take_length] at this
  intro n
  induction n with
  | zero => intro _; simp [tx]
  | succ n ih =>
    intro hn
    rw [tx_succ, List.take_succ_eq_append_getElem (by omega)]
    simp only [List.map_append, List.sum_append, List.map_cons, List.map_nil, List.sum_cons, List.sum_nil]
    have := ih (by omega)
    have := h n (by omega)
    omega
theorem sum_lin (v : List ZI) : (v.map fun z => 10 * z.mag.length + 3).sum = 10 * sumL v + 3 * v.length := by
  induction v with
  | nil => rfl
  | cons z v ih => simp only [List.map_cons, List.sum_cons, ih, sumL, List.length_cons]; simp only [sumL] at ih; omega
theorem txV_len {k : Nat} (v : List ZI) (hv : Vok k v) : (txV v).length ≤ 10 * sumL v + 3 * v.length := by
  rw [← sum_lin]
  refine Nat.le_trans (join_len _ _ _) (map_tx v _ _ _ fun i hi => ?_)
  have h := decI_len (k := v[i].mag.length) (z := v[i].z) (by unfold ZI.z; rw [sgn_abs]; exact val_lt (hv.get hi).lim)
  rw [zg_lt hi]
  simp only [List.length_cons, List.length_nil]
  omega
theorem sum_linM (b : List (List ZI)) : (b.map fun v => 10 * sumL v + 3 * v.length + 2).sum = 10 * (b.map sumL).sum + 3 * (b.map fun v => v.length).sum + 2 * b.length := by
  induction b with
  | nil => rfl
  | cons z v ih => simp only [List.map_cons, List.sum_cons, ih, List.length_cons]; omega
theorem txM_len {k : Nat} (b : List (List ZI)) (hb : Mok k b) : (txM b).length ≤ 10 * (b.map sumL).sum + 3 * (b.map fun v => v.length).sum + 2 * b.length := by
  rw [← sum_linM]
  refine Nat.le_trans (join_len _ _ _) (map_tx b _ _ _ fun i hi => ?_)
  have := txV_len b[i] (hb.get hi)
  rw [mg_lt hi]
  simp only [List.length_cons, List.length_nil]
  omega
theorem mem_le_sum {α : Type} (f : α → Nat) : ∀ {l : List α} {x : α}, x ∈ l → f x ≤ (l.map f).sum
  | a :: l, x, h => by
    rcases List.mem_cons.1 h with e | e
    · subst e; simp
    · have := mem_le_sum f e
      simp only [List.map_cons, List.sum_cons]; omega
theorem TotM.row {b : List (List ZI)} (h : TotM b) {i : Nat} (hi : i < b.length) : sumL (mg b i) ≤ 1048576 ∧ (mg b i).length ≤ 1048576 := by
  rw [mg_lt hi]
  exact ⟨Nat.le_trans (mem_le_sum sumL (List.getElem_mem hi)) h.sum, Nat.le_trans (mem_le_sum (fun v : List ZI => v.length) (List.getElem_mem hi)) h.cells⟩
theorem TotM.txt {b : List (List ZI)} {k : Nat} (h : TotM b) (hb : Mok k b) : (txM b).length ≤ 70368744177664 := by
  have := txM_len b hb
  have := h.len; have := h.cells; have := h.sum
  omega
theorem TotM.txr {b : List (List ZI)} {k : Nat} (h : TotM b) (hb : Mok k b) (i : Nat) (hi : i < b.length) : (txV (mg b i)).length ≤ 70368744177664 := by
  have := txV_len (mg b i) (hb.row i)
  have := h.row hi
  omega
theorem TotV.txt {v : List ZI} {k : Nat} (h : TotV v) (hv : Vok k v) : (txV v).length ≤ 70368744177664 := by
  have := txV_len v hv
  have := h.len; have := h.sum
  omega

theorem mattexts_pure (b : List (List ZI)) (v : List ZI) (hb : Mok 1048576 b ∧ TotM b) (hv : Vok 1048576 v ∧ TotV v) : PureC Pr F_law04_MatTexts [matV b, vecV v] (.bool true) := by
  obtain ⟨hb, tb⟩ := hb
  obtain ⟨hv, tv⟩ := hv
  have hb' := hb.mono (show 1048576 ≤ 17592186044416 by omega)
  have hv' := hv.mono (show 1048576 ≤ 17592186044416 by omega)
  have hbs := hb.mono (show 1048576 ≤ 8796093022208 by omega)
  have hvs := hv.mono (show 1048576 ≤ 8796093022208 by omega)
  refine PureC.intro law04_MatTexts_fn law04_MatTexts_ok (Nat.le_of_ble_eq_true rfl) (.bool _) fun H hH => ?_
  refine Safe.rg rfl ?_
  simp only [law04_MatTexts_r0, E3, Nat.reduceLeDiff, Nat.reduceSub, Nat.reduceAdd, Nat.reduceEqDiff, reduceCtorEq, ↓reduceIte]
  refine Safe.rg rfl ?_
  simp only [law04_MatTexts_r1, E3, Nat.reduceLeDiff, Nat.reduceSub, Nat.reduceAdd, Nat.reduceEqDiff, reduceCtorEq, ↓reduceIte]
  first | refine (ownm_pure b hb').acall ?_ | refine (ownm_pure b hb').dcall ?_
  try simp only [E3, Nat.reduceLeDiff, Nat.reduceSub, Nat.reduceAdd, Nat.reduceEqDiff, reduceCtorEq, ↓reduceIte]
  first | refine (tmat_pure b hbs (tb.txt hb) (tb.txr hb)).acall ?_ | refine (tmat_pure b hbs (tb.txt hb) (tb.txr hb)).dcall ?_
  try simp only [E3, Nat.reduceLeDiff, Nat.reduceSub, Nat.reduceAdd, Nat.reduceEqDiff, reduceCtorEq, ↓reduceIte]
  first | refine (rtmat_pure b hbs (tb.txt hb) (tb.txr hb)).acall ?_ | refine (rtmat_pure b hbs (tb.txt hb) (tb.txr hb)).dcall ?_
  try simp only [E3, Nat.reduceLeDiff, Nat.reduceSub, Nat.reduceAdd, Nat.reduceEqDiff, reduceCtorEq, ↓reduceIte]
  simp only [seql_strU, beq_self_eq_true, E3, Nat.reduceLeDiff, Nat.reduceSub, Nat.reduceAdd, Nat.reduceEqDiff, reduceCtorEq, ↓reduceIte]
  first | refine (owns_pure v hv').acall ?_ | refine (owns_pure v hv').dcall ?_
  try simp only [E3, Nat.reduceLeDiff, Nat.reduceSub, Nat.reduceAdd, Nat.reduceEqDiff, reduceCtorEq, ↓reduceIte]
  first | refine (tvec_pure v hvs (tv.txt hv)).acall ?_ | refine (tvec_pure v hvs (tv.txt hv)).dcall ?_
  try simp only [E3, Nat.reduceLeDiff, Nat.reduceSub, Nat.reduceAdd, Nat.reduceEqDiff, reduceCtorEq, ↓reduceIte]
  first | refine (rtvec_pure v hvs (tv.txt hv)).acall ?_ | refine (rtvec_pure v hvs (tv.txt hv)).dcall ?_
  try simp only [E3, Nat.reduceLeDiff, Nat.reduceSub, Nat.reduceAdd, Nat.reduceEqDiff, reduceCtorEq, ↓reduceIte]
  simp only [seql_strU, beq_self_eq_true, E3, Nat.reduceLeDiff, Nat.reduceSub, Nat.reduceAdd, Nat.reduceEqDiff, reduceCtorEq, ↓reduceIte]
  refine Safe.rt rfl ?_
  simp only [E3, Nat.reduceLeDiff, Nat.reduceSub, Nat.reduceAdd, Nat.reduceEqDiff, reduceCtorEq, ↓reduceIte]
  first | exact ⟨rfl, _, rfl⟩ | exact ⟨_, rfl⟩ | exact ⟨trivial, _, rfl⟩

theorem digs_one : digs 1 = [49] := by rw [digs_pos (by decide)]; rw [show 1 / 10 = 0 by decide, digs_zero]; rfl
theorem alive_text : txM (unitM 2) = [49, 32, 48, 59, 32, 48, 32, 49] := by
  have h0 : decI 0 = [48] := rfl
  have h1 : decI 1 = [49] := by
    show (if (1 : Nat) = 0 then [48] else (digs 1).reverse) = _
    rw [if_neg (by decide), digs_one]; rfl
  have e : unitM 2 = [[canZ 1, canZ 0], [canZ 0, canZ 1]] := rfl
  rw [e]
  simp only [txM, txV, tx, List.length_cons, List.length_nil, List.range_succ, List.range_zero, List.map_append, List.map_cons, List.map_nil, List.nil_append, mg, zg, List.getD_cons_zero, List.getD_cons_succ, Nat.zero_add, canZ_z, h0, h1, List.cons_append]
  rfl
theorem alive_pure : PureC Pr F_law04_alive [] (.bool true) := by
  have hu := mok_unit 2 (by decide)
  have ht := tmat_pure (unitM 2) (hu.mono (by decide)) (by rw [alive_text]; decide) (fun i hi => by
    have h2 : i < 2 := by simpa [unitM, mat_length] using hi
    have hl := txV_len (mg (unitM 2) i) (hu.row i)
    have h1 : (mg (unitM 2) i).length = 2 := by rw [unitM, mg_mat h2, vec_length]
    have h3 : sumL (mg (unitM 2) i) ≤ (mg (unitM 2) i).length := by
      have : ∀ v : List ZI, (∀ z ∈ v, z.mag.length ≤ 1) → sumL v ≤ v.length := by
        intro v
        induction v with
        | nil => intro _; exact Nat.le_refl _
        | cons z v ih =>
          intro h
          have a1 := h z (by simp)
          have a2 := ih fun y hy => h y (by simp [hy])
          simp only [sumL, List.map_cons, List.sum_cons, List.length_cons] at a2 ⊢
          omega
      exact this _ fun z hz => ((hu.row i).el z hz).len
    omega)
  rw [alive_text] at ht
  have heq : binV .eql (strU [49, 32, 48, 59, 32, 48, 32, 49]) (.str ⟨#[49, 32, 48, 59, 32, 48, 32, 49]⟩) = some (.bool true) := by
    have := seql_strU [49, 32, 48, 59, 32, 48, 32, 49] [49, 32, 48, 59, 32, 48, 32, 49]
    rw [beq_self_eq_true] at this
    exact this
  refine PureC.intro law04_alive_fn law04_alive_ok (Nat.le_of_ble_eq_true rfl) (.bool _) fun H hH => ?_
  refine Safe.rg rfl ?_
  simp only [law04_alive_r0, E3, Nat.reduceLeDiff, Nat.reduceSub, Nat.reduceAdd, Nat.reduceEqDiff, reduceCtorEq, ↓reduceIte]
  refine Safe.rg rfl ?_
  simp only [law04_alive_r1, E3, Nat.reduceLeDiff, Nat.reduceSub, Nat.reduceAdd, Nat.reduceEqDiff, reduceCtorEq, ↓reduceIte]
  first | refine (munit_ok 2 (by decide)).acall ?_ | refine (munit_ok 2 (by decide)).dcall ?_
  try simp only [E3, Nat.reduceLeDiff, Nat.reduceSub, Nat.reduceAdd, Nat.reduceEqDiff, reduceCtorEq, ↓reduceIte]
  refine Safe.rg rfl ?_
  simp only [law04_alive_r2, E3, Nat.reduceLeDiff, Nat.reduceSub, Nat.reduceAdd, Nat.reduceEqDiff, reduceCtorEq, ↓reduceIte]
  first | refine (ht).acall ?_ | refine (ht).dcall ?_
  try simp only [E3, Nat.reduceLeDiff, Nat.reduceSub, Nat.reduceAdd, Nat.reduceEqDiff, reduceCtorEq, ↓reduceIte]
  simp only [heq, E3, Nat.reduceLeDiff, Nat.reduceSub, Nat.reduceAdd, Nat.reduceEqDiff, reduceCtorEq, ↓reduceIte]
  refine Safe.rt rfl ?_
  simp only [E3, Nat.reduceLeDiff, Nat.reduceSub, Nat.reduceAdd, Nat.reduceEqDiff, reduceCtorEq, ↓reduceIte]
  first | exact ⟨rfl, _, rfl⟩ | exact ⟨_, rfl⟩ | exact ⟨trivial, _, rfl⟩

end Go.Abs

/- The pure operations do in the model what they say. -/
import Derived.Test.YtmbjamifiadncaaDoorA2
set_option linter.unusedVariables false
set_option linter.unusedSimpArgs false
namespace Go.Abs

section
variable {P : Program} {E : Emb} {env : Env} {tmps : Array Value}

theorem lt_of_live' {α : Type} {l : List α} {i : Nat} {x : α} (h : l[i]? = some x) : i < l.length := by
  rcases Nat.lt_or_ge i l.length with h' | h'
  · exact h'
  · simp [List.getElem?_eq_none h'] at h

theorem hrow_some {H : Heap} {id : Nat} {b : Blk} (h : hrow H id = some b) : H[id]? = some (some b) := by
  unfold hrow at h
  cases hx : H[id]? with
  | none => simp [hx] at h
  | some x => simp [hx] at h; simp [h]

theorem at_sound (hok : HOk E) {v : Value} {p : AV} (hr : Rep E v p) {cs : List AV} (h : atV E.H p = some cs) :
    ∃ (b o : Nat) (vs : List Value), v = .pointer (some ⟨b, o, none⟩) ∧ vs.length = cs.length ∧ (∀ (k : Nat) u, vs[k]? = some u → E.w.cell? ⟨b, o + k, none⟩ = some u ∧ u.oneCell' = true) ∧
      ∀ (k : Nat) u a, vs[k]? = some u → cs[k]? = some a → Rep E u a := by
  cases hr with
  | ro x off b o vs hb hpos hcl hlen hcell hrep =>
    simp [atV] at h; subst h
    refine ⟨b, o + off, vs.drop off, rfl, by simp [hlen], fun k u hk => ?_, fun k u a hk ha => ?_⟩
    · have := hcell (off + k) u (by simpa using hk)
      rwa [← Nat.add_assoc] at this
    · exact hrep (off + k) u a (by simpa using hk) (by simpa using ha)
  | loc blk id i off bn hlive hbn =>
    simp only [atV, Option.bind_eq_some_iff] at h
    obtain ⟨blk', hb', h⟩ := h
    have hb2 := hrow_some hb'
    rw [hlive] at hb2; cases hb2
    split at h
    · rename_i hi
      cases h
      obtain ⟨c, e, r⟩ := hok.row id blk bn hlive hbn
      have hw := hok.wids id blk hlive
      have hcl : (blk.xs.getD i .top).cells.length = blk.wd := hw _ (getD_mem hi)
      have hfl : blk.flat.length = blk.xs.length * blk.wd := flat_len hw
      have hmul : (i + 1) * blk.wd ≤ blk.xs.length * blk.wd := Nat.mul_le_mul_right _ hi
      have hmul' : (i + 1) * blk.wd = i * blk.wd + blk.wd := by rw [Nat.add_mul]; omega
      refine ⟨bn, i * blk.wd + off, (c.toList.drop (i * blk.wd + off)).take (blk.wd - off), rfl, ?_, ?_, ?_⟩
      · have := r.fits
        rw [hfl] at this
        rw [List.length_take, List.length_drop, List.length_drop, hcl, Array.length_toList]; omega
      · intro k u hk
        rw [List.getElem?_take] at hk
        split at hk
        · rename_i hk'
          simp at hk
          refine ⟨?_, r.one (i * blk.wd + off + k) u (by omega) hk⟩
          rw [cell_of_row _ _ _ _ _ _ r.heap]; exact hk
        · simp at hk
      · intro k u a hk ha
        rw [List.getElem?_take] at hk
        split at hk
        · rename_i hk'
          simp at hk ha
          refine r.rep (i * blk.wd + off + k) u a hk ?_
          have := flat_get hw hi (off + k) (by omega)
          rw [← Nat.add_assoc] at this
          exact this.trans ha
        · simp at hk
    · simp at h
  | dead v a id hrf hd h1 =>
    cases p <;> simp [AV.ref] at hrf
    · simp [atV] at h
    · subst hrf
      simp [atV, hrow, hd] at h
  | _ => simp [atV] at h

theorem load_run (t : TypeId) (d : TypeDesc) (hd : P.underlying t = some d) (w : World) (b o : Nat) (v : Value) :
    (isAggD d = false → w.cell? ⟨b, o, none⟩ = some v → (Instr.loadAt t (.pointer (some ⟨b, o, none⟩))).run P w = .ok v w) ∧
    (isAggD d = true → ∀ n (vs : List Value), sizeD P t = some n → vs.length = n → (∀ (k : Nat) u, vs[k]? = some u → w.cell? ⟨b, o + k, none⟩ = some u) →
      (Instr.loadAt t (.pointer (some ⟨b, o, none⟩))).run P w = .ok (.agg vs.toArray) w) := by
  constructor
  · intro ha hc
    have : (isAgg t).run P w = .ok false w := by
      simp only [isAgg, Sem.run_bind, run_underlying hd, Result.andThen_ok]
      cases d <;> simp [isAggD] at ha <;> rfl
    simp [Instr.loadAt, Instr.sureAddr, loadVar, this, hc]
  · intro ha n vs hs hl hc
    have : (isAgg t).run P w = .ok true w := by
      simp only [isAgg, Sem.run_bind, run_underlying hd, Result.andThen_ok]
      cases d <;> simp [isAggD] at ha <;> rfl
    unfold sizeD at hs
    simp only [Option.map_eq_some_iff] at hs
    obtain ⟨i, hi, rfl⟩ := hs
    have hlc := run_loadCells_list (P := P) w ⟨b, o, none⟩ vs (fun j v hj => by rw [Addr.add_lit]; exact hc j v hj)
    rw [hl] at hlc
    simp [Instr.loadAt, Instr.sureAddr, loadVar, this, sizeOf, typeInfo, hi, hlc]

theorem load_sound (hok : HOk E) {t : TypeId} {x : Value} {p a : AV} (hr : Rep E x p) {n : Option Nat} {d : TypeDesc} (hd : P.underlying t = some d)
    (hn : (n = none ∧ isAggD d = false) ∨ (∃ m, n = some m ∧ isAggD d = true ∧ sizeD P t = some m)) (h : loadV E.H n p = some a) :
    ∃ v, (Instr.loadAt t x).run P E.w = .ok v E.w ∧ Rep E v a := by
  simp only [loadV, Option.bind_eq_some_iff] at h
  obtain ⟨cs, hat, h⟩ := h
  obtain ⟨b, o, vs, rfl, hlen, hcell, hrep⟩ := at_sound hok hr hat
  rcases hn with ⟨rfl, hag⟩ | ⟨m, rfl, hag, hsz⟩
  · simp only at h
    have h0 : 0 < cs.length := by
      rcases Nat.lt_or_ge 0 cs.length with h' | h'
      · exact h'
      · simp [List.getElem?_eq_none h'] at h
    refine ⟨vs[0]'(by omega), (load_run t d hd E.w b o _).1 hag (by simpa using (hcell 0 _ (List.getElem?_eq_getElem (by omega))).1), hrep 0 _ _ (List.getElem?_eq_getElem (by omega)) h⟩
  · simp only at h
    split at h
    · rename_i hle
      cases h
      refine ⟨.agg (vs.take m).toArray, (load_run t d hd E.w b o .nilFunc).2 hag m _ hsz (by simp; omega) (fun k u hk => ?_), .agg _ _ (by simp [hlen]) ?_ ?_⟩
      · rw [List.getElem?_take] at hk
        split at hk
        · exact (hcell k u hk).1
        · simp at hk
      · intro u hu
        obtain ⟨k, hk, rfl⟩ := List.getElem_of_mem (List.mem_of_mem_take hu)
        exact (hcell k _ (List.getElem?_eq_getElem hk)).2
      · intro k u a hk ha
        rw [List.getElem?_take] at hk ha
        split at hk
        · rename_i hk'
          simp only [hk', if_true] at ha
          exact hrep k u a hk ha
        · simp at hk
    · simp at h

theorem idx_sound (hok : HOk E) {t e : TypeId} {x i : Value} {a ia r : AV} (hx : Rep E x a) (hi : Rep E i ia) {wd : Nat} (ht : P.underlying t = some (.slice e)) (hwd : sizeD P e = some wd)
    (h : idxV E.H wd a ia = some r) : ∃ v, (Instr.indexAt t x i).run P E.w = .ok v E.w ∧ Rep E v r := by
  unfold sizeD at hwd
  simp only [Option.map_eq_some_iff] at hwd
  obtain ⟨inf, hinf, rfl⟩ := hwd
  unfold idxV at h
  cases hi with
  | int k n =>
    simp only at h
    cases hx with
    | sl base cap wd xs vs b o hcap hpos hw hcl hbase hlen hcell hrep =>
      simp only at h
      split at h
      · rename_i hc
        obtain ⟨rfl, h0, h1⟩ := hc
        cases h
        obtain ⟨m, rfl⟩ := Int.eq_ofNat_of_zero_le h0
        have hm : m < xs.length := by omega
        have hne : xs ≠ [] := by rintro rfl; simp at hm
        obtain ⟨rfl, hmut⟩ := hbase.resolve_left hne
        have hcl' := hw _ (getD_mem hm)
        have hfl : (xs.flatMap AV.cells).length = xs.length * inf.size := flat_len hw
        have hmul : (m + 1) * inf.size ≤ xs.length * inf.size := Nat.mul_le_mul_right _ hm
        have hmul' : (m + 1) * inf.size = m * inf.size + inf.size := by rw [Nat.add_mul]; omega
        refine ⟨.pointer (some ⟨b, o + m * inf.size, none⟩), ?_, ?_⟩
        · simp [Instr.indexAt, asIntOf, run_underlying ht, hm, sizeOf, typeInfo, hinf, Addr.add_lit]
        · have := Rep.ro (E := E) (xs.getD m .top) 0 b (o + m * inf.size) ((vs.drop (m * inf.size)).take inf.size) hmut (by omega)
            (fun c hc => hcl c (List.mem_flatMap.2 ⟨_, getD_mem hm, hc⟩)) (by rw [List.length_take, List.length_drop, hlen, hfl, hcl']; omega)
            (fun k u hk => by
              rw [List.getElem?_take] at hk
              split at hk
              · simp at hk
                have := hcell _ u hk
                rwa [← Nat.add_assoc] at this
              · simp at hk)
            (fun k u a hk ha => by
              rw [List.getElem?_take] at hk
              split at hk
              · rename_i hk'
                simp at hk
                exact hrep _ u a hk ((flat_get hw hm k hk').trans ha)
              · simp at hk)
          simpa using this
      · simp at h
    | mu blk id off len oc bn q cap hlive hbn hq hlen hsz hoc =>
      simp only [Option.bind_eq_some_iff] at h
      obtain ⟨blk', hb', h⟩ := h
      have hb2 := hrow_some hb'
      rw [hlive] at hb2; cases hb2
      split at h
      · rename_i hc
        obtain ⟨hwd, h0, h1⟩ := hc
        cases h
        obtain ⟨m, rfl⟩ := Int.eq_ofNat_of_zero_le h0
        have hm : m < len := by omega
        have hq' : q = off * blk.wd := hq.resolve_right (by omega)
        refine ⟨.pointer (some ⟨bn, (off + m) * blk.wd + 0, none⟩), ?_, ?_⟩
        · have e : off * blk.wd + m * blk.wd = (off + m) * blk.wd := by rw [Nat.add_mul]
          simp [Instr.indexAt, asIntOf, run_underlying ht, hm, sizeOf, typeInfo, hinf, Addr.add_lit, hq', ← hwd, e]
        · exact .loc blk id (off + m) 0 bn hlive hbn
      · simp at h
    | mu0 blk id off oc hlive hbn hoc =>
      simp only [Option.bind_eq_some_iff] at h
      obtain ⟨blk', hb', h⟩ := h
      split at h
      · rename_i hc; omega
      · simp at h
    | dead v a id hrf hd h1 =>
      cases a <;> simp [AV.ref] at hrf
      · subst hrf
        simp [hrow, hd] at h
      · simp at h
    | _ => simp at h
  | dead v ia id hrf hd h1 =>
    cases ia <;> simp [AV.ref] at hrf <;> simp at h
  | _ => simp at h

theorem bound_sound {xv : Option Value} {xa : Option AV} (hr : (xv = none ∧ xa = none) ∨ ∃ v a, xv = some v ∧ xa = some a ∧ Rep E v a) {d i : Int} (h : boundV d xa = some i) :
    (xv = none ∧ xa = none ∧ i = d) ∨ ∃ k, xv = some (.int k i) ∧ xa = some (.int k i) := by
  rcases hr with ⟨rfl, rfl⟩ | ⟨v, a, rfl, rfl, hr⟩
  · simp [boundV] at h; exact .inl ⟨rfl, rfl, h.symm⟩
  · cases hr with
    | int k n => simp [boundV] at h; subst h; exact .inr ⟨k, rfl, rfl⟩
    | dead v a id hrf hd h1 => cases a <;> simp [AV.ref] at hrf <;> simp [boundV] at h
    | _ => simp [boundV] at h

theorem run_bounds (w : World) (len cap : Nat) (lo hi mx : Option Value) (l h m : Nat)
    (hlo : (lo = none ∧ l = 0) ∨ ∃ k, lo = some (.int k (l : Int))) (hhi : (hi = none ∧ h = len ∧ mx = none) ∨ ∃ k, hi = some (.int k (h : Int)))
    (hmx : (mx = none ∧ m = cap) ∨ ∃ k, mx = some (.int k (m : Int))) (h1 : l ≤ h) (h2 : h ≤ m) (h3 : m ≤ cap) (b : Bool) :
    (Instr.sliceBounds b len cap lo hi mx).run P w = .ok (l, h, m) w := by
  rcases hmx with ⟨rfl, rfl⟩ | ⟨k3, rfl⟩ <;> rcases hhi with ⟨rfl, rfl, hn⟩ | ⟨k2, rfl⟩ <;> rcases hlo with ⟨rfl, rfl⟩ | ⟨k1, rfl⟩ <;>
    first
      | (simp at hn; done)
      | simp [Instr.sliceBounds, Instr.sliceBound, asIntOf, h1, h2, h3]

theorem slc_sound (hok : HOk E) {t e : TypeId} {x : Value} {a r : AV} (hx : Rep E x a) {wd : Nat} (ht : P.underlying t = some (.slice e)) (hwd : sizeD P e = some wd)
    {lo hi mx : Option Value} {la ha ma : Option AV}
    (hlo : (lo = none ∧ la = none) ∨ ∃ v a, lo = some v ∧ la = some a ∧ Rep E v a) (hhi : (hi = none ∧ ha = none) ∨ ∃ v a, hi = some v ∧ ha = some a ∧ Rep E v a)
    (hmx : (mx = none ∧ ma = none) ∨ ∃ v a, mx = some v ∧ ma = some a ∧ Rep E v a)
    (h : slcV E.H wd a la ha ma = some r) : ∃ v, (Instr.sliceAt t x lo hi mx).run P E.w = .ok v E.w ∧ Rep E v r := by
  unfold sizeD at hwd
  simp only [Option.map_eq_some_iff] at hwd
  obtain ⟨inf, hinf, rfl⟩ := hwd
  -- the bounds, as numbers
  have key : ∀ (len cap l hh m : Nat) (base : Option Addr), x = .slice base len cap → ((lo = none ∧ l = 0) ∨ ∃ k, lo = some (.int k (l : Int))) → ((hi = none ∧ hh = len ∧ mx = none) ∨ ∃ k, hi = some (.int k (hh : Int))) →
      ((mx = none ∧ m = cap) ∨ ∃ k, mx = some (.int k (m : Int))) → l ≤ hh → hh ≤ m → m ≤ cap →
      (Instr.sliceAt t x lo hi mx).run P E.w = .ok (.slice (if m = l then base else base.map (·.add (l * inf.size))) (hh - l) (m - l)) E.w := by
    intro len cap l hh m base hxe h1 h2 h3 h4 h5 h6
    subst hxe
    have hb := run_bounds (P := P) E.w len cap lo hi mx l hh m h1 h2 h3 h4 h5 h6 true
    simp [Instr.sliceAt, Instr.slice, run_underlying ht, hb, sizeOf, typeInfo, hinf]
  cases hx with
  | sl base cap wd xs vs b o hcap hpos hw hcl hbase hlen hcell hrep =>
    simp only [slcV, Option.bind_eq_some_iff] at h
    obtain ⟨l, hl, hh, hhh, h⟩ := h
    have hl' := bound_sound hlo hl
    have hh' := bound_sound hhi hhh
    have main : ∀ (m : Int), wd = inf.size → 0 ≤ l → l ≤ hh → hh ≤ m → m ≤ cap → hh ≤ xs.length → ((mx = none ∧ m = cap) ∨ ∃ k, mx = some (.int k m)) → (mx = none ∨ ∃ k, hi = some (.int k hh)) →
        ∃ v, (Instr.sliceAt t (.slice base xs.length cap) lo hi mx).run P E.w = .ok v E.w ∧ Rep E v (.sl inf.size ((xs.drop l.toNat).take (hh.toNat - l.toNat))) := by
      intro m hwd h0 h1 h2 h3 h4 hm1 hm2
      obtain ⟨l, rfl⟩ := Int.eq_ofNat_of_zero_le h0
      obtain ⟨hh, rfl⟩ := Int.eq_ofNat_of_zero_le (show 0 ≤ hh by omega)
      obtain ⟨m, rfl⟩ := Int.eq_ofNat_of_zero_le (show 0 ≤ m by omega)
      subst hwd
      refine ⟨_, key xs.length cap l hh m base rfl ?_ ?_ ?_ (by omega) (by omega) (by omega), ?_⟩
      · rcases hl' with ⟨h, _, h'⟩ | ⟨k, h, _⟩
        · exact .inl ⟨h, by omega⟩
        · exact .inr ⟨k, h⟩
      · rcases hh' with ⟨h, _, h'⟩ | ⟨k, h, _⟩
        · rcases hm2 with hm2 | ⟨k, hm2⟩
          · exact .inl ⟨h, by omega, hm2⟩
          · rw [h] at hm2; simp at hm2
        · exact .inr ⟨k, h⟩
      · rcases hm1 with ⟨h, h'⟩ | ⟨k, h⟩
        · exact .inl ⟨h, by omega⟩
        · exact .inr ⟨k, h⟩
      · simp only [Int.toNat_natCast]
        have hl : ((xs.drop l).take (hh - l)).length = hh - l := by simp; omega
        have hw' : ∀ x ∈ (xs.drop l).take (hh - l), x.cells.length = inf.size := fun x hx => hw x (List.mem_of_mem_drop (List.mem_of_mem_take hx))
        have hfl : ((xs.drop l).take (hh - l)).flatMap AV.cells = ((xs.flatMap AV.cells).drop (l * inf.size)).take ((hh - l) * inf.size) := by
          rw [flat_take (wd := inf.size) (fun x hx => hw x (List.mem_of_mem_drop hx)), flat_drop hw]
        have hR := Rep.sl (E := E) (if m = l then base else base.map (·.add (l * inf.size))) (m - l) inf.size ((xs.drop l).take (hh - l)) ((vs.drop (l * inf.size)).take ((hh - l) * inf.size)) b (o + l * inf.size)
          (by omega) hpos hw' (fun c hc => by rw [hfl] at hc; exact hcl c (List.mem_of_mem_drop (List.mem_of_mem_take hc)))
          (by
            by_cases he : hh = l
            · left; subst he; simp
            · right
              have hne : xs ≠ [] := by rintro rfl; simp at h4; omega
              obtain ⟨rfl, hm⟩ := hbase.resolve_left hne
              refine ⟨?_, hm⟩
              rw [if_neg (by omega)]
              simp [Addr.add_lit])
          (by rw [hfl]; simp [hlen])
          (fun k u hk => by
            rw [List.getElem?_take] at hk
            split at hk
            · simp at hk
              have := hcell _ u hk
              rwa [← Nat.add_assoc] at this
            · simp at hk)
          (fun k u a hk ha => by
            rw [hfl] at ha
            rw [List.getElem?_take] at hk ha
            split at hk
            · rename_i hk'
              simp only [hk', if_true] at ha
              simp at hk ha
              exact hrep _ u a hk ha
            · simp at hk)
        rw [hl] at hR
        exact hR
    cases hma : ma with
    | none =>
      rw [hma] at h
      simp only at h
      split at h
      · rename_i hc
        cases h
        obtain ⟨h1, h2, h3, h4⟩ := hc
        have hmn : mx = none := by
          rcases hmx with ⟨h, _⟩ | ⟨_, _, _, h, _⟩
          · exact h
          · rw [hma] at h; simp at h
        exact main cap h1 h2 h3 (by omega) (by omega) h4 (.inl ⟨hmn, rfl⟩) (.inl hmn)
      · simp at h
    | some ma' =>
      rw [hma] at h hmx
      rcases hmx with ⟨_, h'⟩ | ⟨mv, mav, hmv, hmav, hmr⟩
      · simp at h'
      · cases hmav
        cases hmr with
        | int k m =>
          simp only at h
          split at h
          · rename_i hc
            cases h
            obtain ⟨h1, h1', h2, h3, h4, h5⟩ := hc
            refine main m h1 h2 h3 h4 (by omega) (by omega) (.inr ⟨k, hmv⟩) ?_
            rcases hh' with ⟨_, h, _⟩ | ⟨k, h, _⟩
            · rw [h] at h1'; simp at h1'
            · exact .inr ⟨k, h⟩
          · simp at h
        | dead v a id hrf hd h1 => cases ma' <;> simp [AV.ref] at hrf <;> simp at h
        | _ => simp at h
  | mu blk id off len oc bn q cap hlive hbn hq hlen hsz hoc =>
    simp only [slcV, Option.bind_eq_some_iff] at h
    obtain ⟨blk', hb', l, hl, hh, hhh, h⟩ := h
    have hb2 := hrow_some hb'
    rw [hlive] at hb2; cases hb2
    have hl' := bound_sound hlo hl
    have hh' := bound_sound hhi hhh
    have main : ∀ (m : Int) (oc' : Option Nat), blk.wd = inf.size → 0 ≤ l → l ≤ hh → hh ≤ m → m ≤ cap → hh ≤ len → ((mx = none ∧ m = cap) ∨ ∃ k, mx = some (.int k m)) → (mx = none ∨ ∃ k, hi = some (.int k hh)) →
        (∀ c, oc' = some c → m.toNat - l.toNat = c) →
        ∃ v, (Instr.sliceAt t (.slice (some ⟨bn, q, none⟩) len cap) lo hi mx).run P E.w = .ok v E.w ∧ Rep E v (.mu id (off + l.toNat) (hh.toNat - l.toNat) oc') := by
      intro m oc' hwd h0 h1 h2 h3 h4 hm1 hm2 hoc'
      obtain ⟨l, rfl⟩ := Int.eq_ofNat_of_zero_le h0
      obtain ⟨hh, rfl⟩ := Int.eq_ofNat_of_zero_le (show 0 ≤ hh by omega)
      obtain ⟨m, rfl⟩ := Int.eq_ofNat_of_zero_le (show 0 ≤ m by omega)
      refine ⟨_, key len cap l hh m _ rfl ?_ ?_ ?_ (by omega) (by omega) (by omega), ?_⟩
      · rcases hl' with ⟨h, _, h'⟩ | ⟨k, h, _⟩
        · exact .inl ⟨h, by omega⟩
        · exact .inr ⟨k, h⟩
      · rcases hh' with ⟨h, _, h'⟩ | ⟨k, h, _⟩
        · rcases hm2 with hm2 | ⟨k, hm2⟩
          · exact .inl ⟨h, by omega, hm2⟩
          · rw [h] at hm2; simp at hm2
        · exact .inr ⟨k, h⟩
      · rcases hm1 with ⟨h, h'⟩ | ⟨k, h⟩
        · exact .inl ⟨h, by omega⟩
        · exact .inr ⟨k, h⟩
      · simp only [Int.toNat_natCast] at hoc' ⊢
        have hmul : (off + l + (m - l)) * blk.wd ≤ (off + cap) * blk.wd := Nat.mul_le_mul_right _ (by omega)
        by_cases hml : m = l
        · rw [if_pos hml]
          exact .mu blk id (off + l) (hh - l) oc' bn q (m - l) hlive hbn (.inr ⟨by omega, by omega⟩) (by omega) (by omega) hoc'
        · rw [if_neg hml]
          have hq' : q = off * blk.wd := hq.resolve_right (by omega)
          have e : (some (⟨bn, q, none⟩ : Addr)).map (·.add (l * inf.size)) = some ⟨bn, (off + l) * blk.wd, none⟩ := by
            simp [Addr.add_lit, hq', ← hwd, Nat.add_mul]
          rw [e]
          exact .mu blk id (off + l) (hh - l) oc' bn _ (m - l) hlive hbn (.inl rfl) (by omega) (by omega) hoc'
    cases hma : ma with
    | none =>
      rw [hma] at h
      simp only at h
      split at h
      · rename_i hc
        cases h
        obtain ⟨h1, h2, h3, h4⟩ := hc
        have hmn : mx = none := by
          rcases hmx with ⟨h, _⟩ | ⟨_, _, _, h, _⟩
          · exact h
          · rw [hma] at h; simp at h
        refine main cap _ h1 h2 h3 (by omega) (by omega) h4 (.inl ⟨hmn, rfl⟩) (.inl hmn) ?_
        intro c hc
        simp only [Option.map_eq_some_iff] at hc
        obtain ⟨c', hc', rfl⟩ := hc
        have := hoc c' hc'
        omega
      · simp at h
    | some ma' =>
      rw [hma] at h hmx
      rcases hmx with ⟨_, h'⟩ | ⟨mv, mav, hmv, hmav, hmr⟩
      · simp at h'
      · cases hmav
        cases hmr with
        | int k m =>
          simp only at h
          split at h
          · rename_i hc
            cases h
            obtain ⟨h1, h1', h2, h3, h4, h5⟩ := hc
            refine main m _ h1 h2 h3 h4 (by omega) (by omega) (.inr ⟨k, hmv⟩) ?_ (fun c hc => by cases hc; rfl)
            rcases hh' with ⟨_, h, _⟩ | ⟨k, h, _⟩
            · rw [h] at h1'; simp at h1'
            · exact .inr ⟨k, h⟩
          · simp at h
        | dead v a id hrf hd h1 => cases ma' <;> simp [AV.ref] at hrf <;> simp at h
        | _ => simp at h
  | mu0 blk id off oc hlive hbn hoc =>
    simp only [slcV, Option.bind_eq_some_iff] at h
    obtain ⟨blk', hb', l, hl, hh, hhh, h⟩ := h
    have hb2 := hrow_some hb'
    rw [hlive] at hb2; cases hb2
    have hl' := bound_sound hlo hl
    have hh' := bound_sound hhi hhh
    have main : ∀ (m : Int) (oc' : Option Nat), 0 ≤ l → l ≤ hh → hh ≤ m → m ≤ (0 : Nat) → ((mx = none ∧ m = (0 : Nat)) ∨ ∃ k, mx = some (.int k m)) → (mx = none ∨ ∃ k, hi = some (.int k hh)) → (∀ c, oc' = some c → 0 = c) →
        ∃ v, (Instr.sliceAt t (.slice none 0 0) lo hi mx).run P E.w = .ok v E.w ∧ Rep E v (.mu id (off + l.toNat) (hh.toNat - l.toNat) oc') := by
      intro m oc' h0 h1 h2 h3 hm1 hm2 hoc'
      obtain rfl : l = (0 : Nat) := by omega
      obtain rfl : hh = (0 : Nat) := by omega
      obtain rfl : m = (0 : Nat) := by omega
      refine ⟨_, key 0 0 0 0 0 none rfl ?_ ?_ ?_ (by omega) (by omega) (by omega), ?_⟩
      · rcases hl' with ⟨h, _, h'⟩ | ⟨k, h, _⟩
        · exact .inl ⟨h, rfl⟩
        · exact .inr ⟨k, h⟩
      · rcases hh' with ⟨h, _, h'⟩ | ⟨k, h, _⟩
        · rcases hm2 with hm2 | ⟨k, hm2⟩
          · exact .inl ⟨h, rfl, hm2⟩
          · rw [h] at hm2; simp at hm2
        · exact .inr ⟨k, h⟩
      · rcases hm1 with ⟨h, h'⟩ | ⟨k, h⟩
        · exact .inl ⟨h, rfl⟩
        · exact .inr ⟨k, h⟩
      · exact .mu0 blk id _ oc' hlive hbn hoc'
    cases hma : ma with
    | none =>
      rw [hma] at h
      simp only at h
      split at h
      · rename_i hc
        cases h
        obtain ⟨h1, h2, h3, h4⟩ := hc
        have hmn : mx = none := by
          rcases hmx with ⟨h, _⟩ | ⟨_, _, _, h, _⟩
          · exact h
          · rw [hma] at h; simp at h
        refine main (0 : Nat) _ h2 h3 (by omega) (by omega) (.inl ⟨hmn, rfl⟩) (.inl hmn) ?_
        intro c hc
        simp only [Option.map_eq_some_iff] at hc
        obtain ⟨c', hc', rfl⟩ := hc
        have := hoc c' hc'
        omega
      · simp at h
    | some ma' =>
      rw [hma] at h hmx
      rcases hmx with ⟨_, h'⟩ | ⟨mv, mav, hmv, hmav, hmr⟩
      · simp at h'
      · cases hmav
        cases hmr with
        | int k m =>
          simp only at h
          split at h
          · rename_i hc
            cases h
            obtain ⟨h1, h1', h2, h3, h4, h5⟩ := hc
            refine main m _ h2 h3 h4 (by omega) (.inr ⟨k, hmv⟩) ?_ (fun c hc => by cases hc; omega)
            rcases hh' with ⟨_, h, _⟩ | ⟨k, h, _⟩
            · rw [h] at h1'; simp at h1'
            · exact .inr ⟨k, h⟩
          · simp at h
        | dead v a id hrf hd h1 => cases ma' <;> simp [AV.ref] at hrf <;> simp at h
        | _ => simp at h
  | dead v a id hrf hd h1 =>
    cases a <;> simp [AV.ref] at hrf
    · subst hrf
      simp [slcV, hrow, hd] at h
    · simp [slcV] at h
  | _ => simp [slcV] at h

theorem slcs_sound {t : TypeId} {x : Value} {a r : AV} (hx : Rep E x a) (ht : P.underlying t = some .string)
    {lo hi : Option Value} {la ha : Option AV}
    (hlo : (lo = none ∧ la = none) ∨ ∃ v a, lo = some v ∧ la = some a ∧ Rep E v a) (hhi : (hi = none ∧ ha = none) ∨ ∃ v a, hi = some v ∧ ha = some a ∧ Rep E v a)
    (h : slcS a la ha = some r) : ∃ v, (Instr.sliceAt t x lo hi none).run P E.w = .ok v E.w ∧ Rep E v r := by
  cases hx with
  | str s =>
    simp only [slcS, Option.bind_eq_some_iff] at h
    obtain ⟨l, hl, hh, hhh, h⟩ := h
    have hl' := bound_sound hlo hl
    have hh' := bound_sound hhi hhh
    split at h
    · rename_i hc
      cases h
      obtain ⟨h0, h1, h2⟩ := hc
      obtain ⟨l, rfl⟩ := Int.eq_ofNat_of_zero_le h0
      obtain ⟨hh, rfl⟩ := Int.eq_ofNat_of_zero_le (show 0 ≤ hh by omega)
      have hb := run_bounds (P := P) E.w s.size s.size lo hi none l hh s.size
        (by
          rcases hl' with ⟨h, _, h'⟩ | ⟨k, h, _⟩
          · exact .inl ⟨h, by omega⟩
          · exact .inr ⟨k, h⟩)
        (by
          rcases hh' with ⟨h, _, h'⟩ | ⟨k, h, _⟩
          · exact .inl ⟨h, by omega, rfl⟩
          · exact .inr ⟨k, h⟩) (.inl ⟨rfl, rfl⟩) (by omega) (by omega) (Nat.le_refl _) false
      refine ⟨.string (s.extract l hh), by simp [Instr.sliceAt, Instr.slice, run_underlying ht, hb], ?_⟩
      simp only [Int.toNat_natCast]
      exact .str _
    · simp at h
  | dead v a id hrf hd h1 => cases a <;> simp [AV.ref] at hrf <;> simp [slcS] at h
  | _ => simp [slcS] at h

/-! ### Struct values -/
theorem foldl_splice (off : Nat) : ∀ (us : List Value) (j0 : Nat) (cs : Array Value), off + j0 + us.length ≤ cs.size →
    ((us.zipIdx j0).foldl (fun cs (p : Value × Nat) => cs.setIfInBounds (off + p.2) p.1) cs).toList = cs.toList.take (off + j0) ++ us ++ cs.toList.drop (off + j0 + us.length)
  | [], j0, cs, h => by simp
  | u :: us, j0, cs, h => by
    simp only [List.zipIdx_cons, List.foldl_cons, List.length_cons] at h ⊢
    rw [foldl_splice off us (j0 + 1) _ (by simp; omega)]
    simp only [Array.toList_setIfInBounds, List.take_set, List.drop_set]
    rw [if_pos (by omega)]
    have e1 : off + (j0 + 1) = off + j0 + 1 := by omega
    rw [e1, List.take_succ_eq_append_getElem (by simp; omega)]
    rw [List.set_append]
    simp only [List.length_take, Array.length_toList]
    rw [if_neg (by omega)]
    have e2 : off + j0 - min (off + j0) cs.size = 0 := by omega
    rw [e2]
    simp only [List.set_cons_zero, List.append_assoc, List.cons_append, List.nil_append, List.singleton_append]
    rw [show off + j0 + 1 + us.length = off + j0 + (us.length + 1) by omega]

theorem splice_rep {cs : List AV} {zs : List Value} (hl : zs.length = cs.length) (h1 : ∀ v ∈ zs, v.oneCell' = true)
    (hr : ∀ (k : Nat) u a, zs[k]? = some u → cs[k]? = some a → Rep E u a) {us : List Value} {as : List AV} (hul : us.length = as.length) (hu1 : ∀ u ∈ us, u.oneCell' = true)
    (hur : ∀ (k : Nat) u a, us[k]? = some u → as[k]? = some a → Rep E u a) (off : Nat) (hfit : off + as.length ≤ cs.length) :
    (zs.take off ++ us ++ zs.drop (off + us.length)).length = (splice cs off as).length ∧ (∀ v ∈ zs.take off ++ us ++ zs.drop (off + us.length), v.oneCell' = true) ∧
    ∀ (k : Nat) u a, (zs.take off ++ us ++ zs.drop (off + us.length))[k]? = some u → (splice cs off as)[k]? = some a → Rep E u a := by
  refine ⟨by simp [splice]; omega, ?_, ?_⟩
  · intro v hv
    simp only [List.mem_append] at hv
    rcases hv with (hv | hv) | hv
    · exact h1 v (List.mem_of_mem_take hv)
    · exact hu1 v hv
    · exact h1 v (List.mem_of_mem_drop hv)
  · intro k u a hk ha
    unfold splice at ha
    rw [List.append_assoc] at hk ha
    rcases Nat.lt_or_ge k off with h | h
    · rw [List.getElem?_append_left (by simp; omega)] at hk ha
      rw [List.getElem?_take] at hk ha
      simp only [h, if_true] at hk ha
      exact hr k u a hk ha
    · rw [List.getElem?_append_right (by simp; omega)] at hk ha
      have t1 : (zs.take off).length = off := by simp; omega
      have t2 : (cs.take off).length = off := by simp; omega
      rw [t1] at hk
      rw [t2] at ha
      rcases Nat.lt_or_ge (k - off) us.length with h' | h'
      · rw [List.getElem?_append_left h'] at hk
        rw [List.getElem?_append_left (by omega)] at ha
        exact hur _ u a hk ha
      · rw [List.getElem?_append_right h'] at hk
        rw [List.getElem?_append_right (by omega)] at ha
        simp at hk ha
        rw [hul] at hk
        exact hr _ u a hk ha

theorem fill_sound (he : RepEnv E env tmps) (fs : Array Field) (places : Array (Nat × Nat)) (hpl : ∀ (i : Nat) f, fs[i]? = some f → ∀ n, sizeD P f.type = some n → places[i]? = some (f.offset, n)) :
    ∀ (parts : List (Nat × Operand)) (ps : List (Nat × Nat × Src)) (zs : Array Value) (cs out : List AV), partsOf P fs parts = some ps → bldV env cs ps = some out →
      zs.toList.length = cs.length → (∀ v ∈ zs.toList, v.oneCell' = true) → (∀ (k : Nat) u a, zs.toList[k]? = some u → cs[k]? = some a → Rep E u a) →
      ∃ us : Array Value, Instr.fill (places[·]?) zs (parts.map fun p => (p.1, Act.eval ⟨tmps, []⟩ p.2)) = some us ∧ us.toList.length = out.length ∧ (∀ v ∈ us.toList, v.oneCell' = true) ∧
        ∀ (k : Nat) u a, us.toList[k]? = some u → out[k]? = some a → Rep E u a
  | [], ps, zs, cs, out, hp, hb, hl, h1, hr => by
    simp [partsOf] at hp; subst hp
    simp [bldV] at hb; subst hb
    exact ⟨zs, rfl, hl, h1, hr⟩
  | (i, x) :: parts, ps, zs, cs, out, hp, hb, hl, h1, hr => by
    simp only [partsOf, Option.bind_eq_bind, Option.bind_eq_some_iff] at hp
    obtain ⟨f, hf, n, hn, s, hs, r, hpr, hps⟩ := hp
    cases hps
    simp only [bldV] at hb
    split at hb
    · rename_i hc
      obtain ⟨c1, c2, c3⟩ := hc
      have hrep := rep_src he hs
      obtain ⟨q1, q2, q3⟩ := rep_cells hrep c3
      have hpi := hpl i f hf n hn
      have S := splice_rep hl h1 hr q1 q2 q3 f.offset (by omega)
      have hsz : (Act.eval ⟨tmps, []⟩ x).cells.size = n := by rw [← Array.length_toList, q1, c1]
      have hfold := foldl_splice f.offset (Act.eval ⟨tmps, []⟩ x).cells.toList 0 zs (by simp at hl ⊢; omega)
      simp only [Nat.add_zero] at hfold
      have hz : ((Act.eval ⟨tmps, []⟩ x).cells.zipIdx.foldl (fun cs (p : Value × Nat) => cs.setIfInBounds (f.offset + p.2) p.1) zs) =
          ((Act.eval ⟨tmps, []⟩ x).cells.toList.zipIdx.foldl (fun cs (p : Value × Nat) => cs.setIfInBounds (f.offset + p.2) p.1) zs) := by
        rw [← Array.foldl_toList, Array.toList_zipIdx]
      obtain ⟨us, g1, g2, g3, g4⟩ := fill_sound he fs places hpl parts r ((Act.eval ⟨tmps, []⟩ x).cells.toList.zipIdx.foldl (fun cs (p : Value × Nat) => cs.setIfInBounds (f.offset + p.2) p.1) zs) (splice cs f.offset (s.ev env).cells) out hpr hb
        (by rw [hfold]; exact S.1) (by rw [hfold]; exact S.2.1) (by rw [hfold]; exact S.2.2)
      refine ⟨us, ?_, g2, g3, g4⟩
      simp only [List.map_cons, Instr.fill, hpi]
      rw [if_neg (by simp [hsz]; simp at hl; omega)]
      exact (congrArg (fun z => Instr.fill (places[·]?) z _) hz).trans g1
    · simp at hb

/-! ### All of them -/
theorem opt_sound (he : RepEnv E env tmps) {x : Option Operand} {s : Option Src} (h : srcOpt x = some s) :
    (x.map (Act.eval ⟨tmps, []⟩) = none ∧ s.map (·.ev env) = none) ∨ ∃ v a, x.map (Act.eval ⟨tmps, []⟩) = some v ∧ s.map (·.ev env) = some a ∧ Rep E v a := by
  cases x with
  | none => simp [srcOpt] at h; subst h; exact .inl ⟨rfl, rfl⟩
  | some x =>
    simp only [srcOpt, Option.map_eq_some_iff] at h
    obtain ⟨s', hs, rfl⟩ := h
    exact .inr ⟨_, _, rfl, rfl, rep_src he hs⟩

theorem rep_int_inv {v : Value} {k : IntKind} {n : Int} (h : Rep E v (.int k n)) : v = .int k n := by
  cases h with
  | int => rfl
  | dead v a id hr hd h1 => simp [AV.ref] at hr
theorem rep_bool_inv {v : Value} {b : Bool} (h : Rep E v (.bool b)) : v = .bool b := by
  cases h with
  | bool => rfl
  | dead v a id hr hd h1 => simp [AV.ref] at hr
theorem rep_str_inv {v : Value} {s : ByteArray} (h : Rep E v (.str s)) : v = .string s := by
  cases h with
  | str => rfl
  | dead v a id hr hd h1 => simp [AV.ref] at hr

theorem run_eqGuard_int (op : BinOp) (t : TypeId) (x y : Operand) (k k' : IntKind) (m n : Int) (w : World) : (eqGuard op t x y (.int k m) (.int k' n)).run P w = .ok () w := by
  unfold eqGuard; split <;> rfl
theorem run_eqGuard_str (op : BinOp) (t : TypeId) (x y : Operand) (m n : ByteArray) (w : World) : (eqGuard op t x y (.string m) (.string n)).run P w = .ok () w := by
  unfold eqGuard; split <;> rfl
theorem run_eqGuard_bool (op : BinOp) (t : TypeId) (x y : Operand) (m n : Bool) (w : World) : (eqGuard op t x y (.bool m) (.bool n)).run P w = .ok () w := by
  unfold eqGuard; split <;> rfl

theorem bin_sound {op : BinOp} {t : TypeId} {x y : Operand} {xv yv : Value} {a b r : AV} (hx : Rep E xv a) (hy : Rep E yv b) (h : binV op a b = some r) :
    ∃ v, (do eqGuard op t x y xv yv; binOp op t xv yv : Sem Value).run P E.w = .ok v E.w ∧ Rep E v r := by
  unfold binV at h
  split at h
  · rename_i k m k' n
    have := rep_int_inv hx; have := rep_int_inv hy; subst_vars
    simp only [Sem.run_bind, run_eqGuard_int, Result.andThen_ok]
    have sh : ∀ (op : BinOp), op = .shl ∨ op = .shr → shBin op k m n = some r → ∃ v, (Op.shift op k m k' n).run P E.w = .ok v E.w ∧ Rep E v r := by
      intro op hop h
      unfold shBin at h
      split at h
      · simp at h
      · rename_i hn
        rcases hop with rfl | rfl
        · cases h; exact ⟨_, by simp [Op.shift, hn], .int _ _⟩
        · cases h; exact ⟨_, by simp [Op.shift, hn], .int _ _⟩
    cases op <;> simp only at h
    case shl => exact sh .shl (.inl rfl) h
    case shr => exact sh .shr (.inr rfl) h
    all_goals
      split at h
      · rename_i hk; subst hk
        simp only [intBin] at h
        first
          | (cases h; refine ⟨.int _ _, ?_, .int _ _⟩; simp [binOp, Op.intArith, Op.intBits]; done)
          | (cases h; refine ⟨.bool _, ?_, .bool _⟩; simp [binOp, Op.intCmp]; done)
          | (split at h
             · simp at h
             · rename_i hn; cases h; refine ⟨.int _ _, ?_, .int _ _⟩; simp [binOp, Op.intDiv, hn])
          | (simp at h)
      · simp at h
  · rename_i m n
    have := rep_str_inv hx; have := rep_str_inv hy; subst_vars
    simp only [Sem.run_bind, run_eqGuard_str, Result.andThen_ok]
    cases op <;> simp only at h
    case add =>
      split at h
      · simp at h
      · rename_i hn
        cases h
        exact ⟨.string (m ++ n), by simp only [binOp, Op.stringOp]; rw [if_neg hn]; rfl, .str _⟩
    case eql => cases h; exact ⟨_, rfl, .bool _⟩
    case neq => cases h; exact ⟨_, rfl, .bool _⟩
    all_goals simp at h
  · simp at h

theorem numsOf_get : ∀ {xs : List AV} {ns : List Int}, numsOf xs = some ns → xs = ns.map (AV.int .u8 ·)
  | [], ns, h => by simp [numsOf] at h; subst h; rfl
  | x :: xs, ns, h => by
    cases x <;> first | (simp [numsOf] at h; done) | skip
    rename_i k n
    cases k <;> first | (simp [numsOf] at h; done) | skip
    rw [numsOf] at h
    simp only [Option.map_eq_some_iff] at h
    obtain ⟨ms, h1, rfl⟩ := h
    rw [numsOf_get h1]; rfl

theorem int_flat (ns : List Int) : ((ns.map (AV.int .u8 ·)).flatMap AV.cells) = ns.map (AV.int .u8 ·) := by
  induction ns with
  | nil => rfl
  | cons n ns ih => simp only [List.map_cons, List.flatMap_cons, ih, AV.cells]; rfl

theorem b2s_cells {src dst e : TypeId} (hs : P.underlying src = some (.slice e)) (he : P.underlying e = some (.int .u8)) (hd : P.underlying dst = some .string) (b o cap : Nat) (ns : List Int) (vs : List Value) (hl : vs.length = ns.length)
    (hcell : ∀ (k : Nat) v, vs[k]? = some v → E.w.cell? ⟨b, o + k, none⟩ = some v) (hrep : ∀ (k : Nat) v n, vs[k]? = some v → ns[k]? = some n → v = .int .u8 n) :
    (convert src dst (.slice (some ⟨b, o, none⟩) ns.length cap)).run P E.w = .ok (.string (strOfNums ns)) E.w := by
  refine run_convert_bytes_arg E.w src e hs he b o ns.length cap ns rfl (fun i hi => ?_) dst hd
  have h1 : vs[i]? = some vs[i] := List.getElem?_eq_getElem (by omega)
  rw [hcell i _ h1, hrep i _ ns[i] h1 (List.getElem?_eq_getElem hi)]
  simp [List.getD, List.getElem?_eq_getElem hi]

theorem b2s_sound (hok : HOk E) {src dst e : TypeId} (hs : P.underlying src = some (.slice e)) (he : P.underlying e = some (.int .u8)) (hd : P.underlying dst = some .string) {v : Value} {a r : AV} (hr : Rep E v a) (h : b2sV E.H a = some r) :
    ∃ u, (convert src dst v).run P E.w = .ok u E.w ∧ Rep E u r := by
  have emp : ∀ base cap, (convert src dst (.slice base 0 cap)).run P E.w = .ok (.string (strOfNums [])) E.w := by
    intro base cap
    cases base with
    | none => rw [run_convert_bytes_nil E.w src e hs he 0 cap dst hd]; rfl
    | some ad => rw [run_convert_bytes_string E.w src dst e _ 0 cap hs he hd, run_bytesToString E.w ad 0 cap [] (by simp [loadCells, loadCellsFrom])]; rfl
  cases hr with
  | nil => simp only [b2sV] at h; cases h; exact ⟨_, run_convert_bytes_nil E.w src e hs he 0 0 dst hd, .str _⟩
  | sl base cap wd xs vs b o hcap hpos hw hcl hbase hlen hcell hrep =>
    simp only [b2sV] at h
    split at h
    · simp only [strB, Option.map_eq_some_iff] at h
      obtain ⟨ns, h1, rfl⟩ := h
      have hx := numsOf_get h1
      subst hx
      rcases hbase with hb | ⟨hb, _⟩
      · have : ns = [] := by simpa using hb
        subst this
        exact ⟨_, emp base cap, .str _⟩
      · subst hb
        rw [int_flat] at hlen hrep
        have := b2s_cells (P := P) (E := E) hs he hd b o cap ns vs (by simpa using hlen) (fun k v hk => (hcell k v hk).1) (fun k v n hk hn => rep_int_inv (hrep k v _ hk (by simp [hn])))
        exact ⟨_, by simpa using this, .str _⟩
    · simp at h
  | mu blk id off len oc b q cap hlive hb hq hlen hsz hoc =>
    have hrw : hrow E.H id = some blk := by simp [hrow, hlive]
    simp only [b2sV, hrw, Option.bind_some] at h
    split at h
    · rename_i hc
      obtain ⟨hwd, hle⟩ := hc
      simp only [strB, Option.map_eq_some_iff] at h
      obtain ⟨ns, h1, rfl⟩ := h
      have hx := numsOf_get h1
      have hnl : ns.length = len := by
        have := congrArg List.length hx
        simp at this; omega
      rcases Nat.eq_zero_or_pos len with h0 | h0
      · subst h0
        have : ns = [] := List.length_eq_zero_iff.1 hnl
        subst this
        exact ⟨_, emp _ cap, .str _⟩
      · have hq' : q = off := by
          rcases hq with hq | ⟨hq, _⟩
          · rw [hwd] at hq; omega
          · omega
        subst hq'
        obtain ⟨c, et, r⟩ := hok.row id blk b hlive hb
        have hwid := hok.wids id blk hlive
        rw [hwd] at hwid
        have hflat : blk.flat.length = blk.xs.length := by rw [Blk.flat, flat_len hwid]; omega
        have hget : ∀ k, k < len → blk.flat[q + k]? = (ns[k]?).map (AV.int .u8 ·) := by
          intro k hk
          have h2 : (((blk.xs.drop q).take len).flatMap AV.cells)[k]? = (ns.map (AV.int .u8 ·))[k]? := by rw [hx, int_flat]
          have e1 : blk.flat = (blk.xs.take q).flatMap AV.cells ++ (((blk.xs.drop q).take len).flatMap AV.cells ++ ((blk.xs.drop q).drop len).flatMap AV.cells) := by
            rw [← List.flatMap_append, List.take_append_drop, ← List.flatMap_append, List.take_append_drop]; rfl
          have l1 : ((blk.xs.take q).flatMap AV.cells).length = q := by
            rw [flat_len (wd := 1) (fun x hx => hwid x (List.mem_of_mem_take hx)), List.length_take]; omega
          have l2 : (((blk.xs.drop q).take len).flatMap AV.cells).length = len := by
            rw [flat_len (wd := 1) (fun x hx => hwid x (List.mem_of_mem_drop (List.mem_of_mem_take hx))), List.length_take, List.length_drop]; omega
          rw [e1, List.getElem?_append_right (by omega), l1, Nat.add_sub_cancel_left, List.getElem?_append_left (by omega), h2]
          simp
        have hfit := r.fits
        have hcsz : ∀ k, k < len → q + k < c.size := fun k hk => by omega
        have := b2s_cells (P := P) (E := E) hs he hd b q cap ns ((c.toList.drop q).take len) (by simp; omega)
          (fun k v hk => by
            have hkl := lt_of_live' hk
            simp at hkl
            rw [List.getElem?_take, if_pos (by omega), List.getElem?_drop] at hk
            simp [World.cell?, r.heap]
            simpa using hk)
          (fun k v n hk hn => by
            have hkl := lt_of_live' hk
            simp at hkl
            rw [List.getElem?_take, if_pos (by omega), List.getElem?_drop] at hk
            refine rep_int_inv (r.rep (q + k) v (.int .u8 n) (by simpa using hk) ?_)
            rw [hget k (by omega), hn]; rfl)
        rw [hnl] at this
        exact ⟨_, this, .str _⟩
    · simp at h
  | mu0 blk id off oc hlive hb hoc =>
    have hrw : hrow E.H id = some blk := by simp [hrow, hlive]
    simp only [b2sV, hrw, Option.bind_some] at h
    split at h
    · simp only [List.take_zero, strB, numsOf, Option.map_some] at h
      cases h
      exact ⟨_, emp none 0, .str _⟩
    · simp at h
  | dead v a id hrf hd2 h1 =>
    cases a <;> simp [AV.ref] at hrf
    · subst hrf; simp [b2sV, hrow, hd2] at h
    · simp [b2sV] at h
  | _ => simp [b2sV] at h

theorem pv_sound {o : Oper} {po : POp} (hc : cpure P o.op = some po) (hok : HOk E) (he : RepEnv E env tmps) {a : AV} (hp : pv po env E.H = some a) :
    ∃ v, (execOp (Act.eval ⟨tmps, []⟩) o).run P E.w = .ok (.value v) E.w ∧ Rep E v a := by
  obtain ⟨dst, op, type, pos, after, guard⟩ := o
  simp only at hc
  have val : ∀ (s : Sem Value) v, s.run P E.w = .ok v E.w → (do pure (Next.value (← s)) : Sem Next).run P E.w = .ok (.value v) E.w := by
    intro s v hs; simp [hs]
  cases op with
  | move x =>
    simp only [cpure, Option.map_eq_some_iff] at hc
    obtain ⟨s, hs, rfl⟩ := hc
    simp only [pv] at hp; cases hp
    exact ⟨_, rfl, rep_src he hs⟩
  | assign x =>
    simp only [cpure, Option.map_eq_some_iff] at hc
    obtain ⟨s, hs, rfl⟩ := hc
    simp only [pv] at hp; cases hp
    exact ⟨_, rfl, rep_src he hs⟩
  | pick c x y =>
    simp only [cpure, Option.bind_eq_bind, Option.bind_eq_some_iff] at hc
    obtain ⟨sc, h1, sx, h2, sy, h3, h4⟩ := hc
    cases h4
    simp only [pv] at hp
    split at hp
    · rename_i b hb
      have := rep_src he h1
      rw [hb] at this
      have hcv := rep_bool_inv this
      cases b
      · simp at hp; subst hp
        exact ⟨_, by simp [execOp, hcv, asBool], rep_src he h3⟩
      · simp at hp; subst hp
        exact ⟨_, by simp [execOp, hcv, asBool], rep_src he h2⟩
    · simp at hp
  | binOp op xt x y yt =>
    have main : ∀ (sx sy : Src), srcOf x = some sx → srcOf y = some sy → binV op (sx.ev env) (sy.ev env) = some a →
        ∃ v, (execOp (Act.eval ⟨tmps, []⟩) ⟨dst, .binOp op xt x y yt, type, pos, after, guard⟩).run P E.w = .ok (.value v) E.w ∧ Rep E v a := by
      intro sx sy h1 h2 h
      obtain ⟨v, hv, hr⟩ := bin_sound (P := P) (t := xt) (x := x) (y := y) (rep_src he h1) (rep_src he h2) h
      exact ⟨v, val _ _ hv, hr⟩
    have bools : ∀ (neg : Bool) (sx sy : Src), (op = if neg then BinOp.neq else BinOp.eql) → P.underlying xt = some .bool → srcOf x = some sx → srcOf y = some sy → pv (.beq neg sx sy) env E.H = some a →
        ∃ v, (execOp (Act.eval ⟨tmps, []⟩) ⟨dst, .binOp op xt x y yt, type, pos, after, guard⟩).run P E.w = .ok (.value v) E.w ∧ Rep E v a := by
      intro neg sx sy hop hu h1 h2 h
      simp only [pv] at h
      split at h
      · rename_i b1 b2 e1 e2
        have r1 := rep_src he h1
        have r2 := rep_src he h2
        rw [e1] at r1
        rw [e2] at r2
        have v1 := rep_bool_inv r1
        have v2 := rep_bool_inv r2
        cases h
        refine ⟨_, val _ _ ?_, .bool _⟩
        rw [v1, v2]
        simp only [Sem.run_bind, run_eqGuard_bool, Result.andThen_ok]
        have eqr : (Op.equal xt (.bool b1) (.bool b2)).run P E.w = .ok (b1 == b2) E.w := by
          have gen : ∀ d, (Op.equalIn (d + 1) xt (.bool b1) (.bool b2)).run P E.w = .ok (b1 == b2) E.w := by
            intro d
            simp only [Op.equalIn, Sem.run_bind, run_underlying hu, Result.andThen_ok]
            rfl
          exact gen 9999
        cases neg
        · simp only [Bool.false_eq_true, if_false] at hop; subst hop
          simp [Go.binOp, eqr]
        · simp only [if_true] at hop; subst hop
          simp [Go.binOp, eqr]
      · simp at h
    cases op <;> simp only [cpure] at hc
    case eql =>
      split at hc
      · rename_i hu
        simp only [Option.bind_eq_bind, Option.bind_eq_some_iff] at hc
        obtain ⟨sx, h1, sy, h2, h3⟩ := hc
        cases h3
        exact bools false sx sy rfl hu h1 h2 hp
      · simp only [Option.bind_eq_bind, Option.bind_eq_some_iff] at hc
        obtain ⟨sx, h1, sy, h2, h3⟩ := hc
        cases h3
        exact main sx sy h1 h2 hp
    case neq =>
      split at hc
      · rename_i hu
        simp only [Option.bind_eq_bind, Option.bind_eq_some_iff] at hc
        obtain ⟨sx, h1, sy, h2, h3⟩ := hc
        cases h3
        exact bools true sx sy rfl hu h1 h2 hp
      · simp only [Option.bind_eq_bind, Option.bind_eq_some_iff] at hc
        obtain ⟨sx, h1, sy, h2, h3⟩ := hc
        cases h3
        exact main sx sy h1 h2 hp
    all_goals
      simp only [Option.bind_eq_bind, Option.bind_eq_some_iff] at hc
      obtain ⟨sx, h1, sy, h2, h3⟩ := hc
      cases h3
      exact main sx sy h1 h2 hp
  | unOp op xt x =>
    simp only [cpure, Option.bind_eq_bind, Option.bind_eq_some_iff] at hc
    obtain ⟨sx, h1, h2⟩ := hc
    cases h2
    simp only [pv] at hp
    have r1 := rep_src he h1
    split at hp
    · rename_i k n e
      rw [e] at r1
      have := rep_int_inv r1
      cases hp
      exact ⟨_, val _ _ (by rw [this]; simp [Op.unary, Op.intArith]), .int _ _⟩
    · rename_i b e
      rw [e] at r1
      have := rep_bool_inv r1
      cases hp
      exact ⟨_, val _ _ (by rw [this]; simp [Op.unary]), .bool _⟩
    · simp at hp
  | convert src d x =>
    simp only [cpure] at hc
    split at hc
    · rename_i d1 k hu1 hu2
      simp only [Option.bind_eq_bind, Option.bind_eq_some_iff] at hc
      obtain ⟨sx, h1, h2⟩ := hc
      cases h2
      simp only [pv] at hp
      have r1 := rep_src he h1
      split at hp
      · rename_i k' n e
        rw [e] at r1
        have := rep_int_inv r1
        cases hp
        refine ⟨_, val _ (.int k (k.wrap n)) ?_, .int _ _⟩
        rw [this]
        simp [convert, run_underlying hu1, run_underlying hu2, Conv.intToInt]
      · simp at hp
    · rename_i e hu1 hu2
      split at hc
      · rename_i hue
        simp only [Option.bind_eq_bind, Option.bind_eq_some_iff] at hc
        obtain ⟨sx, h1, h2⟩ := hc
        cases h2
        simp only [pv] at hp
        obtain ⟨u, q1, q2⟩ := b2s_sound hok hu1 hue hu2 (rep_src he h1) hp
        exact ⟨u, val _ _ q1, q2⟩
      · simp at hc
    · simp at hc
  | extract x i =>
    simp only [cpure, Option.bind_eq_bind, Option.bind_eq_some_iff] at hc
    obtain ⟨sx, h1, h2⟩ := hc
    cases h2
    simp only [pv] at hp
    have r1 := rep_src he h1
    split at hp
    · rename_i vs e
      rw [e] at r1
      generalize hxv : Act.eval ⟨tmps, []⟩ x = xv at r1
      cases r1 with
      | tup us cs hlen hrep =>
        have hi := lt_of_live' hp
        refine ⟨us[i]'(by omega), val _ _ ?_, hrep i _ _ (List.getElem?_eq_getElem (by omega)) hp⟩
        rw [hxv]
        simp [Instr.extract, List.getElem?_eq_getElem (show i < us.length by omega)]
      | dead v a id hr hd h1 => simp [AV.ref] at hr
    · simp at hp
  | fieldAddr s x f =>
    simp only [cpure] at hc
    split at hc
    · rename_i fs hu
      split at hc
      · rename_i fl hfl
        split at hc
        · rename_i n hn
          simp only [Option.bind_eq_bind, Option.bind_eq_some_iff] at hc
          obtain ⟨sx, h1, h2⟩ := hc
          cases h2
          simp only [pv] at hp
          have r1 := rep_src he h1
          unfold sizeD at hn
          simp only [Option.map_eq_some_iff] at hn
          obtain ⟨inf, hinf, hn⟩ := hn
          have fp : ∀ (b o : Nat), (Instr.fieldAt s (.pointer (some ⟨b, o, none⟩)) f).run P E.w = .ok (.pointer (some ⟨b, o + fl.offset, none⟩)) E.w := by
            intro b o
            simp [Instr.fieldAt, run_underlying hu, hfl, Instr.sureAddr, fieldPlace, sizeOf, typeInfo, hinf, hn, Addr.add_lit]
          generalize hxv : Act.eval ⟨tmps, []⟩ x = xv at r1
          split at hp
          · rename_i x' o e
            rw [e] at r1
            cases hp
            cases r1 with
            | ro _ _ b o' vs hb hpos hcl hlen hcell hrep =>
              refine ⟨_, val _ _ (by rw [hxv]; exact fp b (o' + o)), ?_⟩
              rw [Nat.add_assoc]
              exact .ro x' (o + fl.offset) b o' vs hb hpos hcl hlen hcell hrep
            | dead v a id hr hd h1 => simp [AV.ref] at hr
          · rename_i id i o e
            rw [e] at r1
            split at hp
            · rename_i hliv
              cases hp
              cases r1 with
              | loc blk _ _ _ bn hlive hbn =>
                refine ⟨_, val _ _ (by rw [hxv]; exact fp _ _), ?_⟩
                rw [Nat.add_assoc]
                exact .loc blk id i (o + fl.offset) bn hlive hbn
              | dead v a id' hr hd h1 =>
                simp [AV.ref] at hr; subst hr
                simp [hrow, hd] at hliv
            · simp at hp
          · simp at hp
        · simp at hc
      · simp at hc
    · simp at hc
  | indexAddr t x ix =>
    simp only [cpure] at hc
    split at hc
    · rename_i e hu
      simp only [Option.bind_eq_bind, Option.bind_eq_some_iff] at hc
      obtain ⟨wd, h0, sx, h1, si, h2, h3⟩ := hc
      cases h3
      simp only [pv] at hp
      obtain ⟨v, hv, hr⟩ := idx_sound hok (rep_src he h1) (rep_src he h2) hu h0 hp
      exact ⟨v, val _ _ hv, hr⟩
    · simp at hc
  | index t x ix =>
    simp only [cpure] at hc
    split at hc
    · rename_i hu
      simp only [Option.bind_eq_bind, Option.bind_eq_some_iff] at hc
      obtain ⟨sx, h1, si, h2, h3⟩ := hc
      cases h3
      simp only [pv] at hp
      have r1 := rep_src he h1
      have r2 := rep_src he h2
      split at hp
      · rename_i s k i e1 e2
        rw [e1] at r1
        rw [e2] at r2
        have v1 := rep_str_inv r1
        have v2 := rep_int_inv r2
        split at hp
        · rename_i hlt
          cases hp
          obtain ⟨m, rfl⟩ := Int.eq_ofNat_of_zero_le hlt.1
          have hm : m < s.size := by omega
          refine ⟨_, val _ _ ?_, .int _ _⟩
          rw [v1, v2]
          have hb : s[m]? = some s[m] := by simp [hm]
          have hd : s.data[m]? = some s[m] := by rw [Array.getElem?_eq_getElem (by exact hm)]; rfl
          simp [Instr.index, asIntOf, run_underlying hu, hb, hd]
        · simp at hp
      · simp at hp
    · simp at hc
  | load t x =>
    simp only [cpure] at hc
    split at hc
    · rename_i d hu
      split at hc
      · rename_i hag
        simp only [Option.bind_eq_bind, Option.bind_eq_some_iff] at hc
        obtain ⟨n, h0, sx, h1, h2⟩ := hc
        cases h2
        simp only [pv] at hp
        obtain ⟨v, hv, hr⟩ := load_sound hok (rep_src he h1) hu (.inr ⟨n, rfl, hag, h0⟩) hp
        exact ⟨v, val _ _ hv, hr⟩
      · rename_i hag
        simp only [Option.bind_eq_bind, Option.bind_eq_some_iff] at hc
        obtain ⟨sx, h1, h2⟩ := hc
        cases h2
        simp only [pv] at hp
        obtain ⟨v, hv, hr⟩ := load_sound hok (rep_src he h1) hu (.inl ⟨rfl, by simpa using hag⟩) hp
        exact ⟨v, val _ _ hv, hr⟩
    · simp at hc
  | slice t x lo hi mx =>
    simp only [cpure] at hc
    split at hc
    · rename_i e hu
      simp only [Option.bind_eq_bind, Option.bind_eq_some_iff] at hc
      obtain ⟨wd, h0, sx, h1, sl, h2, sh, h3, sm, h4, h5⟩ := hc
      cases h5
      simp only [pv] at hp
      obtain ⟨v, hv, hr⟩ := slc_sound hok (rep_src he h1) hu h0 (opt_sound he h2) (opt_sound he h3) (opt_sound he h4) hp
      exact ⟨v, val _ _ hv, hr⟩
    · rename_i hu
      split at hc
      · simp only [Option.bind_eq_bind, Option.bind_eq_some_iff] at hc
        obtain ⟨sx, h1, sl, h2, sh, h3, h5⟩ := hc
        cases h5
        simp only [pv] at hp
        obtain ⟨v, hv, hr⟩ := slcs_sound (rep_src he h1) hu (opt_sound he h2) (opt_sound he h3) hp
        exact ⟨v, val _ _ hv, hr⟩
      · simp at hc
    · simp at hc
  | build t parts =>
    simp only [cpure] at hc
    split at hc
    · rename_i fs zs hu hz
      split at hc
      · rename_i hone
        rw [Bool.and_eq_true] at hone
        simp only [Option.bind_eq_bind, Option.bind_eq_some_iff] at hc
        obtain ⟨ps, h0, h1⟩ := hc
        cases h1
        simp only [pv, Option.map_eq_some_iff] at hp
        obtain ⟨out, hb, rfl⟩ := hp
        simp only [Option.bind_eq_some_iff] at hz
        obtain ⟨inf, hinf, hzero⟩ := hz
        have hall : ∀ (i : Nat) f, fs[i]? = some f → ∀ n, sizeD P f.type = some n → ((fs.map fun f => (f.offset, (sizeD P f.type).getD 0)))[i]? = some (f.offset, n) := by
          intro i f hf n hn
          simp [hf, hn]
        obtain ⟨us, g1, g2, g3, g4⟩ := fill_sound he fs _ hall parts.toList ps zs (zs.toList.map constAV) out h0 hb (by simp)
          (by
            intro v hv
            have := Array.all_eq_true.1 hone.1
            obtain ⟨k, hk, rfl⟩ := List.getElem_of_mem hv
            simpa using this k (by simpa using hk))
          (by
            intro k u a hk ha
            simp at hk ha
            rw [hk] at ha
            simp at ha
            obtain ⟨_, rfl, rfl⟩ := ha
            exact rep_const E _)
        refine ⟨.agg us, val _ _ ?_, ?_⟩
        · have hmap : ∀ (l : List Field), (∀ f ∈ l, ∃ n, sizeD P f.type = some n) → (l.mapM fun f => (do pure (f.offset, ← sizeOf f.type) : Sem (Nat × Nat))).run P E.w = .ok (l.map fun f => (f.offset, (sizeD P f.type).getD 0)) E.w := by
            intro l hl
            induction l with
            | nil => rfl
            | cons f l ih =>
              obtain ⟨n, hn⟩ := hl f (by simp)
              have hn' := hn
              unfold sizeD at hn
              simp only [Option.map_eq_some_iff] at hn
              obtain ⟨inf, hinf, rfl⟩ := hn
              have hs : (sizeOf f.type).run P E.w = .ok inf.size E.w := by simp [sizeOf, typeInfo, hinf]
              simp only [List.mapM_cons, Sem.run_bind, hs, Result.andThen_ok, Sem.run_pure, ih (fun g hg => hl g (by simp [hg])), List.map_cons, hn', Option.getD_some]
          have hfs : ∀ f ∈ fs.toList, ∃ n, sizeD P f.type = some n := by
            intro f hf
            have := List.all_eq_true.1 hone.2 f hf
            exact Option.isSome_iff_exists.1 this
          have hm2 : (fs.mapM fun f => (do pure (f.offset, ← sizeOf f.type) : Sem (Nat × Nat))).run P E.w = .ok (fs.map fun f => (f.offset, (sizeD P f.type).getD 0)) E.w := by
            have := hmap fs.toList hfs
            rw [Array.mapM_eq_mapM_toList, Sem.run_map, this]
            simp only [Result.andThen_ok]
            congr 1
            apply Array.ext'
            simp
          have hz0 : (zeroValue t).run P E.w = .ok (.agg zs) E.w := by simp [zeroValue, typeInfo, hinf, hzero]
          have hpl : (parts.map fun (i, x) => (i, Act.eval ⟨tmps, []⟩ x)).toList = parts.toList.map fun p => (p.1, Act.eval ⟨tmps, []⟩ p.2) := by simp
          simp only [Instr.build, Sem.run_bind, run_underlying hu, Result.andThen_ok, hz0, hm2, Value.cells, hpl, g1, Sem.run_pure]
        · have := Rep.agg (E := E) us.toList out g2 g3 g4
          simpa using this
      · simp at hc
    · simp at hc
  | makeFunc fn first caps =>
    simp only [cpure] at hc
    split at hc
    · rename_i cl f hfirst
      have hf : first = #[] := by rw [← Array.toArray_toList (xs := first), hfirst]
      subst hf
      simp only [Option.bind_eq_bind, Option.bind_eq_some_iff] at hc
      obtain ⟨ss, h1, h2⟩ := hc
      cases h2
      simp only [pv] at hp; cases hp
      obtain ⟨hl, hr⟩ := rep_srcs he h1
      refine ⟨.func (.func f) #[] (caps.toList.map (Act.eval ⟨tmps, []⟩)).toArray, ?_, .fn f _ _ (by simp [hl]) hr⟩
      simp only [execOp, Instr.makeFunc, Sem.run_bind, Sem.run_pure, Result.andThen_ok, Array.map_empty]
      rw [← Array.toList_map, Array.toArray_toList]
    · rename_i f hcaps hne
      have hf : caps = #[] := by rw [← Array.toArray_toList (xs := caps), hcaps]
      subst hf
      simp only [Option.bind_eq_bind, Option.bind_eq_some_iff] at hc
      obtain ⟨ss, h1, h2⟩ := hc
      cases h2
      simp only [pv] at hp; cases hp
      obtain ⟨hl, hr⟩ := rep_srcs he h1
      refine ⟨.func (.func f) (first.toList.map (Act.eval ⟨tmps, []⟩)).toArray #[], ?_, .bfn f _ _ (by simp [hl]) hr⟩
      simp only [execOp, Instr.makeFunc, Sem.run_bind, Sem.run_pure, Result.andThen_ok, Array.map_empty]
      rw [← Array.toList_map, Array.toArray_toList]
    · simp at hc
  | nilCheck x =>
    simp only [cpure, Option.bind_eq_bind, Option.bind_eq_some_iff] at hc
    obtain ⟨sx, h1, h2⟩ := hc
    cases h2
    simp only [pv] at hp
    have r1 := rep_src he h1
    generalize hxv : Act.eval ⟨tmps, []⟩ x = xv at r1
    split at hp
    · rename_i x' o e
      rw [e] at r1
      cases hp
      cases r1 with
      | ro _ _ b o' vs hb hpos hcl hlen hcell hrep => exact ⟨.pointer (some ⟨b, o' + o, none⟩), by simp only [execOp, hxv]; rfl, .ro x' o b o' vs hb hpos hcl hlen hcell hrep⟩
      | dead v a id hr hd h1 => simp [AV.ref] at hr
    · rename_i id i o e
      rw [e] at r1
      split at hp
      · rename_i hliv
        cases hp
        cases r1 with
        | loc blk _ _ _ bn hlive hbn => exact ⟨.pointer (some ⟨bn, i * blk.wd + o, none⟩), by simp only [execOp, hxv]; rfl, .loc blk id i o bn hlive hbn⟩
        | dead v a id' hr hd h1 =>
          simp [AV.ref] at hr; subst hr
          simp [hrow, hd] at hliv
      · simp at hp
    · simp at hp
  | call c =>
    simp only [cpure] at hc
    have mnx : ∀ (mx : Bool) (x y : Operand), c.callee = .builtin (if mx then .max else .min) → c.args.toList = [x, y] → ∀ (sx sy : Src), srcOf x = some sx → srcOf y = some sy → po = .mnx mx sx sy →
        ∃ v, (execOp (Act.eval ⟨tmps, []⟩) ⟨dst, .call c, type, pos, after, guard⟩).run P E.w = .ok (.value v) E.w ∧ Rep E v a := by
      intro mx x y hcal hargs sx sy h1 h2 h3
      subst h3
      obtain ⟨callee, args, argTypes⟩ := c
      simp only at hcal hargs
      have ha : args = #[x, y] := by rw [← Array.toArray_toList (xs := args), hargs]
      subst hcal ha
      simp only [pv, mnxV] at hp
      have r1 := rep_src he h1
      have r2 := rep_src he h2
      split at hp
      · rename_i k u k' w e1 e2
        rw [e1] at r1
        rw [e2] at r2
        have v1 := rep_int_inv r1
        have v2 := rep_int_inv r2
        cases hp
        refine ⟨_, ?_, .int _ _⟩
        cases mx
        · simp [execOp, resolve, invoke, builtin, v1, v2, Builtin.min_, Builtin.min2]
        · simp [execOp, resolve, invoke, builtin, v1, v2, Builtin.max_, Builtin.max2]
      · simp at hp
    split at hc
    · rename_i x t ts hcal hargs htys
      obtain ⟨callee, args, argTypes⟩ := c
      simp only at hcal hargs htys
      have ha : args = #[x] := by rw [← Array.toArray_toList (xs := args), hargs]
      have ht : argTypes = (t :: ts).toArray := by rw [← Array.toArray_toList (xs := argTypes), htys]
      subst hcal ha ht
      have fin : ∀ (xv : Value) (n : Int), Act.eval ⟨tmps, []⟩ x = xv → a = .int .i64 n → (Builtin.len_ (t :: ts).toArray type #[xv]).run P E.w = .ok (goInt n) E.w →
          ∃ v, (execOp (Act.eval ⟨tmps, []⟩) ⟨dst, .call ⟨.builtin .len, #[x], (t :: ts).toArray⟩, type, pos, after, guard⟩).run P E.w = .ok (.value v) E.w ∧ Rep E v a := by
        intro xv n hx ha hr
        subst ha
        refine ⟨.int .i64 n, ?_, .int _ _⟩
        simp only [goInt] at hr
        simp [execOp, resolve, invoke, builtin, hx, hr]
      split at hc
      · rename_i hu
        have ru := run_underlying (P := P) hu E.w
        simp only [Option.bind_eq_bind, Option.bind_eq_some_iff] at hc
        obtain ⟨sx, h1, h2⟩ := hc
        cases h2
        simp only [pv] at hp
        have r1 := rep_src he h1
        split at hp
        · rename_i s e
          rw [e] at r1
          cases hp
          exact fin _ _ (rep_str_inv r1) rfl (by simp [Builtin.len_, ru])
        · simp at hp
      · rename_i e hu
        have ru := run_underlying (P := P) hu E.w
        simp only [Option.bind_eq_bind, Option.bind_eq_some_iff] at hc
        obtain ⟨sx, h1, h2⟩ := hc
        cases h2
        simp only [pv] at hp
        have r1 := rep_src he h1
        generalize hxv : Act.eval ⟨tmps, []⟩ x = xv at r1
        generalize Src.ev env sx = sa at r1 hp
        cases r1 with
        | sl base cap wd xs vs b o hcap hpos hw hcl hbase hlen hcell hrep => simp only [lenV] at hp; cases hp; exact fin _ _ hxv rfl (by simp [Builtin.len_, ru])
        | nil => simp only [lenV] at hp; cases hp; exact fin _ _ hxv rfl (by simp [Builtin.len_, ru])
        | mu blk id off len oc bn q cap hlive hbn hq hlen hsz hoc =>
          simp only [lenV, hrow, hlive, Option.join, Option.isSome, if_true] at hp
          cases hp; exact fin _ _ hxv rfl (by simp [Builtin.len_, ru])
        | mu0 blk id off oc hlive hbn hoc =>
          simp only [lenV, hrow, hlive, Option.join, Option.isSome, if_true] at hp
          cases hp; exact fin _ _ hxv rfl (by simp [Builtin.len_, ru])
        | dead v a' id hr hd h1 =>
          cases sa <;> simp [AV.ref] at hr
          · subst hr; simp [lenV, hrow, hd] at hp
          · simp [lenV] at hp
        | _ => simp [lenV] at hp
      · simp at hc
    · rename_i x y hcal hargs
      simp only [Option.bind_eq_bind, Option.bind_eq_some_iff] at hc
      obtain ⟨sx, h1, sy, h2, h3⟩ := hc
      cases h3
      exact mnx true x y hcal hargs sx sy h1 h2 rfl
    · rename_i x y hcal hargs
      simp only [Option.bind_eq_bind, Option.bind_eq_some_iff] at hc
      obtain ⟨sx, h1, sy, h2, h3⟩ := hc
      cases h3
      exact mnx false x y hcal hargs sx sy h1 h2 rfl
    · simp at hc
  | _ => simp [cpure] at hc

end
end Go.Abs

/- Texts: bytes, decimal digits. -/
import Derived.Test.YtofbhhncpjegfaaD6
import Derived.Lib.Join
set_option linter.unusedVariables false
set_option linter.unusedSimpArgs false
set_option linter.defProp false
namespace Go.Abs

/-- A text by its bytes. -/
def strU (l : List UInt8) : AV := .str ⟨l.toArray⟩
def byts (l : List UInt8) : List AV := l.map fun b => .int .u8 (b.toNat : Int)
theorem strU_cl (l : List UInt8) : Cl (strU l) := .str _
theorem byts_len (l : List UInt8) : (byts l).length = l.length := by simp [byts]
theorem byts_append (a b : List UInt8) : byts (a ++ b) = byts a ++ byts b := by simp [byts]
theorem byts_flat (l : List UInt8) : (byts l).flatMap AV.cells = byts l := by
  induction l with
  | nil => rfl
  | cons d l ih =>
    rw [show byts (d :: l) = .int .u8 (d.toNat : Int) :: byts l from rfl, List.flatMap_cons, ih]
    rfl
theorem byts_cl {l : List UInt8} : ∀ a ∈ (Blk.mk 1 (byts l)).flat, Cl a := by
  intro a ha
  rw [show (Blk.mk 1 (byts l)).flat = byts l from byts_flat l] at ha
  obtain ⟨b, _, rfl⟩ := List.mem_map.1 ha
  exact .int _ _
theorem strU_size (l : List UInt8) : (ByteArray.mk l.toArray).size = l.length := by simp [ByteArray.size]
theorem byteAVs_strU (l : List UInt8) : byteAVs ⟨l.toArray⟩ = byts l := rfl
theorem strU_append (a b : List UInt8) : (ByteArray.mk a.toArray) ++ (ByteArray.mk b.toArray) = ⟨(a ++ b).toArray⟩ := by
  apply ByteArray.ext
  simp
theorem numsOf_byts (l : List UInt8) : numsOf (byts l) = some (l.map fun b => (b.toNat : Int)) := by
  induction l with
  | nil => rfl
  | cons b l ih =>
    rw [show byts (b :: l) = .int .u8 (b.toNat : Int) :: byts l from rfl]
    simp only [numsOf, ih, Option.map_some, List.map_cons]
theorem strOf_byts (l : List UInt8) : strOfNums (l.map fun b => (b.toNat : Int)) = ⟨l.toArray⟩ := by
  unfold strOfNums
  congr 2
  rw [List.map_map]
  conv => rhs; rw [← List.map_id l]
  apply List.map_congr_left
  intro b _
  simp
theorem strB_byts (l : List UInt8) : strB (byts l) = some (strU l) := by
  simp only [strB, numsOf_byts, Option.map_some, strOf_byts, strU]
theorem b2s_sl (H : Heap) (l : List UInt8) : b2sV H (.sl 1 (byts l)) = some (strU l) := by rw [b2sV_sl1, strB_byts]
theorem sadd_strU (a b : List UInt8) (h : a.length + b.length ≤ 9223372036854775807) : binV .add (strU a) (strU b) = some (strU (a ++ b)) := by
  unfold strU
  rw [binV_sadd _ _ (by rw [strU_size, strU_size]; exact h), strU_append]
theorem seql_strU (a b : List UInt8) : binV .eql (strU a) (strU b) = some (.bool (a == b)) := by
  unfold strU
  rw [binV_seql]
  simp
theorem strU_cells (l : List UInt8) : (strU l).cells = [strU l] := rfl
theorem strU_fit (l : List UInt8) : (strU l).fit = true := rfl
theorem strU_nref (id : Nat) (l : List UInt8) : nref id (strU l) = true := nref_cl (strU_cl l)
theorem strU_clb (l : List UInt8) : clb (strU l) = true := clb_cl (strU_cl l)
theorem strU_frz (id : Nat) (b : Blk) (l : List UInt8) : frz id b (strU l) = strU l := frz_cl (strU_cl l)
theorem srcEls_strU (H : Heap) (l : List UInt8) : srcEls H 1 true (strU l) = some (byts l) := by
  unfold strU
  rw [srcEls_str, byteAVs_strU]
theorem RC.byts {l : List UInt8} {L : Heap} (h : RC L) : RC (some ⟨1, byts l⟩ :: L) := .cons byts_cl h
def ES := And.intro @strU_cells (And.intro @strU_fit (And.intro @strU_nref (And.intro @strU_clb @strU_frz)))

/-! ### Digits -/
def dig (d : Nat) : UInt8 := UInt8.ofNat (48 + d)
theorem dig_nat {d : Nat} (h : d < 10) : (dig d).toNat = 48 + d := by
  unfold dig
  rw [UInt8.toNat_ofNat']
  omega
/-- The digits from the lowest; none for 0. -/
def digs (n : Nat) : List UInt8 := if h : n = 0 then [] else dig (n % 10) :: digs (n / 10)
theorem digs_zero : digs 0 = [] := by rw [digs]; simp
theorem digs_pos {n : Nat} (h : n ≠ 0) : digs n = dig (n % 10) :: digs (n / 10) := by rw [digs]; simp [h]
/-- A number's text. -/
def dec (n : Nat) : List UInt8 := if n = 0 then [48] else (digs n).reverse
def decI (z : Int) : List UInt8 := if z < 0 then 45 :: dec z.natAbs else dec z.natAbs
theorem digs_len : ∀ (k n : Nat), n < 10 ^ k → (digs n).length ≤ k
  | 0, n, h => by
    have : n = 0 := by simpa using h
    rw [this, digs_zero]; simp
  | k + 1, n, h => by
    by_cases h0 : n = 0
    · rw [h0, digs_zero]; simp
    · rw [digs_pos h0, List.length_cons]
      have := digs_len k (n / 10) (by rw [Nat.pow_succ] at h; omega)
      omega
theorem lb_ten (k : Nat) : LB ^ k ≤ 10 ^ (10 * k) := by
  rw [Nat.pow_mul]
  exact Nat.pow_le_pow_left (by decide) k
theorem dec_len {k n : Nat} (h : n < LB ^ k) : (dec n).length ≤ 10 * k + 1 := by
  unfold dec
  split
  · simp
  · rw [List.length_reverse]
    have := digs_len (10 * k) n (Nat.lt_of_lt_of_le h (lb_ten k))
    omega
theorem decI_len {k : Nat} {z : Int} (h : z.natAbs < LB ^ k) : (decI z).length ≤ 10 * k + 2 := by
  unfold decI
  have := dec_len h
  split
  · rw [List.length_cons]; omega
  · omega

/-! ### Division by one limb, from the top -/
def sdiv (d : Nat) : List Nat → List Nat × Nat
  | [] => ([], 0)
  | x :: xs => (((sdiv d xs).2 * LB + x) / d :: (sdiv d xs).1, ((sdiv d xs).2 * LB + x) % d)
theorem sdiv_cons (d x : Nat) (xs : List Nat) : sdiv d (x :: xs) = (((sdiv d xs).2 * LB + x) / d :: (sdiv d xs).1, ((sdiv d xs).2 * LB + x) % d) := rfl
theorem sdiv_len (d : Nat) : ∀ xs, (sdiv d xs).1.length = xs.length
  | [] => rfl
  | x :: xs => by rw [sdiv_cons]; simp [sdiv_len d xs]
theorem sdiv_rem {d : Nat} (hd : 0 < d) : ∀ xs, (sdiv d xs).2 < d
  | [] => hd
  | x :: xs => by rw [sdiv_cons]; exact Nat.mod_lt _ hd
theorem sdiv_val {d : Nat} (hd : 0 < d) : ∀ xs, val (sdiv d xs).1 * d + (sdiv d xs).2 = val xs
  | [] => by simp [sdiv, val]
  | x :: xs => by
    have ih := sdiv_val hd xs
    rw [sdiv_cons]
    simp only [val]
    have h := Nat.div_add_mod ((sdiv d xs).2 * LB + x) d
    rw [← ih]
    generalize ((sdiv d xs).2 * LB + x) / d = q at *
    generalize ((sdiv d xs).2 * LB + x) % d = r at *
    generalize val (sdiv d xs).1 = v at *
    generalize (sdiv d xs).2 = s at *
    have e1 : (q + LB * v) * d = d * q + LB * (v * d) := by rw [Nat.add_mul, Nat.mul_comm q d, Nat.mul_assoc]
    have e2 : LB * (v * d + s) = LB * (v * d) + s * LB := by rw [Nat.mul_add, Nat.mul_comm LB s]
    omega
theorem sdiv_lim {d : Nat} (hd : 0 < d) : ∀ {xs : List Nat}, Lim xs → Lim (sdiv d xs).1
  | [], _ => lim_nil
  | x :: xs, h => by
    obtain ⟨h1, h2⟩ := lim_cons.1 h
    rw [sdiv_cons]
    refine lim_cons.2 ⟨?_, sdiv_lim hd h2⟩
    have := sdiv_rem hd xs
    rw [Nat.div_lt_iff_lt_mul hd]
    have e : LB * d = (d - 1) * LB + LB := by
      rw [← Nat.succ_mul, Nat.mul_comm]
      congr 1; omega
    have : (sdiv d xs).2 * LB ≤ (d - 1) * LB := Nat.mul_le_mul_right _ (by omega)
    omega
theorem sdiv_div {d : Nat} (hd : 0 < d) (xs : List Nat) : val (sdiv d xs).1 = val xs / d := by
  have h1 := sdiv_val hd xs
  have h2 := sdiv_rem hd xs
  rw [← h1, Nat.add_comm, Nat.add_mul_div_right _ _ hd, Nat.div_eq_of_lt h2, Nat.zero_add]
theorem sdiv_mod {d : Nat} (hd : 0 < d) (xs : List Nat) : (sdiv d xs).2 = val xs % d := by
  have h1 := sdiv_val hd xs
  have h2 := sdiv_rem hd xs
  rw [← h1, Nat.add_comm, Nat.add_mul_mod_self_right, Nat.mod_eq_of_lt h2]

/-! ### Texts joined -/
def tx (n : Nat) (g : Nat → List UInt8) : List (List UInt8) := (List.range n).map g
theorem tx_length (n : Nat) (g : Nat → List UInt8) : (tx n g).length = n := by simp [tx]
theorem tx_succ (n : Nat) (g : Nat → List UInt8) : tx (n + 1) g = tx n g ++ [g n] := by simp [tx, List.range_succ]
theorem tx_take (n i : Nat) (g : Nat → List UInt8) (h : i ≤ n) : (tx n g).take i = tx i g := by
  simp [tx, ← List.map_take, List.take_range, Nat.min_eq_left h]
def txV (v : List ZI) : List UInt8 := Lib.join (tx v.length fun i => decI (zg v i)) [32]
def txM (b : List (List ZI)) : List UInt8 := Lib.join (tx b.length fun i => txV (mg b i)) [59, 32]
theorem join_zero (g : Nat → List UInt8) (sep : List UInt8) : Lib.join (tx 0 g) sep = [] := rfl
theorem join_one (g : Nat → List UInt8) (sep : List UInt8) : Lib.join (tx 1 g) sep = g 0 := Lib.join_one _ _
theorem join_succ (g : Nat → List UInt8) (sep : List UInt8) (i : Nat) : Lib.join (tx (i + 2) g) sep = Lib.join (tx (i + 1) g) sep ++ sep ++ g (i + 1) := by
  have e : ∀ n, tx (n + 1) g = g 0 :: tx n fun i => g (i + 1) := fun n => by
    simp only [tx, List.range_succ_eq_map, List.map_cons, List.map_map]; rfl
  rw [e (i + 1), e i, Lib.join_cons, Lib.join_cons, tx_succ]
  simp [Lib.joinTail, List.append_assoc]
theorem join_le (g : Nat → List UInt8) (sep : List UInt8) {i n : Nat} (h : i ≤ n) : (Lib.join (tx i g) sep).length ≤ (Lib.join (tx n g) sep).length := by
  induction n with
  | zero => rw [show i = 0 by omega]; exact Nat.le_refl _
  | succ n ih =>
    rcases Nat.lt_or_ge n i with h' | h'
    · rw [show i = n + 1 by omega]; exact Nat.le_refl _
    · refine Nat.le_trans (ih h') ?_
      match n with
      | 0 => rw [join_zero]; exact Nat.zero_le _
      | n + 1 => rw [join_succ]; simp only [List.length_append]; omega
theorem join_len (g : Nat → List UInt8) (sep : List UInt8) : ∀ n, (Lib.join (tx n g) sep).length ≤ ((tx n g).map fun x => x.length + sep.length).sum
  | 0 => by rw [join_zero]; exact Nat.zero_le _
  | 1 => by rw [join_one]; simp [tx]
  | n + 2 => by
    have ih := join_len g sep (n + 1)
    rw [join_succ, tx_succ (n + 1)]
    simp only [List.length_append, List.map_append, List.sum_append, List.map_cons, List.map_nil, List.sum_cons, List.sum_nil]
    omega
end Go.Abs

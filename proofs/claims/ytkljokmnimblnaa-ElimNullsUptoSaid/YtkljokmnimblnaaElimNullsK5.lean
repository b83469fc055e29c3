/- Part 5 of the proof of ElimNulls: Code0, Code1, Code2. -/
import Derived.Test.YtkljokmnimblnaaElimNullsK4
set_option maxRecDepth 100000
noncomputable section
namespace Go.Abs
abbrev mvI (d s : Nat) : AIns := ⟨some d, none, .p (.mv (.t s))⟩
abbrev opI (d : Nat) (o : POp) : AIns := ⟨some d, none, .p o⟩
abbrev rgI (l : List AIns) : ACode := .region l false
open Go.Proofs
def a6A : List AIns := [opI 2 (.mv (.c (.bool false)))]
def a6z : List AIns := [mvI 8 0,
  ⟨some 9, none, .call a6L [(.t 8)]⟩,
  ⟨some 10, none, .call a5Z [(.t 9)]⟩,
  mvI 7 10,
  opI 11 (.ext (.t 7) 0),
  opI 12 (.ext (.t 7) 1),
  mvI 3 11,
  mvI 4 12]
def a6y : List AIns := [mvI 14 0,
  ⟨some 15, none, .call a4G [(.t 14)]⟩,
  mvI 13 15,
  opI 16 (.ext (.t 13) 0),
  opI 17 (.ext (.t 13) 1),
  mvI 5 16,
  mvI 6 17]
def a6x : List AIns := [mvI 18 4,
  mvI 19 6,
  opI 20 (.bin .eql (.t 18) (.t 19)),
  mvI 21 20,
  ⟨some 22, some (21, true), .p (.mv (.t 3))⟩,
  ⟨some 23, some (21, true), .p (.mv (.t 5))⟩,
  ⟨some 24, some (21, true), .call b4X [(.t 22), (.t 23)]⟩,
  opI 25 (.pick (.t 21) (.t 24) (.c (.bool false))),
  mvI 2 25]
def b9s : ACode := .seq (rgI a6A) (.seq (rgI a6z) (.seq (rgI a6y) (.seq (rgI a6x) (.ret))))
theorem b7I : fchk Pr (fun _ _ => false) Try.f10 = some (b9s, [.tmp 2], 26) := by kernel_rfl
theorem b7J : Pr.funcs[a7V]? = some Try.f10 := Try.func10
def b7G : List AIns := [opI 2 (.mv (.c (.nil)))]
def b7F : List AIns := [opI 3 (.mv (.c (.nil)))]
def b7E : List AIns := [opI 4 (.mv (.c (.int .i64 0)))]
def a9d : List AIns := [mvI 5 4,
  mvI 6 0,
  opI 7 (.len (.t 6)),
  opI 8 (.bin .lss (.t 5) (.t 7))]
def b7D : List AIns := [mvI 11 3,
  mvI 12 0,
  mvI 13 4,
  opI 14 (.idxp 1 (.t 12) (.t 13)),
  opI 15 (.load none (.t 14)),
  ⟨some 16, none, .call a6K [(.t 15)]⟩,
  ⟨some 17, none, .e (.bsl 1 [(.t 16)])⟩,
  ⟨some 18, none, .e (.app 1 24 false (.t 11) (.t 17))⟩,
  mvI 3 18]
def b7C : List AIns := [mvI 9 4,
  opI 10 (.bin .add (.t 9) (.c (.int .i64 1))),
  mvI 4 10]
def b7H : ACode := .seq (.seq (rgI a9d) (.cond (.t 8) (.skip) (.exit 0))) (.seq (.block 1 (rgI b7D)) (rgI b7C))
def a9c : List AIns := [mvI 19 3,
  mvI 2 19]
def d3z : ACode := .seq (rgI b7G) (.seq (rgI b7F) (.seq (.seq (rgI b7E) (.block 0 (.loop b7H))) (.seq (rgI a9c) (.ret))))
theorem d0E : fchk Pr (fun _ _ => false) Try.f15 = some (d3z, [.tmp 2], 20) := by kernel_rfl
theorem d0F : Pr.funcs[a6L]? = some Try.f15 := Try.func15
def c2G : List AIns := [opI 4 (.mv (.c (.bool false)))]
def c2F : List AIns := [mvI 6 0,
  opI 7 (.len (.t 6)),
  mvI 8 1,
  opI 9 (.len (.t 8)),
  opI 10 (.bin .neq (.t 7) (.t 9))]
def d3D : List AIns := [opI 4 (.mv (.c (.bool false)))]
def c2E : List AIns := [opI 5 (.mv (.c (.int .i64 0)))]
def b1a : List AIns := [mvI 11 5,
  mvI 12 0,
  opI 13 (.len (.t 12)),
  opI 14 (.bin .lss (.t 11) (.t 13))]
def c2D : List AIns := [mvI 17 0,
  mvI 18 5,
  opI 19 (.idxp 2 (.t 17) (.t 18)),
  opI 20 (.load (some 2) (.t 19)),
  mvI 21 1,
  mvI 22 5,
  opI 23 (.idxp 2 (.t 21) (.t 22)),
  opI 24 (.load (some 2) (.t 23)),
  ⟨some 25, none, .call b9O [(.t 20), (.t 24)]⟩,
  opI 26 (.un .not (.t 25))]
def d3C : List AIns := [opI 4 (.mv (.c (.bool false)))]
def c2C : List AIns := [mvI 15 5,
  opI 16 (.bin .add (.t 15) (.c (.int .i64 1))),
  mvI 5 16]
def d3F : ACode := .seq (.seq (rgI b1a) (.cond (.t 14) (.skip) (.exit 0))) (.seq (.block 1 (.seq (.region c2D true) (.cond (.t 26) (.seq (rgI d3C) (.ret)) (.skip)))) (rgI c2C))
def c2B : List AIns := [opI 4 (.mv (.c (.bool true)))]
def d5O : ACode := .seq (rgI c2G) (.seq (.seq (rgI c2F) (.cond (.t 10) (.seq (rgI d3D) (.ret)) (.skip))) (.seq (.seq (rgI c2E) (.block 0 (.loop d3F))) (.seq (rgI c2B) (.ret))))
theorem d3E : fchk Pr (fun _ _ => false) Try.f19 = some (d5O, [.tmp 4], 27) := by kernel_rfl
theorem d3G : Pr.funcs[b4W]? = some Try.f19 := Try.func19
def b7A : List AIns := [opI 2 (.mv (.c (.nil)))]
def b7z : List AIns := [opI 3 (.mv (.c (.nil)))]
def b7y : List AIns := [opI 4 (.mv (.c (.int .i64 0)))]
def a9b : List AIns := [mvI 5 4,
  mvI 6 0,
  opI 7 (.len (.t 6)),
  opI 8 (.bin .lss (.t 5) (.t 7))]
def b7x : List AIns := [mvI 11 3,
  mvI 12 0,
  mvI 13 4,
  opI 14 (.idxp 2 (.t 12) (.t 13)),
  opI 15 (.load (some 2) (.t 14)),
  ⟨some 16, none, .call b4V [(.t 15)]⟩,
  ⟨some 17, none, .e (.bsl 2 [(.t 16)])⟩,
  ⟨some 18, none, .e (.app 2 32 false (.t 11) (.t 17))⟩,
  mvI 3 18]
def b7w : List AIns := [mvI 9 4,
  opI 10 (.bin .add (.t 9) (.c (.int .i64 1))),
  mvI 4 10]
def b7B : ACode := .seq (.seq (rgI a9b) (.cond (.t 8) (.skip) (.exit 0))) (.seq (.block 1 (rgI b7x)) (rgI b7w))
def a9a : List AIns := [mvI 19 3,
  mvI 2 19]
def d3y : ACode := .seq (rgI b7A) (.seq (rgI b7z) (.seq (.seq (rgI b7y) (.block 0 (.loop b7B))) (.seq (rgI a9a) (.ret))))
theorem d0C : fchk Pr (fun _ _ => false) Try.f21 = some (d3y, [.tmp 2], 20) := by kernel_rfl
theorem d0D : Pr.funcs[a6K]? = some Try.f21 := Try.func21
def c5W : List AIns := [⟨some 2, none, .e (.box 2 (.t 0))⟩,
  ⟨some 3, none, .e (.box 2 (.t 1))⟩,
  opI 4 (.mv (.c (.bool false)))]
def c5V : List AIns := [opI 6 (.fldp (.t 2) 0),
  opI 7 (.load none (.t 6)),
  opI 8 (.fldp (.t 3) 0),
  opI 9 (.load none (.t 8)),
  opI 10 (.beq true (.t 7) (.t 9)),
  mvI 11 10,
  ⟨some 12, some (11, false), .p (.fldp (.t 2) 1)⟩,
  ⟨some 13, some (11, false), .p (.load none (.t 12))⟩,
  ⟨some 14, some (11, false), .p (.len (.t 13))⟩,
  ⟨some 15, some (11, false), .p (.fldp (.t 3) 1)⟩,
  ⟨some 16, some (11, false), .p (.load none (.t 15))⟩,
  ⟨some 17, some (11, false), .p (.len (.t 16))⟩,
  ⟨some 18, some (11, false), .p (.bin .neq (.t 14) (.t 17))⟩,
  opI 19 (.pick (.t 11) (.c (.bool true)) (.t 18))]
def d5R : List AIns := [opI 4 (.mv (.c (.bool false)))]
def c5U : List AIns := [opI 5 (.mv (.c (.int .i64 0)))]
def b4F : List AIns := [mvI 20 5,
  opI 21 (.fldp (.t 2) 1),
  opI 22 (.load none (.t 21)),
  opI 23 (.len (.t 22)),
  opI 24 (.bin .lss (.t 20) (.t 23))]
def c5T : List AIns := [opI 27 (.fldp (.t 2) 1),
  opI 28 (.load none (.t 27)),
  mvI 29 5,
  opI 30 (.idxp 1 (.t 28) (.t 29)),
  opI 31 (.load none (.t 30)),
  opI 32 (.fldp (.t 3) 1),
  opI 33 (.load none (.t 32)),
  mvI 34 5,
  opI 35 (.idxp 1 (.t 33) (.t 34)),
  opI 36 (.load none (.t 35)),
  opI 37 (.bin .neq (.t 31) (.t 36))]
def d5Q : List AIns := [opI 4 (.mv (.c (.bool false)))]
def c5S : List AIns := [mvI 25 5,
  opI 26 (.bin .add (.t 25) (.c (.int .i64 1))),
  mvI 5 26]
def d5T : ACode := .seq (.seq (rgI b4F) (.cond (.t 24) (.skip) (.exit 0))) (.seq (.block 1 (.seq (.region c5T true) (.cond (.t 37) (.seq (rgI d5Q) (.ret)) (.skip)))) (rgI c5S))
def c5R : List AIns := [opI 4 (.mv (.c (.bool true)))]
def d9q : ACode := .seq (rgI c5W) (.seq (.seq (rgI c5V) (.cond (.t 19) (.seq (rgI d5R) (.ret)) (.skip))) (.seq (.seq (rgI c5U) (.block 0 (.loop d5T))) (.seq (rgI c5R) (.ret))))
theorem d5S : fchk Pr (fun _ _ => false) Try.f23 = some (d9q, [.tmp 4], 38) := by kernel_rfl
theorem d5U : Pr.funcs[b9O]? = some Try.f23 := Try.func23
def c2M : List AIns := [opI 4 (.mv (.c (.bool false)))]
def c2L : List AIns := [mvI 6 0,
  opI 7 (.len (.t 6)),
  mvI 8 1,
  opI 9 (.len (.t 8)),
  opI 10 (.bin .neq (.t 7) (.t 9))]
def d3I : List AIns := [opI 4 (.mv (.c (.bool false)))]
def c2K : List AIns := [opI 5 (.mv (.c (.int .i64 0)))]
def b1b : List AIns := [mvI 11 5,
  mvI 12 0,
  opI 13 (.len (.t 12)),
  opI 14 (.bin .lss (.t 11) (.t 13))]
def c2J : List AIns := [mvI 17 0,
  mvI 18 5,
  opI 19 (.idxp 1 (.t 17) (.t 18)),
  opI 20 (.load none (.t 19)),
  mvI 21 1,
  mvI 22 5,
  opI 23 (.idxp 1 (.t 21) (.t 22)),
  opI 24 (.load none (.t 23)),
  ⟨some 25, none, .call b4W [(.t 20), (.t 24)]⟩,
  opI 26 (.un .not (.t 25))]
def d3H : List AIns := [opI 4 (.mv (.c (.bool false)))]
def c2I : List AIns := [mvI 15 5,
  opI 16 (.bin .add (.t 15) (.c (.int .i64 1))),
  mvI 5 16]
def d3K : ACode := .seq (.seq (rgI b1b) (.cond (.t 14) (.skip) (.exit 0))) (.seq (.block 1 (.seq (.region c2J true) (.cond (.t 26) (.seq (rgI d3H) (.ret)) (.skip)))) (rgI c2I))
def c2H : List AIns := [opI 4 (.mv (.c (.bool true)))]
def d5P : ACode := .seq (rgI c2M) (.seq (.seq (rgI c2L) (.cond (.t 10) (.seq (rgI d3I) (.ret)) (.skip))) (.seq (.seq (rgI c2K) (.block 0 (.loop d3K))) (.seq (rgI c2H) (.ret))))
theorem d3J : fchk Pr (fun _ _ => false) Try.f30 = some (d5P, [.tmp 4], 27) := by kernel_rfl
theorem d3L : Pr.funcs[b4X]? = some Try.f30 := Try.func30
def c5H : List AIns := [opI 2 (.mv (.c (.nil))),
  opI 3 (.mv (.c (.int .i64 0)))]
def c5G : List AIns := [mvI 12 0,
  ⟨some 13, none, .call a5Y [(.t 12)]⟩,
  mvI 11 13,
  opI 14 (.ext (.t 11) 0),
  opI 15 (.ext (.t 11) 1),
  opI 16 (.ext (.t 11) 2),
  mvI 4 14,
  mvI 5 15,
  mvI 6 16]
def c5F : List AIns := [mvI 17 6,
  opI 18 (.bin .neq (.t 17) (.c (.int .i64 0)))]
def d5A : List AIns := [mvI 19 6,
  opI 2 (.mv (.c (.nil))),
  mvI 3 19]
def c5E : List AIns := [mvI 20 4,
  mvI 21 5,
  opI 22 (.bin .mul (.t 20) (.t 21)),
  ⟨some 23, none, .e (.mksl 2 32 (.agg [.bool false, .nil]) (.c (.int .i64 0)) (.t 22))⟩,
  mvI 7 23]
def c5D : List AIns := [opI 8 (.mv (.c (.nil)))]
def c5C : List AIns := [mvI 24 5,
  opI 25 (.mv (.c (.int .i64 0)))]
def b4D : List AIns := [opI 26 (.bin .lss (.t 25) (.t 24))]
def c5B : List AIns := [mvI 27 25,
  mvI 9 27]
def c5A : List AIns := [mvI 28 4,
  opI 29 (.mv (.c (.int .i64 0)))]
def b0U : List AIns := [opI 30 (.bin .lss (.t 29) (.t 28))]
def c2q : List AIns := [mvI 31 29,
  mvI 10 31]
def c2p : List AIns := [mvI 32 7,
  mvI 33 0,
  mvI 34 10,
  opI 35 (.idxp 1 (.t 33) (.t 34)),
  opI 36 (.load none (.t 35)),
  mvI 37 9,
  opI 38 (.idxp 2 (.t 36) (.t 37)),
  opI 39 (.load (some 2) (.t 38)),
  ⟨some 40, none, .call b4N [(.t 39)]⟩,
  ⟨some 41, none, .e (.bsl 2 [(.t 40)])⟩,
  ⟨some 42, none, .e (.app 2 32 false (.t 32) (.t 41))⟩,
  mvI 7 42]
def c2o : List AIns := [opI 43 (.bin .add (.t 29) (.c (.int .i64 1))),
  mvI 29 43]
def d5C : ACode := .seq (rgI b0U) (.seq (.cond (.t 30) (.skip) (.exit 2)) (.seq (.block 3 (.seq (rgI c2q) (rgI c2p))) (rgI c2o)))
def c2n : List AIns := [mvI 44 8,
  mvI 45 7,
  mvI 46 9,
  mvI 47 4,
  opI 48 (.bin .mul (.t 46) (.t 47)),
  mvI 49 9,
  opI 50 (.bin .add (.t 49) (.c (.int .i64 1))),
  mvI 51 4,
  opI 52 (.bin .mul (.t 50) (.t 51)),
  mvI 53 9,
  opI 54 (.bin .add (.t 53) (.c (.int .i64 1))),
  mvI 55 4,
  opI 56 (.bin .mul (.t 54) (.t 55)),
  opI 57 (.slc 2 (.t 45) (some (.t 48)) (some (.t 52)) (some (.t 56))),
  ⟨some 58, none, .e (.bslm 1 [(.t 57)])⟩,
  ⟨some 59, none, .e (.app 1 24 false (.t 44) (.t 58))⟩,
  mvI 8 59]
def c2m : List AIns := [opI 60 (.bin .add (.t 25) (.c (.int .i64 1))),
  mvI 25 60]
def d5D : ACode := .seq (rgI b4D) (.seq (.cond (.t 26) (.skip) (.exit 0)) (.seq (.block 1 (.seq (rgI c5B) (.seq (.seq (rgI c5A) (.block 2 (.loop d5C))) (rgI c2n)))) (rgI c2m)))
def c2l : List AIns := [mvI 61 8,
  mvI 2 61,
  opI 3 (.mv (.c (.int .i64 0)))]
def d9l : ACode := .seq (rgI c5H) (.seq (rgI c5G) (.seq (.seq (rgI c5F) (.cond (.t 18) (.seq (rgI d5A) (.ret)) (.skip))) (.seq (rgI c5E) (.seq (rgI c5D) (.seq (.seq (rgI c5C) (.block 0 (.loop d5D))) (.seq (rgI c2l) (.ret)))))))
theorem d5B : fchk Pr (fun _ k => (k == 14)) Try.f34 = some (d9l, [.tmp 2, .tmp 3], 62) := by kernel_rfl
theorem d5E : Pr.funcs[b9M]? = some Try.f34 := Try.func34
def c3P : List AIns := [⟨some 1, none, .e (.box 2 (.t 0))⟩,
  ⟨some 2, none, .e (.box 2 (.c (.agg [.bool false, .nil])))⟩]
def c3O : List AIns := [opI 3 (.fldp (.t 1) 0),
  opI 4 (.load none (.t 3)),
  opI 5 (.un .not (.t 4)),
  opI 6 (.fldp (.t 1) 1),
  opI 7 (.load none (.t 6)),
  ⟨some 8, none, .call a1i [(.t 5), (.t 7)]⟩,
  ⟨none, none, .e (.store 2 (.t 2) (.t 8))⟩]
def d7U : ACode := .seq (rgI c3P) (.seq (rgI c3O) (.ret))
theorem d4z : fchk Pr (fun _ _ => false) Try.f36 = some (d7U, [.cell 2 (some 2)], 9) := by kernel_rfl
theorem d4A : Pr.funcs[a7P]? = some Try.f36 := Try.func36
def c3R : List AIns := [⟨some 2, none, .e (.box 2 (.t 0))⟩,
  ⟨some 3, none, .e (.box 2 (.t 1))⟩,
  ⟨some 4, none, .e (.box 2 (.c (.agg [.bool false, .nil])))⟩]
def c3Q : List AIns := [opI 5 (.fldp (.t 2) 0),
  opI 6 (.load none (.t 5)),
  opI 7 (.fldp (.t 3) 0),
  opI 8 (.load none (.t 7)),
  opI 9 (.beq true (.t 6) (.t 8)),
  opI 10 (.fldp (.t 2) 1),
  opI 11 (.load none (.t 10)),
  opI 12 (.fldp (.t 3) 1),
  opI 13 (.load none (.t 12)),
  ⟨some 14, none, .call a7S [(.t 11), (.t 13)]⟩,
  ⟨some 15, none, .call a1i [(.t 9), (.t 14)]⟩,
  ⟨none, none, .e (.store 2 (.t 4) (.t 15))⟩]
def d7V : ACode := .seq (rgI c3R) (.seq (.region c3Q true) (.ret))
theorem d4B : fchk Pr (fun _ _ => false) Try.f38 = some (d7V, [.cell 4 (some 2)], 16) := by kernel_rfl
theorem d4C : Pr.funcs[a3h]? = some Try.f38 := Try.func38
def b1u : List AIns := [opI 2 (.mv (.c (.nil))),
  opI 3 (.mv (.c (.int .i64 0)))]
def b1t : List AIns := [mvI 26 0,
  ⟨some 27, none, .call b1G [(.t 26)]⟩,
  mvI 25 27,
  opI 28 (.ext (.t 25) 0),
  opI 29 (.ext (.t 25) 1),
  opI 30 (.ext (.t 25) 2),
  mvI 4 28,
  mvI 5 29,
  mvI 6 30]
def b1s : List AIns := [mvI 31 6,
  opI 32 (.bin .neq (.t 31) (.c (.int .i64 0)))]
def c2V : List AIns := [mvI 33 6,
  opI 2 (.mv (.c (.nil))),
  mvI 3 33]
def c2U : List AIns := [mvI 35 0,
  ⟨some 36, none, .call b9M [(.t 35)]⟩,
  mvI 34 36,
  opI 37 (.ext (.t 34) 0),
  opI 38 (.ext (.t 34) 1),
  mvI 7 37,
  mvI 8 38]
def c2T : List AIns := [mvI 40 7,
  mvI 41 4,
  ⟨some 42, none, .call a3j [(.t 40), (.t 41)]⟩,
  mvI 39 42,
  opI 43 (.ext (.t 39) 0),
  opI 44 (.ext (.t 39) 1),
  mvI 9 43,
  mvI 10 44]
def c2S : List AIns := [opI 11 (.mv (.c (.nil)))]
def c2R : List AIns := [⟨some 45, none, .e (.mkmap)⟩,
  mvI 12 45]
def c2Q : List AIns := [⟨some 46, none, .call a7O [(.c (.int .i64 1))]⟩,
  ⟨some 13, none, .e (.box 2 (.c (.agg [.bool false, .nil])))⟩,
  ⟨none, none, .e (.store 2 (.t 13) (.t 46))⟩]
def c2P : List AIns := [mvI 47 10,
  opI 48 (.len (.t 47)),
  opI 49 (.mv (.c (.int .i64 0)))]
def a9r : List AIns := [opI 50 (.bin .lss (.t 49) (.t 48))]
def b8v : List AIns := [mvI 51 49,
  opI 52 (.idxp 1 (.t 47) (.t 49)),
  opI 53 (.load none (.t 52)),
  mvI 14 51,
  mvI 15 53]
def b8u : List AIns := [mvI 54 12,
  mvI 55 15,
  mvI 56 14,
  ⟨none, none, .e (.mset (.t 54) (.t 55) (.t 56))⟩]
def b8t : List AIns := [opI 57 (.load (some 2) (.t 13)),
  mvI 58 9,
  mvI 59 14,
  opI 60 (.idxp 1 (.t 58) (.t 59)),
  opI 61 (.load none (.t 60)),
  mvI 62 15,
  opI 63 (.idxp 2 (.t 61) (.t 62)),
  opI 64 (.load (some 2) (.t 63)),
  ⟨some 65, none, .call a3h [(.t 57), (.t 64)]⟩,
  ⟨none, none, .e (.store 2 (.t 13) (.t 65))⟩]
def b8s : List AIns := [opI 66 (.bin .add (.t 49) (.c (.int .i64 1))),
  mvI 49 66]
def d3Z : ACode := .seq (rgI a9r) (.seq (.cond (.t 50) (.skip) (.exit 0)) (.seq (.block 1 (.seq (rgI b8v) (.seq (rgI b8u) (.region b8t true)))) (rgI b8s)))
def b8r : List AIns := [mvI 67 4,
  opI 68 (.mv (.c (.int .i64 0)))]
def a9q : List AIns := [opI 69 (.bin .lss (.t 68) (.t 67))]
def b8q : List AIns := [mvI 70 68,
  mvI 16 70]
def b8p : List AIns := [mvI 72 12,
  mvI 73 16,
  opI 74 (.mlook (.t 72) (.t 73)),
  mvI 71 74,
  opI 75 (.ext (.t 71) 0),
  opI 76 (.ext (.t 71) 1),
  mvI 17 75,
  mvI 18 76]
def b8o : List AIns := [mvI 77 18]
def b8n : List AIns := [mvI 78 4,
  ⟨some 79, none, .e (.mksl 2 32 (.agg [.bool false, .nil]) (.t 78) (.t 78))⟩,
  mvI 19 79]
def b8m : List AIns := [mvI 80 19,
  mvI 81 16,
  opI 82 (.load (some 2) (.t 13)),
  opI 83 (.idxp 2 (.t 80) (.t 81)),
  ⟨none, none, .e (.store 2 (.t 83) (.t 82))⟩]
def b8l : List AIns := [mvI 84 12,
  ⟨some 85, none, .e (.mrng (.t 84))⟩]
def b8k : List AIns := [⟨some 86, none, .nxt (.t 85)⟩,
  opI 87 (.ext (.t 86) 0)]
def b8j : List AIns := [opI 88 (.ment (.t 85)),
  opI 89 (.ext (.t 88) 0),
  opI 90 (.ext (.t 88) 1),
  mvI 20 89,
  mvI 21 90]
def b8i : List AIns := [opI 92 (.load (some 2) (.t 13)),
  mvI 93 9,
  mvI 94 21,
  opI 95 (.idxp 1 (.t 93) (.t 94)),
  opI 96 (.load none (.t 95)),
  mvI 97 16,
  opI 98 (.idxp 2 (.t 96) (.t 97)),
  opI 99 (.load (some 2) (.t 98)),
  ⟨some 100, none, .call a3h [(.t 92), (.t 99)]⟩,
  mvI 101 9,
  mvI 102 21,
  opI 103 (.idxp 1 (.t 101) (.t 102)),
  opI 104 (.load none (.t 103)),
  mvI 105 20,
  opI 106 (.idxp 2 (.t 104) (.t 105)),
  opI 107 (.load (some 2) (.t 106)),
  ⟨some 108, none, .call a4F [(.t 100), (.t 107)]⟩,
  mvI 91 108,
  opI 109 (.ext (.t 91) 0),
  opI 110 (.ext (.t 91) 1),
  opI 111 (.ext (.t 91) 2)]
def b4c : List AIns := [⟨some 22, none, .e (.box 2 (.c (.agg [.bool false, .nil])))⟩,
  ⟨some 23, none, .e (.box 2 (.c (.agg [.bool false, .nil])))⟩,
  ⟨none, none, .e (.store 2 (.t 22) (.t 109))⟩,
  ⟨none, none, .e (.store 2 (.t 23) (.t 110))⟩,
  mvI 24 111]
def b4b : List AIns := [⟨some 23, none, .e (.box 2 (.c (.agg [.bool false, .nil])))⟩,
  ⟨some 22, none, .e (.box 2 (.c (.agg [.bool false, .nil])))⟩,
  ⟨none, none, .e (.store 2 (.t 22) (.t 109))⟩,
  ⟨none, none, .e (.store 2 (.t 23) (.t 110))⟩,
  mvI 24 111]
def b8h : List AIns := [mvI 112 19,
  mvI 113 20,
  opI 114 (.load (some 2) (.t 22)),
  ⟨some 115, none, .call a7P [(.t 114)]⟩,
  opI 116 (.idxp 2 (.t 112) (.t 113)),
  ⟨none, none, .e (.store 2 (.t 116) (.t 115))⟩]
def d3X : ACode := .seq (rgI b8k) (.seq (.cond (.t 87) (.skip) (.exit 4)) (.block 5 (.seq (rgI b8j) (.seq (.regionX b8i b4c b4b []) (rgI b8h)))))
def b8g : List AIns := [mvI 117 11,
  mvI 118 19,
  ⟨some 119, none, .e (.bsl 1 [(.t 118)])⟩,
  ⟨some 120, none, .e (.app 1 24 false (.t 117) (.t 119))⟩,
  mvI 11 120]
def a9p : List AIns := [opI 121 (.bin .add (.t 68) (.c (.int .i64 1))),
  mvI 68 121]
def d3Y : ACode := .seq (rgI a9q) (.seq (.cond (.t 69) (.skip) (.exit 2)) (.seq (.block 3 (.seq (rgI b8q) (.seq (.seq (rgI b8p) (.seq (rgI b8o) (.cond (.t 77) (.exit 3) (.skip)))) (.seq (rgI b8n) (.seq (rgI b8m) (.seq (.seq (rgI b8l) (.block 4 (.loop d3X))) (rgI b8g))))))) (rgI a9p)))
def b8f : List AIns := [mvI 123 11,
  mvI 124 4,
  ⟨some 125, none, .call a3j [(.t 123), (.t 124)]⟩,
  mvI 122 125,
  opI 126 (.ext (.t 122) 0),
  opI 127 (.ext (.t 122) 1),
  mvI 11 126]
def b8e : List AIns := [mvI 128 11,
  mvI 2 128,
  opI 3 (.mv (.c (.int .i64 0)))]
def d6i : ACode := .seq (rgI b1u) (.seq (rgI b1t) (.seq (.seq (rgI b1s) (.cond (.t 32) (.seq (rgI c2V) (.ret)) (.skip))) (.seq (rgI c2U) (.seq (rgI c2T) (.seq (rgI c2S) (.seq (rgI c2R) (.seq (rgI c2Q) (.seq (.seq (rgI c2P) (.block 0 (.loop d3Z))) (.seq (.seq (rgI b8r) (.block 2 (.loop d3Y))) (.seq (rgI b8f) (.seq (rgI b8e) (.ret))))))))))))
theorem c2W : fchk Pr (fun _ _ => false) Try.f39 = some (d6i, [.tmp 2, .tmp 3], 129) := by kernel_rfl
theorem c2X : Pr.funcs[a5Z]? = some Try.f39 := Try.func39
def a8k : List AIns := [opI 2 (.mv (.c (.nil))),
  opI 3 (.mv (.c (.int .i64 0)))]
def a8j : List AIns := [mvI 21 0,
  ⟨some 22, none, .call a9v [(.t 21)]⟩,
  mvI 4 22]
def a8i : List AIns := [mvI 23 4,
  opI 24 (.bin .neq (.t 23) (.c (.int .i64 0)))]
def b5H : List AIns := [mvI 25 4,
  opI 2 (.mv (.c (.nil))),
  mvI 3 25]
def b5G : List AIns := [mvI 26 0,
  ⟨some 27, none, .call b1E [(.t 26)]⟩,
  mvI 5 27]
def b5F : List AIns := [mvI 29 0,
  mvI 30 5,
  mvI 31 5,
  ⟨some 32, none, .e (.mksl 1 24 (.nil) (.t 31) (.t 31))⟩,
  ⟨some 33, none, .call a5U [(.t 29), (.t 30), (.t 32)]⟩,
  mvI 34 0,
  opI 35 (.len (.t 34)),
  ⟨some 36, none, .call a1a [(.t 33), (.t 35)]⟩,
  mvI 28 36,
  opI 37 (.ext (.t 28) 0),
  opI 38 (.ext (.t 28) 1),
  opI 39 (.ext (.t 28) 2),
  ⟨some 8, none, .e (.box 4 (.c (.agg [.bool false, .nil, .bool false, .nil])))⟩,
  mvI 6 37,
  mvI 7 38,
  ⟨none, none, .e (.store 4 (.t 8) (.t 39))⟩]
def b5E : List AIns := [opI 9 (.mv (.c (.nil)))]
def b5D : List AIns := [opI 10 (.mv (.c (.int .i64 0)))]
def a8h : List AIns := [mvI 40 10,
  mvI 41 0,
  opI 42 (.len (.t 41)),
  opI 43 (.bin .lss (.t 40) (.t 42))]
def b5C : List AIns := [opI 11 (.mv (.c (.bool false)))]
def b2K : List AIns := [opI 12 (.mv (.c (.int .i64 0)))]
def a6S : List AIns := [mvI 46 12,
  mvI 47 7,
  opI 48 (.len (.t 47)),
  opI 49 (.bin .lss (.t 46) (.t 48))]
def a4k : List AIns := [mvI 52 11,
  mvI 53 52,
  ⟨some 54, some (53, false), .p (.mv (.t 7))⟩,
  ⟨some 55, some (53, false), .p (.mv (.t 12))⟩,
  ⟨some 56, some (53, false), .p (.idxp 1 (.t 54) (.t 55))⟩,
  ⟨some 57, some (53, false), .p (.load none (.t 56))⟩,
  ⟨some 58, some (53, false), .p (.mv (.t 10))⟩,
  ⟨some 59, some (53, false), .p (.bin .eql (.t 57) (.t 58))⟩,
  opI 60 (.pick (.t 53) (.c (.bool true)) (.t 59)),
  mvI 11 60]
def a4j : List AIns := [mvI 50 12,
  opI 51 (.bin .add (.t 50) (.c (.int .i64 1))),
  mvI 12 51]
def c9L : ACode := .seq (.seq (rgI a6S) (.cond (.t 49) (.skip) (.exit 2))) (.seq (.block 3 (rgI a4k)) (rgI a4j))
def b2J : List AIns := [mvI 61 11]
def b2I : List AIns := [opI 13 (.mv (.c (.nil)))]
def b2H : List AIns := [opI 14 (.mv (.c (.int .i64 0)))]
def a6R : List AIns := [mvI 62 14,
  mvI 63 0,
  opI 64 (.len (.t 63)),
  opI 65 (.bin .lss (.t 62) (.t 64))]
def b2G : List AIns := [mvI 68 13,
  ⟨some 69, none, .call a1K [(.c (.int .i64 0))]⟩,
  ⟨some 70, none, .call a4g [(.t 69)]⟩,
  ⟨some 71, none, .e (.bsl 4 [(.t 70)])⟩,
  ⟨some 72, none, .e (.app 4 64 false (.t 68) (.t 71))⟩,
  mvI 13 72]
def b2F : List AIns := [mvI 66 14,
  opI 67 (.bin .add (.t 66) (.c (.int .i64 1))),
  mvI 14 67]
def c9K : ACode := .seq (.seq (rgI a6R) (.cond (.t 65) (.skip) (.exit 4))) (.seq (.block 5 (rgI b2G)) (rgI b2F))
def b2E : List AIns := [mvI 73 13,
  mvI 74 10,
  ⟨some 75, none, .call a1K [(.c (.int .i64 1))]⟩,
  ⟨some 76, none, .call a4g [(.t 75)]⟩,
  opI 77 (.idxp 4 (.t 73) (.t 74)),
  ⟨none, none, .e (.store 4 (.t 77) (.t 76))⟩]
def b2D : List AIns := [opI 15 (.mv (.c (.int .i64 0)))]
def a6Q : List AIns := [mvI 78 15,
  mvI 79 7,
  opI 80 (.len (.t 79)),
  opI 81 (.bin .lss (.t 78) (.t 80))]
def b2C : List AIns := [mvI 84 13,
  mvI 85 7,
  mvI 86 15,
  opI 87 (.idxp 1 (.t 85) (.t 86)),
  opI 88 (.load none (.t 87)),
  mvI 89 6,
  mvI 90 15,
  opI 91 (.idxp 1 (.t 89) (.t 90)),
  opI 92 (.load none (.t 91)),
  mvI 93 10,
  opI 94 (.idxp 4 (.t 92) (.t 93)),
  opI 95 (.load (some 4) (.t 94)),
  ⟨some 96, none, .call a5W [(.t 95)]⟩,
  opI 97 (.idxp 4 (.t 84) (.t 88)),
  ⟨none, none, .e (.store 4 (.t 97) (.t 96))⟩]
def b2B : List AIns := [mvI 82 15,
  opI 83 (.bin .add (.t 82) (.c (.int .i64 1))),
  mvI 15 83]
def c9J : ACode := .seq (.seq (rgI a6Q) (.cond (.t 81) (.skip) (.exit 6))) (.seq (.block 7 (.region b2C true)) (rgI b2B))
def b2A : List AIns := [mvI 98 9,
  mvI 99 13,
  ⟨some 100, none, .e (.bslm 1 [(.t 99)])⟩,
  ⟨some 101, none, .e (.app 1 24 false (.t 98) (.t 100))⟩,
  mvI 9 101]
def a6P : List AIns := [mvI 44 10,
  opI 45 (.bin .add (.t 44) (.c (.int .i64 1))),
  mvI 10 45]
def c9M : ACode := .seq (.seq (rgI a8h) (.cond (.t 43) (.skip) (.exit 0))) (.seq (.block 1 (.seq (rgI b5C) (.seq (.seq (rgI b2K) (.block 2 (.loop c9L))) (.seq (.seq (rgI b2J) (.cond (.t 61) (.exit 1) (.skip))) (.seq (rgI b2I) (.seq (.seq (rgI b2H) (.block 4 (.loop c9K))) (.seq (rgI b2E) (.seq (.seq (rgI b2D) (.block 6 (.loop c9J))) (rgI b2A))))))))) (rgI a6P))
def b2z : List AIns := [mvI 103 9,
  mvI 104 0,
  opI 105 (.len (.t 104)),
  ⟨some 106, none, .call a1a [(.t 103), (.t 105)]⟩,
  mvI 102 106,
  opI 107 (.ext (.t 102) 0),
  opI 108 (.ext (.t 102) 1),
  opI 109 (.ext (.t 102) 2),
  ⟨some 18, none, .e (.box 4 (.c (.agg [.bool false, .nil, .bool false, .nil])))⟩,
  mvI 16 107,
  mvI 17 108,
  ⟨none, none, .e (.store 4 (.t 18) (.t 109))⟩]
def b2y : List AIns := [opI 19 (.mv (.c (.nil)))]
def b2x : List AIns := [opI 20 (.mv (.c (.int .i64 0)))]
def a6O : List AIns := [mvI 110 20,
  mvI 111 16,
  opI 112 (.len (.t 111)),
  opI 113 (.bin .lss (.t 110) (.t 112))]
def b2w : List AIns := [mvI 116 19,
  mvI 117 16,
  mvI 118 20,
  opI 119 (.idxp 1 (.t 117) (.t 118)),
  opI 120 (.load none (.t 119)),
  ⟨some 121, none, .call a5o [(.t 120)]⟩,
  ⟨some 122, none, .e (.bsl 1 [(.t 121)])⟩,
  ⟨some 123, none, .e (.app 1 24 false (.t 116) (.t 122))⟩,
  mvI 19 123]
def b2v : List AIns := [mvI 114 20,
  opI 115 (.bin .add (.t 114) (.c (.int .i64 1))),
  mvI 20 115]
def c9I : ACode := .seq (.seq (rgI a6O) (.cond (.t 113) (.skip) (.exit 8))) (.seq (.block 9 (rgI b2w)) (rgI b2v))
def b2u : List AIns := [mvI 124 19,
  mvI 2 124,
  opI 3 (.mv (.c (.int .i64 0)))]
def d1V : ACode := .seq (rgI a8k) (.seq (rgI a8j) (.seq (.seq (rgI a8i) (.cond (.t 24) (.seq (rgI b5H) (.ret)) (.skip))) (.seq (rgI b5G) (.seq (rgI b5F) (.seq (rgI b5E) (.seq (.seq (rgI b5D) (.block 0 (.loop c9M))) (.seq (rgI b2z) (.seq (rgI b2y) (.seq (.seq (rgI b2x) (.block 8 (.loop c9I))) (.seq (rgI b2u) (.ret)))))))))))
theorem b5I : fchk Pr (fun _ k => (k == 2)) Try.f40 = some (d1V, [.tmp 2, .tmp 3], 125) := by kernel_rfl
theorem b5J : Pr.funcs[a4G]? = some Try.f40 := Try.func40
end Go.Abs
set_option maxRecDepth 100000
noncomputable section
namespace Go.Abs
open Go.Proofs
def b9Y : List AIns := [⟨some 1, none, .e (.box 2 (.t 0))⟩,
  opI 2 (.mv (.c (.int .i64 0)))]
def b9X : List AIns := [opI 4 (.fldp (.t 1) 1),
  opI 5 (.load none (.t 4)),
  ⟨some 6, none, .call b9L [(.t 5)]⟩,
  opI 7 (.bin .eql (.t 6) (.c (.int .i64 0))),
  mvI 3 7]
def b9W : List AIns := [opI 2 (.mv (.c (.int .i64 0)))]
def b9V : List AIns := [opI 9 (.fldp (.t 1) 0),
  opI 10 (.load none (.t 9)),
  mvI 8 10]
def b9U : List AIns := [opI 2 (.mv (.c (.int .i64 (-1))))]
def b9T : List AIns := [opI 2 (.mv (.c (.int .i64 1)))]
def d4y : ACode := .seq (rgI b9Y) (.seq (.block 0 (.seq (rgI b9X) (.cond (.t 3) (.seq (rgI b9W) (.ret)) (.seq (rgI b9V) (.cond (.t 8) (.seq (rgI b9U) (.ret)) (.skip)))))) (.seq (rgI b9T) (.ret)))
theorem d1r : fchk Pr (fun _ _ => false) Try.f44 = some (d4y, [.tmp 2], 11) := by kernel_rfl
theorem d1s : Pr.funcs[a2b]? = some Try.f44 := Try.func44
def c5L : List AIns := [opI 2 (.mv (.c (.int .i64 0)))]
def c5K : List AIns := [mvI 5 0,
  opI 6 (.len (.t 5)),
  opI 7 (.mv (.c (.int .i64 0)))]
def a5D : List AIns := [opI 8 (.bin .lss (.t 7) (.t 6))]
def a8Y : List AIns := [mvI 9 7,
  opI 10 (.idxp 2 (.t 5) (.t 7)),
  opI 11 (.load (some 2) (.t 10)),
  ⟨some 4, none, .e (.box 2 (.c (.agg [.bool false, .nil])))⟩,
  mvI 3 9,
  ⟨none, none, .e (.store 2 (.t 4) (.t 11))⟩]
def a8X : List AIns := [opI 12 (.load (some 2) (.t 4)),
  ⟨some 13, none, .call a2b [(.t 12)]⟩,
  opI 14 (.bin .neq (.t 13) (.c (.int .i64 0)))]
def c5J : List AIns := [mvI 15 3,
  mvI 2 15]
def b4E : List AIns := [opI 16 (.bin .add (.t 7) (.c (.int .i64 1))),
  mvI 7 16]
def d5H : ACode := .seq (rgI a5D) (.seq (.cond (.t 8) (.skip) (.exit 0)) (.seq (.block 1 (.seq (rgI a8Y) (.seq (rgI a8X) (.cond (.t 14) (.seq (rgI c5J) (.ret)) (.skip))))) (rgI b4E)))
def c5I : List AIns := [opI 2 (.mv (.c (.int .i64 (-1))))]
def d9m : ACode := .seq (rgI c5L) (.seq (.seq (rgI c5K) (.block 0 (.loop d5H))) (.seq (rgI c5I) (.ret)))
theorem d5G : fchk Pr (fun _ _ => false) Try.f48 = some (d9m, [.tmp 2], 17) := by kernel_rfl
theorem d5I : Pr.funcs[b9N]? = some Try.f48 := Try.func48
def a5l : List AIns := [opI 2 (.mv (.c (.int .i64 0))),
  opI 3 (.mv (.c (.int .i64 0))),
  opI 4 (.mv (.c (.int .i64 0)))]
def a5k : List AIns := [mvI 9 0,
  ⟨some 10, none, .call a5Y [(.t 9)]⟩,
  mvI 8 10,
  opI 11 (.ext (.t 8) 0),
  opI 12 (.ext (.t 8) 1),
  opI 13 (.ext (.t 8) 2),
  mvI 5 11,
  mvI 6 12,
  mvI 7 13]
def a5j : List AIns := [mvI 14 7,
  opI 15 (.bin .neq (.t 14) (.c (.int .i64 0)))]
def b8d : List AIns := [mvI 16 7,
  opI 2 (.mv (.c (.int .i64 0))),
  opI 3 (.mv (.c (.int .i64 0))),
  mvI 4 16]
def a5i : List AIns := [mvI 17 5,
  opI 18 (.bin .gtr (.t 17) (.c (.int .i64 64))),
  mvI 19 18,
  ⟨some 20, some (19, false), .p (.mv (.t 6))⟩,
  ⟨some 21, some (19, false), .p (.bin .gtr (.t 20) (.c (.int .i64 64)))⟩,
  opI 22 (.pick (.t 19) (.c (.bool true)) (.t 21))]
def a9m : List AIns := [opI 2 (.mv (.c (.int .i64 0))),
  opI 3 (.mv (.c (.int .i64 0))),
  opI 4 (.mv (.c (.int .i64 60)))]
def b8c : List AIns := [mvI 23 5,
  mvI 24 6,
  mvI 2 23,
  mvI 3 24,
  opI 4 (.mv (.c (.int .i64 0)))]
def d3W : ACode := .seq (rgI a5l) (.seq (rgI a5k) (.seq (.seq (rgI a5j) (.cond (.t 15) (.seq (rgI b8d) (.ret)) (.skip))) (.seq (.seq (rgI a5i) (.cond (.t 22) (.seq (rgI a9m) (.ret)) (.skip))) (.seq (rgI b8c) (.ret)))))
theorem a9n : fchk Pr (fun _ _ => false) Try.f49 = some (d3W, [.tmp 2, .tmp 3, .tmp 4], 25) := by kernel_rfl
theorem a9o : Pr.funcs[b1G]? = some Try.f49 := Try.func49
def b1q : List AIns := [opI 4 (.mv (.c (.nil))),
  opI 5 (.mv (.c (.nil))),
  ⟨some 6, none, .e (.box 2 (.c (.agg [.bool false, .nil])))⟩,
  opI 7 (.mv (.c (.bool false)))]
def a5Q : List AIns := [mvI 18 0,
  ⟨some 19, none, .call a9D [(.t 18)]⟩,
  mvI 8 19]
def a5P : List AIns := [opI 9 (.mv (.c (.nil)))]
def a5O : List AIns := [⟨some 20, none, .call a7O [(.c (.int .i64 1))]⟩,
  ⟨some 10, none, .e (.box 2 (.c (.agg [.bool false, .nil])))⟩,
  ⟨none, none, .e (.store 2 (.t 10) (.t 20))⟩,
  opI 11 (.mv (.c (.bool false)))]
def a5N : List AIns := [mvI 21 1,
  opI 22 (.mv (.c (.int .i64 0)))]
def a5M : List AIns := [opI 23 (.bin .lss (.t 22) (.t 21))]
def b1p : List AIns := [mvI 24 22,
  mvI 12 24]
def b1o : List AIns := [mvI 25 9,
  opI 26 (.len (.t 25)),
  mvI 13 26]
def b1n : List AIns := [mvI 27 13,
  mvI 14 27]
def a2z : List AIns := [mvI 28 14,
  mvI 29 8,
  opI 30 (.len (.t 29)),
  opI 31 (.bin .lss (.t 28) (.t 30)),
  mvI 32 31,
  ⟨some 33, some (32, true), .p (.mv (.t 8))⟩,
  ⟨some 34, some (32, true), .p (.mv (.t 14))⟩,
  ⟨some 35, some (32, true), .p (.idxp 1 (.t 33) (.t 34))⟩,
  ⟨some 36, some (32, true), .p (.load none (.t 35))⟩,
  ⟨some 37, some (32, true), .p (.mv (.t 12))⟩,
  ⟨some 38, some (32, true), .p (.idxp 2 (.t 36) (.t 37))⟩,
  ⟨some 39, some (32, true), .p (.load (some 2) (.t 38))⟩,
  ⟨some 40, some (32, true), .call a2b [(.t 39)]⟩,
  ⟨some 41, some (32, true), .p (.bin .eql (.t 40) (.c (.int .i64 0)))⟩,
  opI 42 (.pick (.t 32) (.t 41) (.c (.bool false)))]
def a4V : List AIns := [mvI 43 14,
  opI 44 (.bin .add (.t 43) (.c (.int .i64 1))),
  mvI 14 44]
def c6n : ACode := .seq (.seq (rgI a2z) (.cond (.t 42) (.skip) (.exit 2))) (.block 3 (rgI a4V))
def a4U : List AIns := [mvI 45 14,
  mvI 46 8,
  opI 47 (.len (.t 46)),
  opI 48 (.bin .eql (.t 45) (.t 47))]
def a4T : List AIns := [mvI 49 14,
  mvI 50 13,
  opI 51 (.bin .neq (.t 49) (.t 50))]
def b0j : List AIns := [mvI 52 8,
  mvI 53 14,
  mvI 54 8,
  mvI 55 13,
  mvI 56 8,
  mvI 57 13,
  opI 58 (.idxp 1 (.t 56) (.t 57)),
  opI 59 (.load none (.t 58)),
  mvI 60 8,
  mvI 61 14,
  opI 62 (.idxp 1 (.t 60) (.t 61)),
  opI 63 (.load none (.t 62)),
  opI 64 (.idxp 1 (.t 52) (.t 53)),
  ⟨none, none, .e (.store 1 (.t 64) (.t 59))⟩,
  opI 65 (.idxp 1 (.t 54) (.t 55)),
  ⟨none, none, .e (.store 1 (.t 65) (.t 63))⟩]
def b0i : List AIns := [mvI 66 11,
  opI 67 (.un .not (.t 66)),
  mvI 11 67]
def a4S : List AIns := [mvI 68 13,
  opI 69 (.bin .add (.t 68) (.c (.int .i64 1))),
  mvI 15 69]
def a4R : List AIns := [mvI 70 15,
  mvI 71 8,
  opI 72 (.len (.t 71)),
  opI 73 (.bin .lss (.t 70) (.t 72))]
def b0h : List AIns := [mvI 76 8,
  mvI 77 15,
  opI 78 (.idxp 1 (.t 76) (.t 77)),
  opI 79 (.load none (.t 78)),
  opI 80 (.len (.t 79)),
  opI 81 (.bin .sub (.t 80) (.c (.int .i64 1))),
  mvI 16 81]
def a4Q : List AIns := [mvI 82 16,
  mvI 83 12,
  opI 84 (.bin .geq (.t 82) (.t 83))]
def b0g : List AIns := [mvI 87 8,
  mvI 88 13,
  opI 89 (.idxp 1 (.t 87) (.t 88)),
  opI 90 (.load none (.t 89)),
  mvI 91 12,
  opI 92 (.idxp 2 (.t 90) (.t 91)),
  opI 93 (.load (some 2) (.t 92)),
  mvI 94 8,
  mvI 95 15,
  opI 96 (.idxp 1 (.t 94) (.t 95)),
  opI 97 (.load none (.t 96)),
  mvI 98 16,
  opI 99 (.idxp 2 (.t 97) (.t 98)),
  opI 100 (.load (some 2) (.t 99)),
  ⟨some 101, none, .call a3h [(.t 93), (.t 100)]⟩,
  mvI 102 8,
  mvI 103 15,
  opI 104 (.idxp 1 (.t 102) (.t 103)),
  opI 105 (.load none (.t 104)),
  mvI 106 12,
  opI 107 (.idxp 2 (.t 105) (.t 106)),
  opI 108 (.load (some 2) (.t 107)),
  mvI 109 8,
  mvI 110 13,
  opI 111 (.idxp 1 (.t 109) (.t 110)),
  opI 112 (.load none (.t 111)),
  mvI 113 16,
  opI 114 (.idxp 2 (.t 112) (.t 113)),
  opI 115 (.load (some 2) (.t 114)),
  ⟨some 116, none, .call a3h [(.t 108), (.t 115)]⟩,
  ⟨some 117, none, .call a5u [(.t 101), (.t 116)]⟩,
  ⟨some 17, none, .e (.box 2 (.c (.agg [.bool false, .nil])))⟩,
  ⟨none, none, .e (.store 2 (.t 17) (.t 117))⟩]
def b0f : List AIns := [mvI 119 8,
  mvI 120 15,
  opI 121 (.idxp 1 (.t 119) (.t 120)),
  opI 122 (.load none (.t 121)),
  mvI 123 16,
  opI 124 (.load (some 2) (.t 17)),
  opI 125 (.load (some 2) (.t 10)),
  ⟨some 126, none, .call a4F [(.t 124), (.t 125)]⟩,
  mvI 118 126,
  opI 127 (.ext (.t 118) 0),
  opI 128 (.ext (.t 118) 1),
  opI 129 (.ext (.t 118) 2),
  opI 130 (.idxp 2 (.t 122) (.t 123)),
  ⟨none, none, .e (.store 2 (.t 130) (.t 127))⟩]
def b0e : List AIns := [mvI 85 16,
  opI 86 (.bin .sub (.t 85) (.c (.int .i64 1))),
  mvI 16 86]
def c6m : ACode := .seq (.seq (rgI a4Q) (.cond (.t 84) (.skip) (.exit 6))) (.seq (.block 7 (.seq (.region b0g true) (.region b0f true))) (rgI b0e))
def b0d : List AIns := [mvI 74 15,
  opI 75 (.bin .add (.t 74) (.c (.int .i64 1))),
  mvI 15 75]
def b1r : ACode := .seq (.seq (rgI a4R) (.cond (.t 73) (.skip) (.exit 4))) (.seq (.block 5 (.seq (rgI b0h) (.block 6 (.loop c6m)))) (rgI b0d))
def a4P : List AIns := [mvI 131 8,
  mvI 132 13,
  opI 133 (.idxp 1 (.t 131) (.t 132)),
  opI 134 (.load none (.t 133)),
  mvI 135 12,
  opI 136 (.idxp 2 (.t 134) (.t 135)),
  opI 137 (.load (some 2) (.t 136)),
  ⟨none, none, .e (.store 2 (.t 10) (.t 137))⟩]
def a4O : List AIns := [mvI 138 9,
  mvI 139 12,
  ⟨some 140, none, .e (.bsl 1 [(.t 139)])⟩,
  ⟨some 141, none, .e (.app 1 8 false (.t 138) (.t 140))⟩,
  mvI 9 141]
def a2W : List AIns := [opI 142 (.bin .add (.t 22) (.c (.int .i64 1))),
  mvI 22 142]
def a5R : ACode := .seq (rgI a5M) (.seq (.cond (.t 23) (.skip) (.exit 0)) (.seq (.block 1 (.seq (rgI b1p) (.seq (rgI b1o) (.seq (rgI b1n) (.seq (.block 2 (.loop c6n)) (.seq (.seq (rgI a4U) (.cond (.t 48) (.exit 1) (.skip))) (.seq (.seq (rgI a4T) (.cond (.t 51) (.seq (.region b0j true) (rgI b0i)) (.skip))) (.seq (.seq (rgI a4S) (.block 4 (.loop b1r))) (.seq (rgI a4P) (rgI a4O)))))))))) (rgI a2W)))
def a2V : List AIns := [mvI 143 8,
  mvI 144 9,
  opI 145 (.load (some 2) (.t 10)),
  mvI 146 11,
  mvI 4 143,
  mvI 5 144,
  ⟨none, none, .e (.store 2 (.t 6) (.t 145))⟩,
  mvI 7 146]
def c7d : ACode := .seq (rgI b1q) (.scope (.seq (rgI a5Q) (.seq (rgI a5P) (.seq (rgI a5O) (.seq (.label 0) (.seq (.seq (rgI a5N) (.block 0 (.loop a5R))) (.seq (.region a2V true) (.ret))))))))
theorem c6l : fchk Pr (fun _ _ => false) Try.f50 = some (c7d, [.tmp 4, .tmp 5, .cell 6 (some 2), .tmp 7], 147) := by kernel_rfl
theorem c6o : Pr.funcs[a4t]? = some Try.f50 := Try.func50
def a4o : List AIns := [opI 2 (.mv (.c (.int .i64 0)))]
def a4n : List AIns := [mvI 7 0,
  ⟨some 8, none, .call a3D [(.t 7)]⟩,
  mvI 6 8,
  opI 9 (.ext (.t 6) 0),
  opI 10 (.ext (.t 6) 1),
  opI 11 (.ext (.t 6) 2),
  mvI 3 9,
  mvI 4 10,
  mvI 5 11]
def a4m : List AIns := [mvI 12 5,
  opI 13 (.bin .neq (.t 12) (.c (.int .i64 0)))]
def b2M : List AIns := [opI 2 (.mv (.c (.int .i64 8)))]
def a4l : List AIns := [mvI 14 3,
  opI 15 (.bin .gtr (.t 14) (.c (.int .i64 64))),
  mvI 16 15,
  ⟨some 17, some (16, false), .p (.mv (.t 4))⟩,
  ⟨some 18, some (16, false), .p (.bin .gtr (.t 17) (.c (.int .i64 64)))⟩,
  opI 19 (.pick (.t 16) (.c (.bool true)) (.t 18))]
def a6T : List AIns := [opI 2 (.mv (.c (.int .i64 60)))]
def b2L : List AIns := [opI 2 (.mv (.c (.int .i64 0)))]
def c9N : ACode := .seq (rgI a4o) (.seq (rgI a4n) (.seq (.seq (rgI a4m) (.cond (.t 13) (.seq (rgI b2M) (.ret)) (.skip))) (.seq (.seq (rgI a4l) (.cond (.t 19) (.seq (rgI a6T) (.ret)) (.skip))) (.seq (rgI b2L) (.ret)))))
theorem a6U : fchk Pr (fun _ _ => false) Try.f51 = some (c9N, [.tmp 2], 20) := by kernel_rfl
theorem a6V : Pr.funcs[a9v]? = some Try.f51 := Try.func51
def a9M : List AIns := [opI 4 (.mv (.c (.nil))),
  opI 5 (.mv (.c (.nil))),
  ⟨some 6, none, .e (.box 4 (.c (.agg [.bool false, .nil, .bool false, .nil])))⟩]
def a9L : List AIns := [⟨some 15, none, .call a1K [(.c (.int .i64 1))]⟩,
  ⟨some 16, none, .call a4g [(.t 15)]⟩,
  ⟨some 7, none, .e (.box 4 (.c (.agg [.bool false, .nil, .bool false, .nil])))⟩,
  ⟨none, none, .e (.store 4 (.t 7) (.t 16))⟩]
def a9K : List AIns := [opI 8 (.mv (.c (.nil)))]
def a9J : List AIns := [opI 9 (.mv (.c (.int .i64 0)))]
def a9I : List AIns := [opI 10 (.mv (.c (.int .i64 0)))]
def a4J : List AIns := [mvI 17 10,
  mvI 18 1,
  opI 19 (.bin .lss (.t 17) (.t 18))]
def a9H : List AIns := [mvI 22 9,
  mvI 11 22]
def a2d : List AIns := [mvI 23 11,
  mvI 24 0,
  opI 25 (.len (.t 24)),
  opI 26 (.bin .lss (.t 23) (.t 25)),
  mvI 27 26,
  ⟨some 28, some (27, true), .p (.mv (.t 0))⟩,
  ⟨some 29, some (27, true), .p (.mv (.t 11))⟩,
  ⟨some 30, some (27, true), .p (.idxp 1 (.t 28) (.t 29))⟩,
  ⟨some 31, some (27, true), .p (.load none (.t 30))⟩,
  ⟨some 32, some (27, true), .p (.mv (.t 10))⟩,
  ⟨some 33, some (27, true), .p (.idxp 4 (.t 31) (.t 32))⟩,
  ⟨some 34, some (27, true), .p (.load (some 4) (.t 33))⟩,
  ⟨some 35, some (27, true), .call a6H [(.t 34)]⟩,
  opI 36 (.pick (.t 27) (.t 35) (.c (.bool false)))]
def a4I : List AIns := [mvI 37 11,
  opI 38 (.bin .add (.t 37) (.c (.int .i64 1))),
  mvI 11 38]
def c3d : ACode := .seq (.seq (rgI a2d) (.cond (.t 36) (.skip) (.exit 2))) (.block 3 (rgI a4I))
def a4H : List AIns := [mvI 39 11,
  mvI 40 0,
  opI 41 (.len (.t 40)),
  opI 42 (.bin .eql (.t 39) (.t 41))]
def a7y : List AIns := [⟨some 43, none, .call a1K [(.c (.int .i64 0))]⟩,
  ⟨some 44, none, .call a4g [(.t 43)]⟩,
  ⟨none, none, .e (.store 4 (.t 7) (.t 44))⟩]
def a3Y : List AIns := [mvI 45 11,
  mvI 46 9,
  opI 47 (.bin .neq (.t 45) (.t 46))]
def a7x : List AIns := [mvI 48 0,
  mvI 49 11,
  mvI 50 0,
  mvI 51 9,
  mvI 52 0,
  mvI 53 9,
  opI 54 (.idxp 1 (.t 52) (.t 53)),
  opI 55 (.load none (.t 54)),
  mvI 56 0,
  mvI 57 11,
  opI 58 (.idxp 1 (.t 56) (.t 57)),
  opI 59 (.load none (.t 58)),
  opI 60 (.idxp 1 (.t 48) (.t 49)),
  ⟨none, none, .e (.store 1 (.t 60) (.t 55))⟩,
  opI 61 (.idxp 1 (.t 50) (.t 51)),
  ⟨none, none, .e (.store 1 (.t 61) (.t 59))⟩]
def a7w : List AIns := [opI 62 (.load (some 4) (.t 7)),
  ⟨some 63, none, .call a5W [(.t 62)]⟩,
  ⟨none, none, .e (.store 4 (.t 7) (.t 63))⟩]
def a3X : List AIns := [mvI 64 0,
  mvI 65 9,
  opI 66 (.idxp 1 (.t 64) (.t 65)),
  opI 67 (.load none (.t 66)),
  mvI 68 10,
  opI 69 (.idxp 4 (.t 67) (.t 68)),
  opI 70 (.load (some 4) (.t 69)),
  ⟨some 12, none, .e (.box 4 (.c (.agg [.bool false, .nil, .bool false, .nil])))⟩,
  ⟨none, none, .e (.store 4 (.t 12) (.t 70))⟩]
def a3W : List AIns := [opI 71 (.load (some 4) (.t 7)),
  opI 72 (.load (some 4) (.t 12)),
  ⟨some 73, none, .call a9w [(.t 71), (.t 72)]⟩,
  ⟨none, none, .e (.store 4 (.t 7) (.t 73))⟩]
def a3V : List AIns := [opI 13 (.mv (.c (.int .i64 0)))]
def a3U : List AIns := [mvI 74 13,
  mvI 75 1,
  opI 76 (.bin .lss (.t 74) (.t 75))]
def a7v : List AIns := [mvI 79 0,
  mvI 80 9,
  opI 81 (.idxp 1 (.t 79) (.t 80)),
  opI 82 (.load none (.t 81)),
  mvI 83 13,
  mvI 84 0,
  mvI 85 9,
  opI 86 (.idxp 1 (.t 84) (.t 85)),
  opI 87 (.load none (.t 86)),
  mvI 88 13,
  opI 89 (.idxp 4 (.t 87) (.t 88)),
  opI 90 (.load (some 4) (.t 89)),
  opI 91 (.load (some 4) (.t 12)),
  ⟨some 92, none, .call b4Q [(.t 90), (.t 91)]⟩,
  opI 93 (.idxp 4 (.t 82) (.t 83)),
  ⟨none, none, .e (.store 4 (.t 93) (.t 92))⟩]
def a7u : List AIns := [mvI 77 13,
  opI 78 (.bin .add (.t 77) (.c (.int .i64 1))),
  mvI 13 78]
def a9O : ACode := .seq (.seq (rgI a3U) (.cond (.t 76) (.skip) (.exit 4))) (.seq (.block 5 (.region a7v true)) (rgI a7u))
def a3T : List AIns := [opI 14 (.mv (.c (.int .i64 0)))]
def a3S : List AIns := [mvI 94 14,
  mvI 95 0,
  opI 96 (.len (.t 95)),
  opI 97 (.bin .lss (.t 94) (.t 96))]
def a3R : List AIns := [mvI 100 14,
  mvI 101 9,
  opI 102 (.bin .neq (.t 100) (.t 101)),
  mvI 103 102,
  ⟨some 104, some (103, true), .p (.mv (.t 0))⟩,
  ⟨some 105, some (103, true), .p (.mv (.t 14))⟩,
  ⟨some 106, some (103, true), .p (.idxp 1 (.t 104) (.t 105))⟩,
  ⟨some 107, some (103, true), .p (.load none (.t 106))⟩,
  ⟨some 108, some (103, true), .p (.mv (.t 10))⟩,
  ⟨some 109, some (103, true), .p (.idxp 4 (.t 107) (.t 108))⟩,
  ⟨some 110, some (103, true), .p (.load (some 4) (.t 109))⟩,
  ⟨some 111, some (103, true), .call a6H [(.t 110)]⟩,
  ⟨some 112, some (103, true), .p (.un .not (.t 111))⟩,
  opI 113 (.pick (.t 103) (.t 112) (.c (.bool false)))]
def a7t : List AIns := [mvI 114 0,
  mvI 115 14,
  mvI 116 9,
  mvI 117 0,
  mvI 118 14,
  opI 119 (.idxp 1 (.t 117) (.t 118)),
  opI 120 (.load none (.t 119)),
  mvI 121 10,
  opI 122 (.idxp 4 (.t 120) (.t 121)),
  opI 123 (.load (some 4) (.t 122)),
  ⟨some 124, none, .call a6I [(.t 114), (.t 115), (.t 116), (.t 123)]⟩]
def a2I : List AIns := [mvI 98 14,
  opI 99 (.bin .add (.t 98) (.c (.int .i64 1))),
  mvI 14 99]
def a9N : ACode := .seq (.seq (rgI a3S) (.cond (.t 97) (.skip) (.exit 6))) (.seq (.block 7 (.seq (rgI a3R) (.cond (.t 113) (rgI a7t) (.skip)))) (rgI a2I))
def a3Q : List AIns := [mvI 125 8,
  mvI 126 10,
  ⟨some 127, none, .e (.bsl 1 [(.t 126)])⟩,
  ⟨some 128, none, .e (.app 1 8 false (.t 125) (.t 127))⟩,
  mvI 8 128]
def a3P : List AIns := [mvI 129 9,
  opI 130 (.bin .add (.t 129) (.c (.int .i64 1))),
  mvI 9 130]
def a2H : List AIns := [mvI 20 10,
  opI 21 (.bin .add (.t 20) (.c (.int .i64 1))),
  mvI 10 21]
def a9P : ACode := .seq (.seq (rgI a4J) (.cond (.t 19) (.skip) (.exit 0))) (.seq (.block 1 (.seq (rgI a9H) (.seq (.block 2 (.loop c3d)) (.seq (.seq (rgI a4H) (.cond (.t 42) (.seq (rgI a7y) (.exit 1)) (.skip))) (.seq (.seq (rgI a3Y) (.cond (.t 47) (.seq (.region a7x true) (rgI a7w)) (.skip))) (.seq (rgI a3X) (.seq (rgI a3W) (.seq (.seq (rgI a3V) (.block 4 (.loop a9O))) (.seq (.seq (rgI a3T) (.block 6 (.loop a9N))) (.seq (rgI a3Q) (rgI a3P))))))))))) (rgI a2H))
def a3O : List AIns := [mvI 131 0,
  mvI 132 9,
  opI 133 (.slc 1 (.t 131) none (some (.t 132)) none),
  mvI 134 8,
  opI 135 (.load (some 4) (.t 7)),
  mvI 4 133,
  mvI 5 134,
  ⟨none, none, .e (.store 4 (.t 6) (.t 135))⟩]
def c4q : ACode := .seq (rgI a9M) (.seq (rgI a9L) (.seq (rgI a9K) (.seq (rgI a9J) (.seq (.seq (rgI a9I) (.block 0 (.loop a9P))) (.seq (.region a3O true) (.ret))))))
theorem c3c : fchk Pr (fun _ _ => false) Try.f52 = some (c4q, [.tmp 4, .tmp 5, .cell 6 (some 4)], 136) := by kernel_rfl
theorem c3e : Pr.funcs[a1a]? = some Try.f52 := Try.func52
def b5u : List AIns := [opI 2 (.mv (.c (.nil)))]
def b5t : List AIns := [opI 3 (.mv (.c (.nil)))]
def b5s : List AIns := [opI 4 (.mv (.c (.int .i64 0)))]
def a8f : List AIns := [mvI 7 4,
  mvI 8 0,
  opI 9 (.len (.t 8)),
  opI 10 (.bin .lss (.t 7) (.t 9))]
def b5r : List AIns := [opI 5 (.mv (.c (.nil)))]
def b5q : List AIns := [opI 6 (.mv (.c (.int .i64 0)))]
def a8e : List AIns := [mvI 13 6,
  mvI 14 0,
  mvI 15 4,
  opI 16 (.idxp 1 (.t 14) (.t 15)),
  opI 17 (.load none (.t 16)),
  opI 18 (.len (.t 17)),
  opI 19 (.bin .lss (.t 13) (.t 18))]
def b5p : List AIns := [mvI 22 5,
  mvI 23 0,
  mvI 24 4,
  opI 25 (.idxp 1 (.t 23) (.t 24)),
  opI 26 (.load none (.t 25)),
  mvI 27 6,
  opI 28 (.idxp 2 (.t 26) (.t 27)),
  opI 29 (.load (some 2) (.t 28)),
  ⟨some 30, none, .call a4g [(.t 29)]⟩,
  ⟨some 31, none, .e (.bsl 4 [(.t 30)])⟩,
  ⟨some 32, none, .e (.app 4 64 false (.t 22) (.t 31))⟩,
  mvI 5 32]
def b5o : List AIns := [mvI 20 6,
  opI 21 (.bin .add (.t 20) (.c (.int .i64 1))),
  mvI 6 21]
def c9A : ACode := .seq (.seq (rgI a8e) (.cond (.t 19) (.skip) (.exit 2))) (.seq (.block 3 (rgI b5p)) (rgI b5o))
def b5n : List AIns := [mvI 33 3,
  mvI 34 5,
  ⟨some 35, none, .e (.bslm 1 [(.t 34)])⟩,
  ⟨some 36, none, .e (.app 1 24 false (.t 33) (.t 35))⟩,
  mvI 3 36]
def b2t : List AIns := [mvI 11 4,
  opI 12 (.bin .add (.t 11) (.c (.int .i64 1))),
  mvI 4 12]
def c9B : ACode := .seq (.seq (rgI a8f) (.cond (.t 10) (.skip) (.exit 0))) (.seq (.block 1 (.seq (rgI b5r) (.seq (.seq (rgI b5q) (.block 2 (.loop c9A))) (rgI b5n)))) (rgI b2t))
def b2r : List AIns := [mvI 37 3,
  mvI 2 37]
def d1S : ACode := .seq (rgI b5u) (.seq (rgI b5t) (.seq (.seq (rgI b5s) (.block 0 (.loop c9B))) (.seq (rgI b2r) (.ret))))
theorem c9z : fchk Pr (fun _ k => (k == 2)) Try.f53 = some (d1S, [.tmp 2], 38) := by kernel_rfl
theorem c9C : Pr.funcs[b1D]? = some Try.f53 := Try.func53
def b5B : List AIns := [opI 2 (.mv (.c (.int .i64 0)))]
def b5A : List AIns := [mvI 7 0,
  ⟨some 8, none, .call a3D [(.t 7)]⟩,
  mvI 6 8,
  opI 9 (.ext (.t 6) 0),
  opI 10 (.ext (.t 6) 1),
  opI 11 (.ext (.t 6) 2),
  mvI 3 9,
  mvI 4 10,
  mvI 5 11]
def b5z : List AIns := [mvI 12 4,
  mvI 2 12]
def d1U : ACode := .seq (rgI b5B) (.seq (rgI b5A) (.seq (rgI b5z) (.ret)))
theorem c9G : fchk Pr (fun _ _ => false) Try.f54 = some (d1U, [.tmp 2], 13) := by kernel_rfl
theorem c9H : Pr.funcs[b1E]? = some Try.f54 := Try.func54
def c2A : List AIns := [⟨some 1, none, .e (.box 2 (.t 0))⟩,
  ⟨some 2, none, .e (.box 2 (.c (.agg [.bool false, .nil])))⟩]
def c2z : List AIns := [opI 3 (.mv (.c (.nil)))]
def c2y : List AIns := [mvI 4 3,
  opI 5 (.fldp (.t 1) 1),
  opI 6 (.load none (.t 5)),
  ⟨some 7, none, .e (.app 1 4 false (.t 4) (.t 6))⟩,
  mvI 3 7]
def c2x : List AIns := [mvI 8 3,
  ⟨some 9, none, .e (.bsl 1 [(.c (.int .u32 77)), (.c (.int .u32 78)), (.c (.int .u32 79)), (.c (.int .u32 80)), (.c (.int .u32 81)), (.c (.int .u32 82)), (.c (.int .u32 83)), (.c (.int .u32 84)), (.c (.int .u32 85))])⟩,
  ⟨some 10, none, .e (.app 1 4 false (.t 8) (.t 9))⟩,
  mvI 3 10]
def c2w : List AIns := [opI 11 (.fldp (.t 1) 0),
  opI 12 (.load none (.t 11)),
  mvI 13 3,
  opI 14 (.fldp (.t 1) 1),
  opI 15 (.load none (.t 14)),
  opI 16 (.len (.t 15)),
  opI 17 (.slc 1 (.t 13) none (some (.t 16)) none),
  opI 18 (.bld [.bool false, .nil] [(0, 1, (.t 12)), (1, 1, (.t 17))]),
  ⟨none, none, .e (.store 2 (.t 2) (.t 18))⟩]
def d5N : ACode := .seq (rgI c2A) (.seq (rgI c2z) (.seq (rgI c2y) (.seq (rgI c2x) (.seq (.region c2w true) (.ret)))))
theorem d3A : fchk Pr (fun _ _ => false) Try.f57 = some (d5N, [.cell 2 (some 2)], 19) := by kernel_rfl
theorem d3B : Pr.funcs[b4V]? = some Try.f57 := Try.func57
def c7k : List AIns := [⟨some 2, none, .e (.box 2 (.c (.agg [.bool false, .nil])))⟩]
def c7j : List AIns := [mvI 4 0,
  opI 5 (.conv .u64 (.t 4)),
  mvI 3 5]
def c7i : List AIns := [mvI 6 0,
  opI 7 (.bin .lss (.t 6) (.c (.int .i64 0)))]
def c7h : List AIns := [mvI 8 3,
  opI 9 (.un .neg (.t 8)),
  mvI 3 9]
def b8G : List AIns := [mvI 10 0,
  opI 11 (.bin .lss (.t 10) (.c (.int .i64 0))),
  mvI 12 3,
  opI 13 (.conv .u32 (.t 12)),
  mvI 14 3,
  opI 15 (.bin .shr (.t 14) (.c (.int .u64 32))),
  opI 16 (.conv .u32 (.t 15)),
  ⟨some 17, none, .e (.bsl 1 [(.t 13), (.t 16)])⟩,
  ⟨some 18, none, .call a1i [(.t 11), (.t 17)]⟩,
  ⟨none, none, .e (.store 2 (.t 2) (.t 18))⟩]
def d9L : ACode := .seq (rgI c7k) (.seq (rgI c7j) (.seq (.seq (rgI c7i) (.cond (.t 7) (rgI c7h) (.skip))) (.seq (rgI b8G) (.ret))))
theorem d7S : fchk Pr (fun _ _ => false) Try.f60 = some (d9L, [.cell 2 (some 2)], 19) := by kernel_rfl
theorem d7T : Pr.funcs[a7O]? = some Try.f60 := Try.func60
def c4y : List AIns := [⟨some 2, none, .e (.box 2 (.c (.agg [.bool false, .nil])))⟩]
def c4x : List AIns := [mvI 4 0,
  opI 5 (.conv .u64 (.t 4)),
  mvI 3 5]
def c4w : List AIns := [mvI 6 0,
  opI 7 (.bin .lss (.t 6) (.c (.int .i64 0)))]
def c4v : List AIns := [mvI 8 3,
  opI 9 (.un .neg (.t 8)),
  mvI 3 9]
def b4j : List AIns := [mvI 10 0,
  opI 11 (.bin .lss (.t 10) (.c (.int .i64 0))),
  mvI 12 3,
  opI 13 (.conv .u32 (.t 12)),
  mvI 14 3,
  opI 15 (.bin .shr (.t 14) (.c (.int .u64 32))),
  opI 16 (.conv .u32 (.t 15)),
  ⟨some 17, none, .e (.bsl 1 [(.t 13), (.t 16)])⟩,
  ⟨some 18, none, .call a1o [(.t 11), (.t 17)]⟩,
  ⟨none, none, .e (.store 2 (.t 2) (.t 18))⟩]
def d8u : ACode := .seq (rgI c4y) (.seq (rgI c4x) (.seq (.seq (rgI c4w) (.cond (.t 7) (rgI c4v) (.skip))) (.seq (rgI b4j) (.ret))))
theorem d4Y : fchk Pr (fun _ _ => false) Try.f63 = some (d8u, [.cell 2 (some 2)], 19) := by kernel_rfl
theorem d4Z : Pr.funcs[a1K]? = some Try.f63 := Try.func63
def b8b : List AIns := [opI 4 (.mv (.c (.nil))),
  opI 5 (.mv (.c (.nil)))]
def b8a : List AIns := [mvI 18 0,
  mvI 19 1,
  ⟨some 20, none, .call a4t [(.t 18), (.t 19)]⟩,
  mvI 17 20,
  opI 21 (.ext (.t 17) 0),
  opI 22 (.ext (.t 17) 1),
  opI 23 (.ext (.t 17) 2),
  opI 24 (.ext (.t 17) 3),
  ⟨some 8, none, .e (.box 2 (.c (.agg [.bool false, .nil])))⟩,
  mvI 6 21,
  mvI 7 22,
  ⟨none, none, .e (.store 2 (.t 8) (.t 23))⟩,
  mvI 9 24]
def b7Z : List AIns := [mvI 25 6,
  mvI 26 7,
  opI 27 (.len (.t 26)),
  mvI 28 7,
  opI 29 (.len (.t 28)),
  opI 30 (.slc 1 (.t 25) none (some (.t 27)) (some (.t 29))),
  mvI 6 30]
def b7Y : List AIns := [mvI 31 6,
  opI 32 (.len (.t 31)),
  opI 33 (.mv (.c (.int .i64 0)))]
def a9l : List AIns := [opI 34 (.bin .lss (.t 33) (.t 32))]
def b7X : List AIns := [mvI 35 33,
  mvI 10 35]
def b7W : List AIns := [mvI 36 6,
  mvI 37 10,
  mvI 38 6,
  mvI 39 10,
  opI 40 (.idxp 1 (.t 38) (.t 39)),
  opI 41 (.load none (.t 40)),
  ⟨some 42, none, .call a2O [(.t 41)]⟩,
  opI 43 (.idxp 1 (.t 36) (.t 37)),
  ⟨none, none, .e (.store 1 (.t 43) (.t 42))⟩]
def b7V : List AIns := [opI 44 (.bin .add (.t 33) (.c (.int .i64 1))),
  mvI 33 44]
def d0X : ACode := .seq (rgI a9l) (.seq (.cond (.t 34) (.skip) (.exit 0)) (.seq (.block 1 (.seq (rgI b7X) (rgI b7W))) (rgI b7V)))
def b7U : List AIns := [mvI 45 6,
  opI 46 (.len (.t 45)),
  opI 47 (.bin .sub (.t 46) (.c (.int .i64 1))),
  mvI 11 47]
def a9k : List AIns := [mvI 48 11,
  opI 49 (.bin .geq (.t 48) (.c (.int .i64 0)))]
def b3I : List AIns := [mvI 52 7,
  mvI 53 11,
  opI 54 (.idxp 1 (.t 52) (.t 53)),
  opI 55 (.load none (.t 54)),
  mvI 12 55]
def b3H : List AIns := [mvI 56 11,
  opI 57 (.mv (.c (.int .i64 0)))]
def a7i : List AIns := [opI 58 (.bin .lss (.t 57) (.t 56))]
def b3G : List AIns := [mvI 59 57,
  mvI 13 59]
def b3F : List AIns := [mvI 60 6,
  mvI 61 13,
  opI 62 (.idxp 1 (.t 60) (.t 61)),
  opI 63 (.load none (.t 62)),
  mvI 64 12,
  opI 65 (.idxp 2 (.t 63) (.t 64)),
  opI 66 (.load (some 2) (.t 65)),
  ⟨some 14, none, .e (.box 2 (.c (.agg [.bool false, .nil])))⟩,
  ⟨none, none, .e (.store 2 (.t 14) (.t 66))⟩]
def b3E : List AIns := [opI 67 (.load (some 2) (.t 14)),
  ⟨some 68, none, .call a2b [(.t 67)]⟩,
  opI 69 (.bin .eql (.t 68) (.c (.int .i64 0)))]
def b3D : List AIns := [opI 15 (.mv (.c (.nil)))]
def b3C : List AIns := [mvI 70 6,
  mvI 71 13,
  opI 72 (.idxp 1 (.t 70) (.t 71)),
  opI 73 (.load none (.t 72)),
  opI 74 (.len (.t 73)),
  opI 75 (.mv (.c (.int .i64 0)))]
def a7h : List AIns := [opI 76 (.bin .lss (.t 75) (.t 74))]
def b3B : List AIns := [mvI 77 75,
  mvI 16 77]
def b3A : List AIns := [mvI 78 15,
  mvI 79 6,
  mvI 80 11,
  opI 81 (.idxp 1 (.t 79) (.t 80)),
  opI 82 (.load none (.t 81)),
  mvI 83 12,
  opI 84 (.idxp 2 (.t 82) (.t 83)),
  opI 85 (.load (some 2) (.t 84)),
  mvI 86 6,
  mvI 87 13,
  opI 88 (.idxp 1 (.t 86) (.t 87)),
  opI 89 (.load none (.t 88)),
  mvI 90 16,
  opI 91 (.idxp 2 (.t 89) (.t 90)),
  opI 92 (.load (some 2) (.t 91)),
  ⟨some 93, none, .call a3h [(.t 85), (.t 92)]⟩,
  opI 94 (.load (some 2) (.t 14)),
  mvI 95 6,
  mvI 96 11,
  opI 97 (.idxp 1 (.t 95) (.t 96)),
  opI 98 (.load none (.t 97)),
  mvI 99 16,
  opI 100 (.idxp 2 (.t 98) (.t 99)),
  opI 101 (.load (some 2) (.t 100)),
  ⟨some 102, none, .call a3h [(.t 94), (.t 101)]⟩,
  ⟨some 103, none, .call a5u [(.t 93), (.t 102)]⟩,
  ⟨some 104, none, .e (.bsl 2 [(.t 103)])⟩,
  ⟨some 105, none, .e (.app 2 32 false (.t 78) (.t 104))⟩,
  mvI 15 105]
def b3z : List AIns := [opI 106 (.bin .add (.t 75) (.c (.int .i64 1))),
  mvI 75 106]
def d0U : ACode := .seq (rgI a7h) (.seq (.cond (.t 76) (.skip) (.exit 6)) (.seq (.block 7 (.seq (rgI b3B) (.region b3A true))) (rgI b3z)))
def b3y : List AIns := [mvI 107 6,
  mvI 108 13,
  mvI 109 15,
  ⟨some 110, none, .call a2O [(.t 109)]⟩,
  opI 111 (.idxp 1 (.t 107) (.t 108)),
  ⟨none, none, .e (.store 1 (.t 111) (.t 110))⟩]
def a7g : List AIns := [opI 112 (.bin .add (.t 57) (.c (.int .i64 1))),
  mvI 57 112]
def d0V : ACode := .seq (rgI a7i) (.seq (.cond (.t 58) (.skip) (.exit 4)) (.seq (.block 5 (.seq (rgI b3G) (.seq (rgI b3F) (.seq (.seq (rgI b3E) (.cond (.t 69) (.exit 5) (.skip))) (.seq (rgI b3D) (.seq (.seq (rgI b3C) (.block 6 (.loop d0U))) (rgI b3y))))))) (rgI a7g)))
def b3x : List AIns := [mvI 50 11,
  opI 51 (.bin .sub (.t 50) (.c (.int .i64 1))),
  mvI 11 51]
def d0W : ACode := .seq (.seq (rgI a9k) (.cond (.t 49) (.skip) (.exit 2))) (.seq (.block 3 (.seq (rgI b3I) (.seq (rgI b3H) (.block 4 (.loop d0V))))) (rgI b3x))
def b3w : List AIns := [mvI 113 6,
  mvI 114 7,
  mvI 4 113,
  mvI 5 114]
def d3V : ACode := .seq (rgI b8b) (.seq (rgI b8a) (.seq (rgI b7Z) (.seq (.seq (rgI b7Y) (.block 0 (.loop d0X))) (.seq (.seq (rgI b7U) (.block 2 (.loop d0W))) (.seq (rgI b3w) (.ret))))))
theorem d0T : fchk Pr (fun _ _ => false) Try.f64 = some (d3V, [.tmp 4, .tmp 5], 115) := by kernel_rfl
theorem d0Y : Pr.funcs[a3j]? = some Try.f64 := Try.func64
def b2q : List AIns := [opI 2 (.mv (.c (.nil)))]
def b2p : List AIns := [⟨some 14, none, .call a1K [(.c (.int .i64 1))]⟩,
  ⟨some 3, none, .e (.box 2 (.c (.agg [.bool false, .nil])))⟩,
  ⟨none, none, .e (.store 2 (.t 3) (.t 14))⟩]
def b2o : List AIns := [opI 4 (.mv (.c (.int .i64 0)))]
def a6N : List AIns := [mvI 15 4,
  mvI 16 0,
  opI 17 (.len (.t 16)),
  opI 18 (.bin .lss (.t 15) (.t 17))]
def b2n : List AIns := [opI 21 (.load (some 2) (.t 3)),
  mvI 22 0,
  mvI 23 4,
  opI 24 (.idxp 4 (.t 22) (.t 23)),
  opI 25 (.fldp (.t 24) 2),
  opI 26 (.load (some 2) (.t 25)),
  ⟨some 27, none, .call a9x [(.t 21), (.t 26)]⟩,
  ⟨some 5, none, .e (.box 2 (.c (.agg [.bool false, .nil])))⟩,
  ⟨none, none, .e (.store 2 (.t 5) (.t 27))⟩]
def b2m : List AIns := [mvI 29 0,
  mvI 30 4,
  opI 31 (.idxp 4 (.t 29) (.t 30)),
  opI 32 (.fldp (.t 31) 2),
  opI 33 (.load (some 2) (.t 32)),
  opI 34 (.load (some 2) (.t 5)),
  ⟨some 35, none, .call a3E [(.t 33), (.t 34)]⟩,
  mvI 28 35,
  opI 36 (.ext (.t 28) 0),
  opI 37 (.ext (.t 28) 1)]
def b0v : List AIns := [⟨some 6, none, .e (.box 2 (.c (.agg [.bool false, .nil])))⟩,
  ⟨some 7, none, .e (.box 2 (.c (.agg [.bool false, .nil])))⟩,
  ⟨none, none, .e (.store 2 (.t 6) (.t 36))⟩,
  ⟨none, none, .e (.store 2 (.t 7) (.t 37))⟩]
def b0u : List AIns := [⟨some 7, none, .e (.box 2 (.c (.agg [.bool false, .nil])))⟩,
  ⟨some 6, none, .e (.box 2 (.c (.agg [.bool false, .nil])))⟩,
  ⟨none, none, .e (.store 2 (.t 6) (.t 36))⟩,
  ⟨none, none, .e (.store 2 (.t 7) (.t 37))⟩]
def b2l : List AIns := [opI 38 (.load (some 2) (.t 3)),
  opI 39 (.load (some 2) (.t 6)),
  ⟨some 40, none, .call a1b [(.t 38), (.t 39)]⟩,
  ⟨none, none, .e (.store 2 (.t 3) (.t 40))⟩]
def b2k : List AIns := [mvI 19 4,
  opI 20 (.bin .add (.t 19) (.c (.int .i64 1))),
  mvI 4 20]
def c6L : ACode := .seq (.seq (rgI a6N) (.cond (.t 18) (.skip) (.exit 0))) (.seq (.block 1 (.seq (.region b2n true) (.seq (.regionX b2m b0v b0u []) (rgI b2l)))) (rgI b2k))
def b2j : List AIns := [⟨some 41, none, .call a1K [(.c (.int .i64 0))]⟩,
  ⟨some 8, none, .e (.box 2 (.c (.agg [.bool false, .nil])))⟩,
  ⟨none, none, .e (.store 2 (.t 8) (.t 41))⟩]
def b2i : List AIns := [opI 9 (.mv (.c (.nil)))]
def b0D : List AIns := [opI 10 (.mv (.c (.int .i64 0)))]
def a5x : List AIns := [mvI 42 10,
  mvI 43 0,
  opI 44 (.len (.t 43)),
  opI 45 (.bin .lss (.t 42) (.t 44))]
def b0C : List AIns := [opI 49 (.load (some 2) (.t 3)),
  mvI 50 0,
  mvI 51 10,
  opI 52 (.idxp 4 (.t 50) (.t 51)),
  opI 53 (.fldp (.t 52) 2),
  opI 54 (.load (some 2) (.t 53)),
  ⟨some 55, none, .call a3E [(.t 49), (.t 54)]⟩,
  mvI 48 55,
  opI 56 (.ext (.t 48) 0),
  opI 57 (.ext (.t 48) 1)]
def a9G : List AIns := [⟨some 11, none, .e (.box 2 (.c (.agg [.bool false, .nil])))⟩,
  ⟨some 12, none, .e (.box 2 (.c (.agg [.bool false, .nil])))⟩,
  ⟨none, none, .e (.store 2 (.t 11) (.t 56))⟩,
  ⟨none, none, .e (.store 2 (.t 12) (.t 57))⟩]
def a9F : List AIns := [⟨some 12, none, .e (.box 2 (.c (.agg [.bool false, .nil])))⟩,
  ⟨some 11, none, .e (.box 2 (.c (.agg [.bool false, .nil])))⟩,
  ⟨none, none, .e (.store 2 (.t 11) (.t 56))⟩,
  ⟨none, none, .e (.store 2 (.t 12) (.t 57))⟩]
def b0B : List AIns := [mvI 58 9,
  mvI 59 0,
  mvI 60 10,
  opI 61 (.idxp 4 (.t 59) (.t 60)),
  opI 62 (.fldp (.t 61) 0),
  opI 63 (.load (some 2) (.t 62)),
  opI 64 (.load (some 2) (.t 11)),
  ⟨some 65, none, .call a1b [(.t 63), (.t 64)]⟩,
  ⟨some 66, none, .e (.bsl 2 [(.t 65)])⟩,
  ⟨some 67, none, .e (.app 2 32 false (.t 58) (.t 66))⟩,
  mvI 9 67]
def b0A : List AIns := [opI 68 (.load (some 2) (.t 8)),
  mvI 69 9,
  mvI 70 10,
  opI 71 (.idxp 2 (.t 69) (.t 70)),
  opI 72 (.load (some 2) (.t 71)),
  ⟨some 73, none, .call a9x [(.t 68), (.t 72)]⟩,
  ⟨none, none, .e (.store 2 (.t 8) (.t 73))⟩]
def b0z : List AIns := [mvI 46 10,
  opI 47 (.bin .add (.t 46) (.c (.int .i64 1))),
  mvI 10 47]
def c6K : ACode := .seq (.seq (rgI a5x) (.cond (.t 45) (.skip) (.exit 2))) (.seq (.block 3 (.seq (.regionX b0C a9G a9F []) (.seq (.region b0B true) (.region b0A true)))) (rgI b0z))
def b0y : List AIns := [opI 13 (.mv (.c (.int .i64 0)))]
def a2t : List AIns := [mvI 74 13,
  mvI 75 9,
  opI 76 (.len (.t 75)),
  opI 77 (.bin .lss (.t 74) (.t 76)),
  mvI 78 77,
  ⟨some 79, some (78, true), .p (.load (some 2) (.t 8))⟩,
  ⟨some 80, some (78, true), .call a1C [(.t 79)]⟩,
  ⟨some 81, some (78, true), .p (.bin .gtr (.t 80) (.c (.int .i64 0)))⟩,
  opI 82 (.pick (.t 78) (.t 81) (.c (.bool false)))]
def b0x : List AIns := [mvI 86 9,
  mvI 87 13,
  mvI 88 9,
  mvI 89 13,
  opI 90 (.idxp 2 (.t 88) (.t 89)),
  opI 91 (.load (some 2) (.t 90)),
  opI 92 (.load (some 2) (.t 8)),
  ⟨some 93, none, .call a3E [(.t 91), (.t 92)]⟩,
  mvI 85 93,
  opI 94 (.ext (.t 85) 0),
  opI 95 (.ext (.t 85) 1),
  opI 96 (.idxp 2 (.t 86) (.t 87)),
  ⟨none, none, .e (.store 2 (.t 96) (.t 94))⟩]
def b0w : List AIns := [mvI 83 13,
  opI 84 (.bin .add (.t 83) (.c (.int .i64 1))),
  mvI 13 84]
def c6J : ACode := .seq (.seq (rgI a2t) (.cond (.t 82) (.skip) (.exit 4))) (.seq (.block 5 (.region b0x true)) (rgI b0w))
def a5w : List AIns := [mvI 97 9,
  ⟨some 98, none, .call a5V [(.t 97)]⟩,
  mvI 2 98]
def c9y : ACode := .seq (rgI b2q) (.seq (rgI b2p) (.seq (.seq (rgI b2o) (.block 0 (.loop c6L))) (.seq (rgI b2j) (.seq (rgI b2i) (.seq (.seq (rgI b0D) (.block 2 (.loop c6K))) (.seq (.seq (rgI b0y) (.block 4 (.loop c6J))) (.seq (rgI a5w) (.ret))))))))
theorem c6I : fchk Pr (fun _ _ => false) Try.f65 = some (c9y, [.tmp 2], 99) := by kernel_rfl
theorem c6M : Pr.funcs[a5o]? = some Try.f65 := Try.func65
def b0Y : List AIns := [opI 2 (.mv (.c (.int .i64 0))),
  opI 3 (.mv (.c (.int .i64 0))),
  opI 4 (.mv (.c (.int .i64 0)))]
def b0X : List AIns := [mvI 7 0,
  opI 8 (.len (.t 7)),
  opI 9 (.bin .eql (.t 8) (.c (.int .i64 0)))]
def c2t : List AIns := [opI 2 (.mv (.c (.int .i64 0))),
  opI 3 (.mv (.c (.int .i64 0))),
  opI 4 (.mv (.c (.int .i64 0)))]
def b0W : List AIns := [mvI 10 0,
  opI 11 (.len (.t 10)),
  opI 12 (.mv (.c (.int .i64 0)))]
def a4z : List AIns := [opI 13 (.bin .lss (.t 12) (.t 11))]
def a6w : List AIns := [opI 14 (.idxp 1 (.t 10) (.t 12)),
  opI 15 (.load none (.t 14)),
  mvI 6 15]
def a6v : List AIns := [mvI 16 6,
  opI 17 (.len (.t 16)),
  mvI 18 0,
  opI 19 (.idxp 1 (.t 18) (.c (.int .i64 0))),
  opI 20 (.load none (.t 19)),
  opI 21 (.len (.t 20)),
  opI 22 (.bin .neq (.t 17) (.t 21))]
def c2s : List AIns := [opI 2 (.mv (.c (.int .i64 0))),
  opI 3 (.mv (.c (.int .i64 0))),
  opI 4 (.mv (.c (.int .i64 8)))]
def b0V : List AIns := [opI 23 (.bin .add (.t 12) (.c (.int .i64 1))),
  mvI 12 23]
def d3q : ACode := .seq (rgI a4z) (.seq (.cond (.t 13) (.skip) (.exit 0)) (.seq (.block 1 (.seq (rgI a6w) (.seq (rgI a6v) (.cond (.t 22) (.seq (rgI c2s) (.ret)) (.skip))))) (rgI b0V)))
def c2r : List AIns := [mvI 24 0,
  opI 25 (.len (.t 24)),
  mvI 26 0,
  opI 27 (.idxp 1 (.t 26) (.c (.int .i64 0))),
  opI 28 (.load none (.t 27)),
  opI 29 (.len (.t 28)),
  mvI 2 25,
  mvI 3 29,
  opI 4 (.mv (.c (.int .i64 0)))]
def d5F : ACode := .seq (rgI b0Y) (.seq (.seq (rgI b0X) (.cond (.t 9) (.seq (rgI c2t) (.ret)) (.skip))) (.seq (.seq (rgI b0W) (.block 0 (.loop d3q))) (.seq (.region c2r true) (.ret))))
theorem c2u : fchk Pr (fun _ _ => false) Try.f70 = some (d5F, [.tmp 2, .tmp 3, .tmp 4], 30) := by kernel_rfl
theorem c2v : Pr.funcs[a5Y]? = some Try.f70 := Try.func70
def c0a : List AIns := [⟨some 1, none, .e (.box 2 (.t 0))⟩,
  ⟨some 2, none, .e (.box 2 (.c (.agg [.bool false, .nil])))⟩]
def b9Z : List AIns := [opI 3 (.fldp (.t 1) 0),
  opI 4 (.load none (.t 3)),
  opI 5 (.fldp (.t 1) 1),
  opI 6 (.load none (.t 5)),
  ⟨some 7, none, .call a1i [(.t 4), (.t 6)]⟩,
  ⟨none, none, .e (.store 2 (.t 2) (.t 7))⟩]
def d4F : ACode := .seq (rgI c0a) (.seq (rgI b9Z) (.ret))
theorem d1t : fchk Pr (fun _ _ => false) Try.f71 = some (d4F, [.cell 2 (some 2)], 8) := by kernel_rfl
theorem d1u : Pr.funcs[b4N]? = some Try.f71 := Try.func71
def b2R : List AIns := [⟨some 2, none, .e (.box 2 (.t 0))⟩,
  opI 4 (.mv (.c (.nil)))]
def b2Q : List AIns := [opI 5 (.mv (.c (.nil)))]
def b2P : List AIns := [opI 6 (.mv (.c (.int .i64 0)))]
def a6X : List AIns := [mvI 7 6,
  mvI 8 1,
  opI 9 (.len (.t 8)),
  opI 10 (.bin .lss (.t 7) (.t 9))]
def b2O : List AIns := [mvI 13 5,
  opI 14 (.load (some 2) (.t 2)),
  mvI 15 1,
  mvI 16 6,
  opI 17 (.idxp 2 (.t 15) (.t 16)),
  opI 18 (.load (some 2) (.t 17)),
  ⟨some 19, none, .call a1b [(.t 14), (.t 18)]⟩,
  ⟨some 20, none, .e (.bsl 2 [(.t 19)])⟩,
  ⟨some 21, none, .e (.app 2 32 false (.t 13) (.t 20))⟩,
  mvI 5 21]
def b2N : List AIns := [mvI 11 6,
  opI 12 (.bin .add (.t 11) (.c (.int .i64 1))),
  mvI 6 12]
def b2S : ACode := .seq (.seq (rgI a6X) (.cond (.t 10) (.skip) (.exit 0))) (.seq (.block 1 (.region b2O true)) (rgI b2N))
def a6W : List AIns := [mvI 22 5,
  mvI 4 22]
def c9O : ACode := .seq (rgI b2R) (.seq (rgI b2Q) (.seq (.seq (rgI b2P) (.block 0 (.loop b2S))) (.seq (rgI a6W) (.ret))))
theorem c6N : fchk Pr (fun _ _ => false) Try.f72 = some (c9O, [.tmp 4], 23) := by kernel_rfl
theorem c6O : Pr.funcs[a2N]? = some Try.f72 := Try.func72
def b9R : List AIns := [⟨some 4, none, .e (.box 2 (.c (.agg [.bool false, .nil])))⟩]
def b9Q : List AIns := [mvI 7 1,
  opI 8 (.len (.t 7)),
  mvI 5 8]
def b0l : List AIns := [mvI 9 5,
  opI 10 (.bin .gtr (.t 9) (.c (.int .i64 0))),
  mvI 11 10,
  ⟨some 12, some (11, true), .p (.mv (.t 1))⟩,
  ⟨some 13, some (11, true), .p (.mv (.t 5))⟩,
  ⟨some 14, some (11, true), .p (.bin .sub (.t 13) (.c (.int .i64 1)))⟩,
  ⟨some 15, some (11, true), .p (.idxp 1 (.t 12) (.t 14))⟩,
  ⟨some 16, some (11, true), .p (.load none (.t 15))⟩,
  ⟨some 17, some (11, true), .p (.bin .eql (.t 16) (.c (.int .u32 0)))⟩,
  opI 18 (.pick (.t 11) (.t 17) (.c (.bool false)))]
def b9P : List AIns := [mvI 19 5,
  opI 20 (.bin .sub (.t 19) (.c (.int .i64 1))),
  mvI 5 20]
def b9S : ACode := .seq (.seq (rgI b0l) (.cond (.t 18) (.skip) (.exit 0))) (.block 1 (rgI b9P))
def a6h : List AIns := [mvI 21 5,
  opI 22 (.bin .eql (.t 21) (.c (.int .i64 0)))]
def a6g : List AIns := [opI 23 (.bld [.bool false, .nil] []),
  ⟨none, none, .e (.store 2 (.t 4) (.t 23))⟩]
def a6f : List AIns := [mvI 24 5,
  ⟨some 25, none, .e (.mksl 1 4 (.int .u32 0) (.t 24) (.t 24))⟩,
  mvI 6 25]
def a6e : List AIns := [mvI 26 6,
  mvI 27 1,
  ⟨some 28, none, .e (.cpy 1 (.t 26) (.t 27))⟩]
def a6d : List AIns := [mvI 29 0,
  mvI 30 6,
  opI 31 (.bld [.bool false, .nil] [(0, 1, (.t 29)), (1, 1, (.t 30))]),
  ⟨none, none, .e (.store 2 (.t 4) (.t 31))⟩]
def d4v : ACode := .seq (rgI b9R) (.seq (rgI b9Q) (.seq (.block 0 (.loop b9S)) (.seq (.seq (rgI a6h) (.cond (.t 22) (.seq (rgI a6g) (.ret)) (.skip))) (.seq (rgI a6f) (.seq (rgI a6e) (.seq (rgI a6d) (.ret)))))))
theorem d1p : fchk Pr (fun _ _ => false) Try.f73 = some (d4v, [.cell 4 (some 2)], 32) := by kernel_rfl
theorem d1q : Pr.funcs[a1i]? = some Try.f73 := Try.func73
def c8e : List AIns := [opI 4 (.mv (.c (.nil)))]
def c8d : List AIns := [mvI 9 0,
  ⟨some 10, none, .call a0u [(.t 9)]⟩,
  mvI 11 1,
  ⟨some 12, none, .call a0u [(.t 11)]⟩,
  mvI 0 10,
  mvI 1 12]
def c8c : List AIns := [mvI 13 0,
  opI 14 (.len (.t 13)),
  mvI 15 1,
  opI 16 (.len (.t 15)),
  opI 17 (.bin .add (.t 14) (.t 16)),
  ⟨some 18, none, .e (.mksl 1 4 (.int .u32 0) (.t 17) (.t 17))⟩,
  mvI 5 18]
def c8b : List AIns := [mvI 19 0,
  opI 20 (.len (.t 19)),
  opI 21 (.mv (.c (.int .i64 0)))]
def b9a : List AIns := [opI 22 (.bin .lss (.t 21) (.t 20))]
def c8a : List AIns := [mvI 23 21,
  mvI 6 23]
def c7Z : List AIns := [opI 7 (.mv (.c (.int .u64 0)))]
def c7Y : List AIns := [mvI 24 1,
  opI 25 (.len (.t 24)),
  opI 26 (.mv (.c (.int .i64 0)))]
def b8Z : List AIns := [opI 27 (.bin .lss (.t 26) (.t 25))]
def c7X : List AIns := [mvI 28 26,
  mvI 8 28]
def c5g : List AIns := [mvI 29 7,
  mvI 30 0,
  mvI 31 6,
  opI 32 (.idxp 1 (.t 30) (.t 31)),
  opI 33 (.load none (.t 32)),
  opI 34 (.conv .u64 (.t 33)),
  mvI 35 1,
  mvI 36 8,
  opI 37 (.idxp 1 (.t 35) (.t 36)),
  opI 38 (.load none (.t 37)),
  opI 39 (.conv .u64 (.t 38)),
  opI 40 (.bin .mul (.t 34) (.t 39)),
  mvI 41 5,
  mvI 42 6,
  mvI 43 8,
  opI 44 (.bin .add (.t 42) (.t 43)),
  opI 45 (.idxp 1 (.t 41) (.t 44)),
  opI 46 (.load none (.t 45)),
  opI 47 (.conv .u64 (.t 46)),
  opI 48 (.bin .add (.t 40) (.t 47)),
  opI 49 (.bin .add (.t 29) (.t 48)),
  mvI 7 49]
def c5f : List AIns := [mvI 50 5,
  mvI 51 6,
  mvI 52 8,
  opI 53 (.bin .add (.t 51) (.t 52)),
  mvI 54 7,
  opI 55 (.conv .u32 (.t 54)),
  opI 56 (.idxp 1 (.t 50) (.t 53)),
  ⟨none, none, .e (.store 1 (.t 56) (.t 55))⟩]
def c5e : List AIns := [mvI 57 7,
  opI 58 (.bin .shr (.t 57) (.c (.int .u64 32))),
  mvI 7 58]
def c5d : List AIns := [opI 59 (.bin .add (.t 26) (.c (.int .i64 1))),
  mvI 26 59]
def c8f : ACode := .seq (rgI b8Z) (.seq (.cond (.t 27) (.skip) (.exit 2)) (.seq (.block 3 (.seq (rgI c7X) (.seq (.region c5g true) (.seq (rgI c5f) (rgI c5e))))) (rgI c5d)))
def c5c : List AIns := [mvI 60 5,
  mvI 61 6,
  mvI 62 1,
  opI 63 (.len (.t 62)),
  opI 64 (.bin .add (.t 61) (.t 63)),
  mvI 65 7,
  opI 66 (.conv .u32 (.t 65)),
  opI 67 (.idxp 1 (.t 60) (.t 64)),
  ⟨none, none, .e (.store 1 (.t 67) (.t 66))⟩]
def c5b : List AIns := [opI 68 (.bin .add (.t 21) (.c (.int .i64 1))),
  mvI 21 68]
def c8g : ACode := .seq (rgI b9a) (.seq (.cond (.t 22) (.skip) (.exit 0)) (.seq (.block 1 (.seq (rgI c8a) (.seq (rgI c7Z) (.seq (.seq (rgI c7Y) (.block 2 (.loop c8f))) (rgI c5c))))) (rgI c5b)))
def b4w : List AIns := [mvI 69 5,
  ⟨some 70, none, .call a0u [(.t 69)]⟩,
  mvI 4 70]
def e0P : ACode := .seq (rgI c8e) (.seq (rgI c8d) (.seq (rgI c8c) (.seq (.seq (rgI c8b) (.block 0 (.loop c8g))) (.seq (rgI b4w) (.ret)))))
theorem d8T : fchk Pr (fun _ _ => false) Try.f77 = some (e0P, [.tmp 4], 71) := by kernel_rfl
theorem d8U : Pr.funcs[a7S]? = some Try.f77 := Try.func77
def b5d : List AIns := [⟨some 2, none, .e (.box 2 (.t 0))⟩,
  ⟨some 3, none, .e (.box 2 (.t 1))⟩,
  ⟨some 4, none, .e (.box 2 (.c (.agg [.bool false, .nil])))⟩,
  ⟨some 5, none, .e (.box 2 (.c (.agg [.bool false, .nil])))⟩,
  opI 6 (.mv (.c (.int .i64 0)))]
def b5c : List AIns := [opI 13 (.fldp (.t 2) 1),
  opI 14 (.load none (.t 13)),
  opI 15 (.fldp (.t 3) 1),
  opI 16 (.load none (.t 15)),
  ⟨some 17, none, .call b8F [(.t 14), (.t 16)]⟩,
  mvI 12 17,
  opI 18 (.ext (.t 12) 0),
  opI 19 (.ext (.t 12) 1),
  opI 20 (.ext (.t 12) 2),
  mvI 7 18,
  mvI 8 19,
  mvI 9 20]
def b5b : List AIns := [mvI 21 9,
  opI 22 (.bin .neq (.t 21) (.c (.int .i64 0)))]
def c9h : List AIns := [opI 23 (.bld [.bool false, .nil] []),
  opI 24 (.bld [.bool false, .nil] []),
  ⟨none, none, .e (.store 2 (.t 4) (.t 23))⟩,
  ⟨none, none, .e (.store 2 (.t 5) (.t 24))⟩,
  opI 6 (.mv (.c (.int .i64 11)))]
def b5a : List AIns := [opI 25 (.fldp (.t 2) 0),
  opI 26 (.load none (.t 25)),
  opI 27 (.fldp (.t 3) 0),
  opI 28 (.load none (.t 27)),
  opI 29 (.beq true (.t 26) (.t 28)),
  mvI 30 7,
  ⟨some 31, none, .call a1i [(.t 29), (.t 30)]⟩,
  opI 32 (.fldp (.t 2) 0),
  opI 33 (.load none (.t 32)),
  mvI 34 8,
  ⟨some 35, none, .call a1i [(.t 33), (.t 34)]⟩]
def b2g : List AIns := [⟨some 10, none, .e (.box 2 (.c (.agg [.bool false, .nil])))⟩,
  ⟨some 11, none, .e (.box 2 (.c (.agg [.bool false, .nil])))⟩,
  ⟨none, none, .e (.store 2 (.t 10) (.t 31))⟩,
  ⟨none, none, .e (.store 2 (.t 11) (.t 35))⟩]
def b2f : List AIns := [⟨some 11, none, .e (.box 2 (.c (.agg [.bool false, .nil])))⟩,
  ⟨some 10, none, .e (.box 2 (.c (.agg [.bool false, .nil])))⟩,
  ⟨none, none, .e (.store 2 (.t 10) (.t 31))⟩,
  ⟨none, none, .e (.store 2 (.t 11) (.t 35))⟩]
def b4Z : List AIns := [opI 36 (.load (some 2) (.t 11)),
  ⟨some 37, none, .call a2b [(.t 36)]⟩,
  opI 38 (.bin .neq (.t 37) (.c (.int .i64 0))),
  mvI 39 38,
  ⟨some 40, some (39, true), .p (.load (some 2) (.t 11))⟩,
  ⟨some 41, some (39, true), .call a2b [(.t 40)]⟩,
  ⟨some 42, some (39, true), .p (.load (some 2) (.t 3))⟩,
  ⟨some 43, some (39, true), .call a2b [(.t 42)]⟩,
  ⟨some 44, some (39, true), .p (.bin .neq (.t 41) (.t 43))⟩,
  opI 45 (.pick (.t 39) (.t 44) (.c (.bool false)))]
def c9g : List AIns := [opI 46 (.load (some 2) (.t 10)),
  ⟨some 47, none, .call a7O [(.c (.int .i64 1))]⟩,
  ⟨some 48, none, .call a5u [(.t 46), (.t 47)]⟩,
  opI 49 (.load (some 2) (.t 11)),
  opI 50 (.load (some 2) (.t 3)),
  ⟨some 51, none, .call b2b [(.t 49), (.t 50)]⟩,
  ⟨none, none, .e (.store 2 (.t 10) (.t 48))⟩,
  ⟨none, none, .e (.store 2 (.t 11) (.t 51))⟩]
def b4Y : List AIns := [opI 52 (.load (some 2) (.t 10)),
  opI 53 (.load (some 2) (.t 11)),
  ⟨none, none, .e (.store 2 (.t 4) (.t 52))⟩,
  ⟨none, none, .e (.store 2 (.t 5) (.t 53))⟩,
  opI 6 (.mv (.c (.int .i64 0)))]
def b2e : List AIns := []
def b2d : List AIns := []
def d1v : ACode := .seq (rgI b5d) (.seq (rgI b5c) (.seq (.seq (rgI b5b) (.cond (.t 22) (.seq (rgI c9h) (.ret)) (.skip))) (.seq (.regionX b5a b2g b2f []) (.seq (.seq (.region b4Z true) (.cond (.t 45) (.region c9g true) (.skip))) (.seq (.regionX b4Y b2e b2d [(11, 4)]) (.ret))))))
theorem c9i : fchk Pr (fun _ _ => false) Try.f78 = some (d1v, [.cell 4 (some 2), .cell 5 (some 2), .tmp 6], 54) := by kernel_rfl
theorem c9j : Pr.funcs[a4F]? = some Try.f78 := Try.func78
def a9X : List AIns := [opI 6 (.mv (.c (.nil)))]
def a9W : List AIns := [opI 7 (.mv (.c (.nil)))]
def a9V : List AIns := [opI 8 (.mv (.c (.int .i64 0)))]
def a4L : List AIns := [mvI 11 8,
  mvI 12 1,
  opI 13 (.bin .lss (.t 11) (.t 12))]
def a9U : List AIns := [opI 9 (.mv (.c (.nil)))]
def a9T : List AIns := [opI 10 (.mv (.c (.int .i64 0)))]
def a4K : List AIns := [mvI 16 10,
  mvI 17 0,
  opI 18 (.len (.t 17)),
  opI 19 (.bin .lss (.t 16) (.t 18))]
def a9S : List AIns := [mvI 22 9,
  mvI 23 0,
  mvI 24 10,
  opI 25 (.idxp 1 (.t 23) (.t 24)),
  opI 26 (.load none (.t 25)),
  mvI 27 8,
  opI 28 (.idxp 2 (.t 26) (.t 27)),
  opI 29 (.load (some 2) (.t 28)),
  ⟨some 30, none, .e (.bsl 2 [(.t 29)])⟩,
  ⟨some 31, none, .e (.app 2 32 false (.t 22) (.t 30))⟩,
  mvI 9 31]
def a9R : List AIns := [mvI 20 10,
  opI 21 (.bin .add (.t 20) (.c (.int .i64 1))),
  mvI 10 21]
def c3g : ACode := .seq (.seq (rgI a4K) (.cond (.t 19) (.skip) (.exit 2))) (.seq (.block 3 (rgI a9S)) (rgI a9R))
def a9Q : List AIns := [mvI 32 7,
  mvI 33 9,
  mvI 34 2,
  mvI 35 8,
  opI 36 (.idxp 1 (.t 34) (.t 35)),
  opI 37 (.load none (.t 36)),
  ⟨some 38, none, .e (.app 2 32 false (.t 33) (.t 37))⟩,
  ⟨some 39, none, .e (.bslm 1 [(.t 38)])⟩,
  ⟨some 40, none, .e (.app 1 24 false (.t 32) (.t 39))⟩,
  mvI 7 40]
def a7A : List AIns := [mvI 14 8,
  opI 15 (.bin .add (.t 14) (.c (.int .i64 1))),
  mvI 8 15]
def c3h : ACode := .seq (.seq (rgI a4L) (.cond (.t 13) (.skip) (.exit 0))) (.seq (.block 1 (.seq (rgI a9U) (.seq (.seq (rgI a9T) (.block 2 (.loop c3g))) (rgI a9Q)))) (rgI a7A))
def a7z : List AIns := [mvI 41 7,
  ⟨some 42, none, .call b1D [(.t 41)]⟩,
  mvI 6 42]
def c4r : ACode := .seq (rgI a9X) (.seq (rgI a9W) (.seq (.seq (rgI a9V) (.block 0 (.loop c3h))) (.seq (rgI a7z) (.ret))))
theorem c3f : fchk Pr (fun _ k => (k == 7)) Try.f79 = some (c4r, [.tmp 6], 43) := by kernel_rfl
theorem c3i : Pr.funcs[a5U]? = some Try.f79 := Try.func79
def c4u : List AIns := [⟨some 1, none, .e (.box 2 (.t 0))⟩,
  ⟨some 2, none, .e (.box 4 (.c (.agg [.bool false, .nil, .bool false, .nil])))⟩]
def c4t : List AIns := [opI 3 (.load (some 2) (.t 1)),
  ⟨some 4, none, .call a3i [(.t 3)]⟩,
  ⟨some 5, none, .call b4O []⟩,
  opI 6 (.bld [.bool false, .nil, .bool false, .nil] [(0, 2, (.t 4)), (2, 2, (.t 5))]),
  ⟨none, none, .e (.store 4 (.t 2) (.t 6))⟩]
def d8t : ACode := .seq (rgI c4u) (.seq (rgI c4t) (.ret))
theorem d4R : fchk Pr (fun _ _ => false) Try.f80 = some (d8t, [.cell 2 (some 4)], 7) := by kernel_rfl
theorem d4S : Pr.funcs[a4g]? = some Try.f80 := Try.func80
def c0i : List AIns := [⟨some 1, none, .e (.box 4 (.t 0))⟩,
  ⟨some 2, none, .e (.box 4 (.c (.agg [.bool false, .nil, .bool false, .nil])))⟩]
def c0h : List AIns := [opI 3 (.fldp (.t 1) 0),
  opI 4 (.load (some 2) (.t 3)),
  ⟨some 5, none, .call a4h [(.t 4)]⟩,
  opI 6 (.fldp (.t 1) 2),
  opI 7 (.load (some 2) (.t 6)),
  ⟨some 8, none, .call a2C [(.t 5), (.t 7)]⟩,
  ⟨none, none, .e (.store 4 (.t 2) (.t 8))⟩]
def d4T : ACode := .seq (rgI c0i) (.seq (.region c0h true) (.ret))
theorem d2b : fchk Pr (fun _ _ => false) Try.f81 = some (d4T, [.cell 2 (some 4)], 9) := by kernel_rfl
theorem d2c : Pr.funcs[a5W]? = some Try.f81 := Try.func81
def c5v : List AIns := [opI 2 (.mv (.c (.int .i64 0)))]
def c5u : List AIns := [mvI 3 0,
  ⟨some 4, none, .call a0u [(.t 3)]⟩,
  mvI 0 4]
def c5t : List AIns := [mvI 5 0,
  opI 6 (.len (.t 5)),
  opI 7 (.bin .eql (.t 6) (.c (.int .i64 0)))]
def c5s : List AIns := [opI 2 (.mv (.c (.int .i64 0)))]
def c5r : List AIns := [mvI 8 0,
  opI 9 (.len (.t 8)),
  opI 10 (.bin .sub (.t 9) (.c (.int .i64 1))),
  opI 11 (.bin .mul (.c (.int .i64 32)) (.t 10)),
  mvI 12 0,
  mvI 13 0,
  opI 14 (.len (.t 13)),
  opI 15 (.bin .sub (.t 14) (.c (.int .i64 1))),
  opI 16 (.idxp 1 (.t 12) (.t 15)),
  opI 17 (.load none (.t 16)),
  ⟨some 18, none, .call a1D [(.t 17)]⟩,
  opI 19 (.bin .add (.t 11) (.t 18)),
  mvI 2 19]
def d9e : ACode := .seq (rgI c5v) (.seq (rgI c5u) (.seq (.seq (rgI c5t) (.cond (.t 7) (.seq (rgI c5s) (.ret)) (.skip))) (.seq (rgI c5r) (.ret))))
theorem d5x : fchk Pr (fun _ _ => false) Try.f82 = some (d9e, [.tmp 2], 20) := by kernel_rfl
theorem d5y : Pr.funcs[b9L]? = some Try.f82 := Try.func82
def b4a : List AIns := [opI 2 (.mv (.c (.nil)))]
def b3Z : List AIns := [mvI 6 0,
  opI 7 (.len (.t 6)),
  ⟨some 8, none, .e (.mksl 1 24 (.nil) (.t 7) (.t 7))⟩,
  mvI 3 8]
def b3Y : List AIns := [mvI 9 0,
  opI 10 (.len (.t 9)),
  opI 11 (.mv (.c (.int .i64 0)))]
def a7k : List AIns := [opI 12 (.bin .lss (.t 11) (.t 10))]
def b3X : List AIns := [mvI 13 11,
  opI 14 (.idxp 1 (.t 9) (.t 11)),
  opI 15 (.load none (.t 14)),
  mvI 4 13,
  mvI 5 15]
def b3W : List AIns := [mvI 16 3,
  mvI 17 4,
  mvI 18 5,
  opI 19 (.len (.t 18)),
  ⟨some 20, none, .e (.mksl 2 32 (.agg [.bool false, .nil]) (.t 19) (.t 19))⟩,
  opI 21 (.idxp 1 (.t 16) (.t 17)),
  ⟨none, none, .e (.store 1 (.t 21) (.t 20))⟩]
def b3V : List AIns := [mvI 22 3,
  mvI 23 4,
  opI 24 (.idxp 1 (.t 22) (.t 23)),
  opI 25 (.load none (.t 24)),
  mvI 26 5,
  ⟨some 27, none, .e (.cpy 2 (.t 25) (.t 26))⟩]
def b3U : List AIns := [opI 28 (.bin .add (.t 11) (.c (.int .i64 1))),
  mvI 11 28]
def c7b : ACode := .seq (rgI a7k) (.seq (.cond (.t 12) (.skip) (.exit 0)) (.seq (.block 1 (.seq (rgI b3X) (.seq (rgI b3W) (rgI b3V)))) (rgI b3U)))
def b3T : List AIns := [mvI 29 3,
  mvI 2 29]
def d1a : ACode := .seq (rgI b4a) (.seq (rgI b3Z) (.seq (.seq (rgI b3Y) (.block 0 (.loop c7b))) (.seq (rgI b3T) (.ret))))
theorem c7a : fchk Pr (fun _ _ => false) Try.f85 = some (d1a, [.tmp 2], 30) := by kernel_rfl
theorem c7c : Pr.funcs[a9D]? = some Try.f85 := Try.func85
def c3N : List AIns := [⟨some 2, none, .e (.box 2 (.t 0))⟩,
  ⟨some 3, none, .e (.box 2 (.t 1))⟩,
  ⟨some 4, none, .e (.box 2 (.c (.agg [.bool false, .nil])))⟩]
def c3M : List AIns := [opI 5 (.load (some 2) (.t 2)),
  opI 6 (.load (some 2) (.t 3)),
  ⟨some 7, none, .call a7P [(.t 6)]⟩,
  ⟨some 8, none, .call b2b [(.t 5), (.t 7)]⟩,
  ⟨none, none, .e (.store 2 (.t 4) (.t 8))⟩]
def d7R : ACode := .seq (rgI c3N) (.seq (.region c3M true) (.ret))
theorem d4w : fchk Pr (fun _ _ => false) Try.f86 = some (d7R, [.cell 4 (some 2)], 9) := by kernel_rfl
theorem d4x : Pr.funcs[a5u]? = some Try.f86 := Try.func86
end Go.Abs
set_option maxRecDepth 100000
noncomputable section
namespace Go.Abs
open Go.Proofs
def a7a : List AIns := [opI 2 (.mv (.c (.int .i64 0))),
  opI 3 (.mv (.c (.int .i64 0))),
  opI 4 (.mv (.c (.int .i64 0)))]
def a6Z : List AIns := [opI 5 (.mv (.c (.int .i64 0)))]
def a2Q : List AIns := [mvI 6 5,
  mvI 7 0,
  opI 8 (.len (.t 7)),
  opI 9 (.bin .lss (.t 6) (.t 8))]
def a4p : List AIns := [mvI 12 0,
  mvI 13 5,
  opI 14 (.idxp 1 (.t 12) (.t 13)),
  opI 15 (.load none (.t 14)),
  opI 16 (.len (.t 15)),
  mvI 17 0,
  opI 18 (.idxp 1 (.t 17) (.c (.int .i64 0))),
  opI 19 (.load none (.t 18)),
  opI 20 (.len (.t 19)),
  opI 21 (.bin .neq (.t 16) (.t 20))]
def b2W : List AIns := [opI 2 (.mv (.c (.int .i64 0))),
  opI 3 (.mv (.c (.int .i64 0))),
  opI 4 (.mv (.c (.int .i64 8)))]
def a6Y : List AIns := [mvI 10 5,
  opI 11 (.bin .add (.t 10) (.c (.int .i64 1))),
  mvI 5 11]
def c6P : ACode := .seq (.seq (rgI a2Q) (.cond (.t 9) (.skip) (.exit 0))) (.seq (.block 1 (.seq (.region a4p true) (.cond (.t 21) (.seq (rgI b2W) (.ret)) (.skip)))) (rgI a6Y))
def b2V : List AIns := [mvI 22 0,
  opI 23 (.len (.t 22)),
  opI 24 (.bin .eql (.t 23) (.c (.int .i64 0)))]
def b2U : List AIns := [opI 2 (.mv (.c (.int .i64 0))),
  opI 3 (.mv (.c (.int .i64 0))),
  opI 4 (.mv (.c (.int .i64 0)))]
def b2T : List AIns := [mvI 25 0,
  opI 26 (.len (.t 25)),
  mvI 27 0,
  opI 28 (.idxp 1 (.t 27) (.c (.int .i64 0))),
  opI 29 (.load none (.t 28)),
  opI 30 (.len (.t 29)),
  mvI 2 26,
  mvI 3 30,
  opI 4 (.mv (.c (.int .i64 0)))]
def c9P : ACode := .seq (rgI a7a) (.seq (.seq (rgI a6Z) (.block 0 (.loop c6P))) (.seq (.seq (rgI b2V) (.cond (.t 24) (.seq (rgI b2U) (.ret)) (.skip))) (.seq (.region b2T true) (.ret))))
theorem b2X : fchk Pr (fun _ _ => false) Try.f87 = some (c9P, [.tmp 2, .tmp 3, .tmp 4], 31) := by kernel_rfl
theorem b2Y : Pr.funcs[a3D]? = some Try.f87 := Try.func87
def b5m : List AIns := [⟨some 1, none, .e (.box 4 (.t 0))⟩,
  opI 2 (.mv (.c (.bool false)))]
def b5l : List AIns := [opI 3 (.fldp (.t 1) 0),
  opI 4 (.load (some 2) (.t 3)),
  ⟨some 5, none, .call a1C [(.t 4)]⟩,
  opI 6 (.bin .eql (.t 5) (.c (.int .i64 0))),
  mvI 2 6]
def d1R : ACode := .seq (rgI b5m) (.seq (rgI b5l) (.ret))
theorem c9w : fchk Pr (fun _ _ => false) Try.f88 = some (d1R, [.tmp 2], 7) := by kernel_rfl
theorem c9x : Pr.funcs[a6H]? = some Try.f88 := Try.func88
def c0k : List AIns := [⟨some 2, none, .e (.box 4 (.t 0))⟩,
  ⟨some 3, none, .e (.box 4 (.t 1))⟩,
  ⟨some 4, none, .e (.box 4 (.c (.agg [.bool false, .nil, .bool false, .nil])))⟩]
def c0j : List AIns := [opI 5 (.fldp (.t 2) 0),
  opI 6 (.load (some 2) (.t 5)),
  opI 7 (.fldp (.t 3) 0),
  opI 8 (.load (some 2) (.t 7)),
  ⟨some 9, none, .call a1b [(.t 6), (.t 8)]⟩,
  opI 10 (.fldp (.t 2) 2),
  opI 11 (.load (some 2) (.t 10)),
  opI 12 (.fldp (.t 3) 2),
  opI 13 (.load (some 2) (.t 12)),
  ⟨some 14, none, .call a1b [(.t 11), (.t 13)]⟩,
  ⟨some 15, none, .call a2C [(.t 9), (.t 14)]⟩,
  ⟨none, none, .e (.store 4 (.t 4) (.t 15))⟩]
def d4U : ACode := .seq (rgI c0k) (.seq (.region c0j true) (.ret))
theorem d2d : fchk Pr (fun _ _ => false) Try.f89 = some (d4U, [.cell 4 (some 4)], 16) := by kernel_rfl
theorem d2e : Pr.funcs[a9w]? = some Try.f89 := Try.func89
def c0m : List AIns := [⟨some 2, none, .e (.box 4 (.t 0))⟩,
  ⟨some 3, none, .e (.box 4 (.t 1))⟩,
  ⟨some 4, none, .e (.box 4 (.c (.agg [.bool false, .nil, .bool false, .nil])))⟩]
def c0l : List AIns := [opI 5 (.fldp (.t 2) 0),
  opI 6 (.load (some 2) (.t 5)),
  opI 7 (.fldp (.t 3) 2),
  opI 8 (.load (some 2) (.t 7)),
  ⟨some 9, none, .call a1b [(.t 6), (.t 8)]⟩,
  opI 10 (.fldp (.t 2) 2),
  opI 11 (.load (some 2) (.t 10)),
  opI 12 (.fldp (.t 3) 0),
  opI 13 (.load (some 2) (.t 12)),
  ⟨some 14, none, .call a1b [(.t 11), (.t 13)]⟩,
  ⟨some 15, none, .call a2C [(.t 9), (.t 14)]⟩,
  ⟨none, none, .e (.store 4 (.t 4) (.t 15))⟩]
def d4V : ACode := .seq (rgI c0m) (.seq (.region c0l true) (.ret))
theorem d2g : fchk Pr (fun _ _ => false) Try.f90 = some (d4V, [.cell 4 (some 4)], 16) := by kernel_rfl
theorem d2h : Pr.funcs[b4Q]? = some Try.f90 := Try.func90
def b5y : List AIns := [⟨some 7, none, .e (.box 4 (.t 3))⟩]
def b5x : List AIns := [opI 8 (.mv (.c (.int .i64 0)))]
def a8g : List AIns := [mvI 9 8,
  mvI 10 0,
  mvI 11 1,
  opI 12 (.idxp 1 (.t 10) (.t 11)),
  opI 13 (.load none (.t 12)),
  opI 14 (.len (.t 13)),
  opI 15 (.bin .lss (.t 9) (.t 14))]
def b5w : List AIns := [mvI 18 0,
  mvI 19 1,
  opI 20 (.idxp 1 (.t 18) (.t 19)),
  opI 21 (.load none (.t 20)),
  mvI 22 8,
  mvI 23 0,
  mvI 24 1,
  opI 25 (.idxp 1 (.t 23) (.t 24)),
  opI 26 (.load none (.t 25)),
  mvI 27 8,
  opI 28 (.idxp 4 (.t 26) (.t 27)),
  opI 29 (.load (some 4) (.t 28)),
  opI 30 (.load (some 4) (.t 7)),
  mvI 31 0,
  mvI 32 2,
  opI 33 (.idxp 1 (.t 31) (.t 32)),
  opI 34 (.load none (.t 33)),
  mvI 35 8,
  opI 36 (.idxp 4 (.t 34) (.t 35)),
  opI 37 (.load (some 4) (.t 36)),
  ⟨some 38, none, .call a9w [(.t 30), (.t 37)]⟩,
  ⟨some 39, none, .call b4P [(.t 29), (.t 38)]⟩,
  opI 40 (.idxp 4 (.t 21) (.t 22)),
  ⟨none, none, .e (.store 4 (.t 40) (.t 39))⟩]
def b5v : List AIns := [mvI 16 8,
  opI 17 (.bin .add (.t 16) (.c (.int .i64 1))),
  mvI 8 17]
def c9E : ACode := .seq (.seq (rgI a8g) (.cond (.t 15) (.skip) (.exit 0))) (.seq (.block 1 (.region b5w true)) (rgI b5v))
def d1T : ACode := .seq (rgI b5y) (.seq (rgI b5x) (.block 0 (.loop c9E)))
theorem c9D : fchk Pr (fun _ _ => false) Try.f91 = some (d1T, [], 41) := by kernel_rfl
theorem c9F : Pr.funcs[a6I]? = some Try.f91 := Try.func91
def c8C : List AIns := [opI 4 (.mv (.c (.int .i64 0)))]
def c8B : List AIns := [mvI 6 0,
  ⟨some 7, none, .call a0u [(.t 6)]⟩,
  mvI 8 1,
  ⟨some 9, none, .call a0u [(.t 8)]⟩,
  mvI 0 7,
  mvI 1 9]
def c8A : List AIns := [mvI 10 0,
  opI 11 (.len (.t 10)),
  mvI 12 1,
  opI 13 (.len (.t 12)),
  opI 14 (.bin .neq (.t 11) (.t 13))]
def c8z : List AIns := [mvI 15 0,
  opI 16 (.len (.t 15)),
  mvI 17 1,
  opI 18 (.len (.t 17)),
  opI 19 (.bin .lss (.t 16) (.t 18))]
def c8y : List AIns := [opI 4 (.mv (.c (.int .i64 (-1))))]
def c8x : List AIns := [opI 4 (.mv (.c (.int .i64 1)))]
def c8w : List AIns := [mvI 20 0,
  opI 21 (.len (.t 20)),
  opI 22 (.bin .sub (.t 21) (.c (.int .i64 1))),
  mvI 5 22]
def b9d : List AIns := [mvI 23 5,
  opI 24 (.bin .geq (.t 23) (.c (.int .i64 0)))]
def c8v : List AIns := [mvI 27 0,
  mvI 28 5,
  opI 29 (.idxp 1 (.t 27) (.t 28)),
  opI 30 (.load none (.t 29)),
  mvI 31 1,
  mvI 32 5,
  opI 33 (.idxp 1 (.t 31) (.t 32)),
  opI 34 (.load none (.t 33)),
  opI 35 (.bin .neq (.t 30) (.t 34))]
def c8u : List AIns := [mvI 36 0,
  mvI 37 5,
  opI 38 (.idxp 1 (.t 36) (.t 37)),
  opI 39 (.load none (.t 38)),
  mvI 40 1,
  mvI 41 5,
  opI 42 (.idxp 1 (.t 40) (.t 41)),
  opI 43 (.load none (.t 42)),
  opI 44 (.bin .lss (.t 39) (.t 43))]
def c5q : List AIns := [opI 4 (.mv (.c (.int .i64 (-1))))]
def c5p : List AIns := [opI 4 (.mv (.c (.int .i64 1)))]
def c5o : List AIns := [mvI 25 5,
  opI 26 (.bin .sub (.t 25) (.c (.int .i64 1))),
  mvI 5 26]
def c8D : ACode := .seq (.seq (rgI b9d) (.cond (.t 24) (.skip) (.exit 0))) (.seq (.block 1 (.seq (.region c8v true) (.cond (.t 35) (.seq (.seq (.region c8u true) (.cond (.t 44) (.seq (rgI c5q) (.ret)) (.skip))) (.seq (rgI c5p) (.ret))) (.skip)))) (rgI c5o))
def b4y : List AIns := [opI 4 (.mv (.c (.int .i64 0)))]
def e0S : ACode := .seq (rgI c8C) (.seq (rgI c8B) (.seq (.seq (rgI c8A) (.cond (.t 14) (.seq (.seq (rgI c8z) (.cond (.t 19) (.seq (rgI c8y) (.ret)) (.skip))) (.seq (rgI c8x) (.ret))) (.skip))) (.seq (.seq (rgI c8w) (.block 0 (.loop c8D))) (.seq (rgI b4y) (.ret)))))
theorem d9c : fchk Pr (fun _ _ => false) Try.f92 = some (e0S, [.tmp 4], 45) := by kernel_rfl
theorem d9d : Pr.funcs[a7T]? = some Try.f92 := Try.func92
def b6c : List AIns := [⟨some 1, none, .e (.box 2 (.t 0))⟩,
  opI 2 (.mv (.c (.int .i64 0)))]
def b6b : List AIns := [opI 4 (.fldp (.t 1) 1),
  opI 5 (.load none (.t 4)),
  ⟨some 6, none, .call a0A [(.t 5)]⟩,
  mvI 3 6]
def b6a : List AIns := [mvI 8 3,
  opI 9 (.len (.t 8)),
  opI 10 (.bin .eql (.t 9) (.c (.int .i64 0))),
  mvI 7 10]
def b5Z : List AIns := [opI 2 (.mv (.c (.int .i64 0)))]
def b5Y : List AIns := [opI 12 (.fldp (.t 1) 0),
  opI 13 (.load none (.t 12)),
  mvI 11 13]
def b5X : List AIns := [opI 2 (.mv (.c (.int .i64 (-1))))]
def b5W : List AIns := [opI 2 (.mv (.c (.int .i64 1)))]
def d2n : ACode := .seq (rgI b6c) (.seq (rgI b6b) (.seq (.block 0 (.seq (rgI b6a) (.cond (.t 7) (.seq (rgI b5Z) (.ret)) (.seq (rgI b5Y) (.cond (.t 11) (.seq (rgI b5X) (.ret)) (.skip)))))) (.seq (rgI b5W) (.ret))))
theorem c9X : fchk Pr (fun _ _ => false) Try.f93 = some (d2n, [.tmp 2], 14) := by kernel_rfl
theorem c9Y : Pr.funcs[a1C]? = some Try.f93 := Try.func93
def c0s : List AIns := [⟨some 2, none, .e (.box 2 (.t 0))⟩,
  ⟨some 3, none, .e (.box 2 (.t 1))⟩,
  ⟨some 4, none, .e (.box 2 (.c (.agg [.bool false, .nil])))⟩]
def c0r : List AIns := [opI 5 (.load (some 2) (.t 2)),
  opI 6 (.load (some 2) (.t 3)),
  ⟨some 7, none, .call a4h [(.t 6)]⟩,
  ⟨some 8, none, .call a4i [(.t 5), (.t 7)]⟩,
  ⟨none, none, .e (.store 2 (.t 4) (.t 8))⟩]
def d4X : ACode := .seq (rgI c0s) (.seq (.region c0r true) (.ret))
theorem d2l : fchk Pr (fun _ _ => false) Try.f94 = some (d4X, [.cell 4 (some 2)], 9) := by kernel_rfl
theorem d2m : Pr.funcs[a5X]? = some Try.f94 := Try.func94
def b5V : List AIns := [⟨some 4, none, .e (.box 2 (.c (.agg [.bool false, .nil])))⟩]
def b5U : List AIns := [mvI 6 1,
  ⟨some 7, none, .call a0A [(.t 6)]⟩,
  mvI 5 7]
def a8q : List AIns := [mvI 8 0,
  mvI 9 8,
  ⟨some 10, some (9, true), .p (.mv (.t 5))⟩,
  ⟨some 11, some (9, true), .p (.len (.t 10))⟩,
  ⟨some 12, some (9, true), .p (.bin .gtr (.t 11) (.c (.int .i64 0)))⟩,
  opI 13 (.pick (.t 9) (.t 12) (.c (.bool false))),
  mvI 14 5,
  opI 15 (.bld [.bool false, .nil] [(0, 1, (.t 13)), (1, 1, (.t 14))]),
  ⟨none, none, .e (.store 2 (.t 4) (.t 15))⟩]
def d2k : ACode := .seq (rgI b5V) (.seq (rgI b5U) (.seq (rgI a8q) (.ret)))
theorem c9V : fchk Pr (fun _ _ => false) Try.f95 = some (d2k, [.cell 4 (some 2)], 16) := by kernel_rfl
theorem c9W : Pr.funcs[a1o]? = some Try.f95 := Try.func95
def b3R : List AIns := [opI 2 (.mv (.c (.nil)))]
def b3Q : List AIns := [⟨some 3, none, .e (.box 2 (.c (.agg [.bool false, .nil])))⟩]
def b3P : List AIns := [mvI 13 0,
  opI 14 (.len (.t 13)),
  opI 15 (.mv (.c (.int .i64 0)))]
def a7j : List AIns := [opI 16 (.bin .lss (.t 15) (.t 14))]
def b3O : List AIns := [opI 17 (.idxp 2 (.t 13) (.t 15)),
  opI 18 (.load (some 2) (.t 17)),
  ⟨some 5, none, .e (.box 2 (.c (.agg [.bool false, .nil])))⟩,
  ⟨none, none, .e (.store 2 (.t 5) (.t 18))⟩]
def b3N : List AIns := [opI 19 (.load (some 2) (.t 3)),
  opI 20 (.load (some 2) (.t 5)),
  ⟨some 21, none, .call b9K [(.t 19), (.t 20)]⟩,
  ⟨none, none, .e (.store 2 (.t 3) (.t 21))⟩]
def b3M : List AIns := [opI 22 (.bin .add (.t 15) (.c (.int .i64 1))),
  mvI 15 22]
def c6Y : ACode := .seq (rgI a7j) (.seq (.cond (.t 16) (.skip) (.exit 0)) (.seq (.block 1 (.seq (rgI b3O) (rgI b3N))) (rgI b3M)))
def b3L : List AIns := [mvI 23 0,
  ⟨some 24, none, .call b9N [(.t 23)]⟩,
  mvI 6 24]
def b3K : List AIns := [mvI 25 6,
  opI 26 (.bin .geq (.t 25) (.c (.int .i64 0))),
  mvI 27 26,
  ⟨some 28, some (27, true), .p (.mv (.t 0))⟩,
  ⟨some 29, some (27, true), .p (.mv (.t 6))⟩,
  ⟨some 30, some (27, true), .p (.idxp 2 (.t 28) (.t 29))⟩,
  ⟨some 31, some (27, true), .p (.load (some 2) (.t 30))⟩,
  ⟨some 32, some (27, true), .call a2b [(.t 31)]⟩,
  ⟨some 33, some (27, true), .p (.bin .lss (.t 32) (.c (.int .i64 0)))⟩,
  opI 34 (.pick (.t 27) (.t 33) (.c (.bool false)))]
def b3J : List AIns := [opI 35 (.load (some 2) (.t 3)),
  ⟨some 36, none, .call a7P [(.t 35)]⟩,
  ⟨none, none, .e (.store 2 (.t 3) (.t 36))⟩]
def a5L : List AIns := [opI 7 (.mv (.c (.nil)))]
def a5K : List AIns := [mvI 37 0,
  opI 38 (.len (.t 37)),
  opI 39 (.mv (.c (.int .i64 0)))]
def a5J : List AIns := [opI 40 (.bin .lss (.t 39) (.t 38))]
def b1m : List AIns := [opI 41 (.idxp 2 (.t 37) (.t 39)),
  opI 42 (.load (some 2) (.t 41)),
  ⟨some 9, none, .e (.box 2 (.c (.agg [.bool false, .nil])))⟩,
  ⟨none, none, .e (.store 2 (.t 9) (.t 42))⟩]
def b1l : List AIns := [opI 44 (.load (some 2) (.t 9)),
  opI 45 (.load (some 2) (.t 3)),
  ⟨some 46, none, .call a4F [(.t 44), (.t 45)]⟩,
  mvI 43 46,
  opI 47 (.ext (.t 43) 0),
  opI 48 (.ext (.t 43) 1),
  opI 49 (.ext (.t 43) 2),
  ⟨some 10, none, .e (.box 2 (.c (.agg [.bool false, .nil])))⟩,
  ⟨some 11, none, .e (.box 2 (.c (.agg [.bool false, .nil])))⟩,
  ⟨none, none, .e (.store 2 (.t 10) (.t 47))⟩,
  ⟨none, none, .e (.store 2 (.t 11) (.t 48))⟩,
  mvI 12 49]
def b1k : List AIns := [mvI 50 7,
  opI 51 (.load (some 2) (.t 10)),
  ⟨some 52, none, .e (.bsl 2 [(.t 51)])⟩,
  ⟨some 53, none, .e (.app 2 32 false (.t 50) (.t 52))⟩,
  mvI 7 53]
def b1j : List AIns := [opI 54 (.bin .add (.t 39) (.c (.int .i64 1))),
  mvI 39 54]
def b3S : ACode := .seq (rgI a5J) (.seq (.cond (.t 40) (.skip) (.exit 2)) (.seq (.block 3 (.seq (rgI b1m) (.seq (rgI b1l) (rgI b1k)))) (rgI b1j)))
def a5I : List AIns := [mvI 55 7,
  mvI 2 55]
def d0Z : ACode := .seq (rgI b3R) (.seq (rgI b3Q) (.seq (.seq (rgI b3P) (.block 0 (.loop c6Y))) (.seq (.seq (rgI b3L) (.seq (rgI b3K) (.cond (.t 34) (rgI b3J) (.skip)))) (.seq (rgI a5L) (.seq (.seq (rgI a5K) (.block 2 (.loop b3S))) (.seq (rgI a5I) (.ret)))))))
theorem c6X : fchk Pr (fun _ _ => false) Try.f96 = some (d0Z, [.tmp 2], 56) := by kernel_rfl
theorem c6Z : Pr.funcs[a2O]? = some Try.f96 := Try.func96
def c0y : List AIns := [⟨some 2, none, .e (.box 2 (.t 0))⟩,
  ⟨some 3, none, .e (.box 2 (.t 1))⟩,
  ⟨some 4, none, .e (.box 2 (.c (.agg [.bool false, .nil])))⟩]
def c0x : List AIns := [opI 5 (.fldp (.t 2) 1),
  opI 6 (.load none (.t 5)),
  opI 7 (.fldp (.t 3) 1),
  opI 8 (.load none (.t 7)),
  ⟨some 9, none, .call a9A [(.t 6), (.t 8)]⟩,
  ⟨some 10, none, .call a1o [(.c (.bool false)), (.t 9)]⟩,
  ⟨none, none, .e (.store 2 (.t 4) (.t 10))⟩]
def d5c : ACode := .seq (rgI c0y) (.seq (rgI c0x) (.ret))
theorem d2t : fchk Pr (fun _ _ => false) Try.f97 = some (d5c, [.cell 4 (some 2)], 11) := by kernel_rfl
theorem d2u : Pr.funcs[a9x]? = some Try.f97 := Try.func97
def b3f : List AIns := [⟨some 2, none, .e (.box 2 (.t 0))⟩,
  ⟨some 3, none, .e (.box 2 (.t 1))⟩,
  ⟨some 4, none, .e (.box 2 (.c (.agg [.bool false, .nil])))⟩,
  ⟨some 5, none, .e (.box 2 (.c (.agg [.bool false, .nil])))⟩]
def b3e : List AIns := [opI 12 (.fldp (.t 2) 1),
  opI 13 (.load none (.t 12)),
  opI 14 (.fldp (.t 3) 1),
  opI 15 (.load none (.t 14)),
  ⟨some 16, none, .call a3b [(.t 13), (.t 15)]⟩,
  mvI 11 16,
  opI 17 (.ext (.t 11) 0),
  opI 18 (.ext (.t 11) 1),
  opI 19 (.ext (.t 11) 2),
  mvI 6 17,
  mvI 7 18,
  mvI 8 19]
def b3d : List AIns := [opI 20 (.fldp (.t 2) 0),
  opI 21 (.load none (.t 20)),
  opI 22 (.fldp (.t 3) 0),
  opI 23 (.load none (.t 22)),
  opI 24 (.beq true (.t 21) (.t 23)),
  mvI 25 6,
  ⟨some 26, none, .call a1o [(.t 24), (.t 25)]⟩,
  ⟨some 9, none, .e (.box 2 (.c (.agg [.bool false, .nil])))⟩,
  ⟨none, none, .e (.store 2 (.t 9) (.t 26))⟩]
def b3c : List AIns := [opI 27 (.load (some 2) (.t 2)),
  opI 28 (.load (some 2) (.t 9)),
  opI 29 (.load (some 2) (.t 3)),
  ⟨some 30, none, .call a1b [(.t 28), (.t 29)]⟩,
  ⟨some 31, none, .call a5X [(.t 27), (.t 30)]⟩,
  ⟨some 10, none, .e (.box 2 (.c (.agg [.bool false, .nil])))⟩,
  ⟨none, none, .e (.store 2 (.t 10) (.t 31))⟩]
def b3b : List AIns := [opI 32 (.load (some 2) (.t 10)),
  ⟨some 33, none, .call a1C [(.t 32)]⟩,
  opI 34 (.bin .neq (.t 33) (.c (.int .i64 0))),
  mvI 35 34,
  ⟨some 36, some (35, true), .p (.load (some 2) (.t 10))⟩,
  ⟨some 37, some (35, true), .call a1C [(.t 36)]⟩,
  ⟨some 38, some (35, true), .p (.load (some 2) (.t 3))⟩,
  ⟨some 39, some (35, true), .call a1C [(.t 38)]⟩,
  ⟨some 40, some (35, true), .p (.bin .neq (.t 37) (.t 39))⟩,
  opI 41 (.pick (.t 35) (.t 40) (.c (.bool false)))]
def b3a : List AIns := [opI 42 (.load (some 2) (.t 9)),
  ⟨some 43, none, .call a1K [(.c (.int .i64 1))]⟩,
  ⟨some 44, none, .call a5X [(.t 42), (.t 43)]⟩,
  ⟨none, none, .e (.store 2 (.t 9) (.t 44))⟩]
def b2Z : List AIns := [opI 45 (.load (some 2) (.t 10)),
  opI 46 (.load (some 2) (.t 3)),
  ⟨some 47, none, .call a4i [(.t 45), (.t 46)]⟩,
  ⟨none, none, .e (.store 2 (.t 10) (.t 47))⟩]
def a4q : List AIns := [opI 48 (.load (some 2) (.t 9)),
  opI 49 (.load (some 2) (.t 10)),
  ⟨none, none, .e (.store 2 (.t 4) (.t 48))⟩,
  ⟨none, none, .e (.store 2 (.t 5) (.t 49))⟩]
def a3r : List AIns := []
def a3q : List AIns := []
def d0b : ACode := .seq (rgI b3f) (.seq (rgI b3e) (.seq (rgI b3d) (.seq (.region b3c true) (.seq (.seq (.region b3b true) (.cond (.t 41) (.seq (.region b3a true) (rgI b2Z)) (.skip))) (.seq (.regionX a4q a3r a3q [(10, 4)]) (.ret))))))
theorem c6Q : fchk Pr (fun _ _ => false) Try.f98 = some (d0b, [.cell 4 (some 2), .cell 5 (some 2)], 50) := by kernel_rfl
theorem c6R : Pr.funcs[a3E]? = some Try.f98 := Try.func98
def c0w : List AIns := [⟨some 2, none, .e (.box 2 (.t 0))⟩,
  ⟨some 3, none, .e (.box 2 (.t 1))⟩,
  ⟨some 4, none, .e (.box 2 (.c (.agg [.bool false, .nil])))⟩]
def c0v : List AIns := [opI 5 (.fldp (.t 2) 0),
  opI 6 (.load none (.t 5)),
  opI 7 (.fldp (.t 3) 0),
  opI 8 (.load none (.t 7)),
  opI 9 (.beq true (.t 6) (.t 8)),
  opI 10 (.fldp (.t 2) 1),
  opI 11 (.load none (.t 10)),
  opI 12 (.fldp (.t 3) 1),
  opI 13 (.load none (.t 12)),
  ⟨some 14, none, .call a2c [(.t 11), (.t 13)]⟩,
  ⟨some 15, none, .call a1o [(.t 9), (.t 14)]⟩,
  ⟨none, none, .e (.store 2 (.t 4) (.t 15))⟩]
def d5b : ACode := .seq (rgI c0w) (.seq (.region c0v true) (.ret))
theorem d2r : fchk Pr (fun _ _ => false) Try.f99 = some (d5b, [.cell 4 (some 2)], 16) := by kernel_rfl
theorem d2s : Pr.funcs[a1b]? = some Try.f99 := Try.func99
def b0b : List AIns := [opI 2 (.mv (.c (.nil)))]
def b0a : List AIns := [opI 3 (.mv (.c (.int .i64 1)))]
def a9Z : List AIns := [mvI 5 0,
  ⟨some 6, none, .call b1F [(.t 5)]⟩,
  mvI 4 6]
def a2T : List AIns := [mvI 7 4,
  opI 8 (.bin .geq (.t 7) (.c (.int .i64 0))),
  mvI 9 8,
  ⟨some 10, some (9, true), .p (.mv (.t 0))⟩,
  ⟨some 11, some (9, true), .p (.mv (.t 4))⟩,
  ⟨some 12, some (9, true), .p (.idxp 2 (.t 10) (.t 11))⟩,
  ⟨some 13, some (9, true), .p (.load (some 2) (.t 12))⟩,
  ⟨some 14, some (9, true), .call a1C [(.t 13)]⟩,
  ⟨some 15, some (9, true), .p (.bin .lss (.t 14) (.c (.int .i64 0)))⟩,
  opI 16 (.pick (.t 9) (.t 15) (.c (.bool false)))]
def a9Y : List AIns := [opI 3 (.mv (.c (.int .i64 (-1))))]
def a2S : List AIns := [mvI 17 3,
  ⟨some 18, none, .call a1K [(.t 17)]⟩,
  mvI 19 0,
  ⟨some 20, none, .call a2N [(.t 18), (.t 19)]⟩,
  mvI 2 20]
def c4s : ACode := .seq (rgI b0b) (.seq (rgI b0a) (.seq (rgI a9Z) (.seq (.seq (rgI a2T) (.cond (.t 16) (rgI a9Y) (.skip))) (.seq (rgI a2S) (.ret)))))
theorem c3j : fchk Pr (fun _ _ => false) Try.f100 = some (c4s, [.tmp 2], 21) := by kernel_rfl
theorem c3k : Pr.funcs[a5V]? = some Try.f100 := Try.func100
def c3T : List AIns := [⟨some 2, none, .e (.box 2 (.t 0))⟩,
  ⟨some 3, none, .e (.box 2 (.t 1))⟩,
  ⟨some 4, none, .e (.box 2 (.c (.agg [.bool false, .nil])))⟩]
def c3S : List AIns := [opI 5 (.fldp (.t 2) 1),
  opI 6 (.load none (.t 5)),
  opI 7 (.fldp (.t 3) 1),
  opI 8 (.load none (.t 7)),
  ⟨some 9, none, .call c6F [(.t 6), (.t 8)]⟩,
  ⟨some 10, none, .call a1i [(.c (.bool false)), (.t 9)]⟩,
  ⟨none, none, .e (.store 2 (.t 4) (.t 10))⟩]
def d7W : ACode := .seq (rgI c3T) (.seq (rgI c3S) (.ret))
theorem d4D : fchk Pr (fun _ _ => false) Try.f101 = some (d7W, [.cell 4 (some 2)], 11) := by kernel_rfl
theorem d4E : Pr.funcs[b9K]? = some Try.f101 := Try.func101
def c3Y : List AIns := [⟨some 2, none, .e (.box 2 (.t 0))⟩,
  ⟨some 3, none, .e (.box 2 (.t 1))⟩,
  ⟨some 4, none, .e (.box 2 (.c (.agg [.bool false, .nil])))⟩]
def c3X : List AIns := [opI 7 (.fldp (.t 2) 0),
  opI 8 (.load none (.t 7)),
  opI 9 (.fldp (.t 3) 0),
  opI 10 (.load none (.t 9)),
  opI 11 (.beq false (.t 8) (.t 10))]
def c3W : List AIns := [opI 12 (.fldp (.t 2) 0),
  opI 13 (.load none (.t 12)),
  opI 14 (.fldp (.t 2) 1),
  opI 15 (.load none (.t 14)),
  opI 16 (.fldp (.t 3) 1),
  opI 17 (.load none (.t 16)),
  ⟨some 18, none, .call a7U [(.t 15), (.t 17)]⟩,
  ⟨some 19, none, .call a1i [(.t 13), (.t 18)]⟩,
  ⟨none, none, .e (.store 2 (.t 4) (.t 19))⟩]
def c3V : List AIns := [opI 20 (.fldp (.t 2) 1),
  opI 21 (.load none (.t 20)),
  opI 22 (.fldp (.t 3) 1),
  opI 23 (.load none (.t 22)),
  ⟨some 24, none, .call a7T [(.t 21), (.t 23)]⟩,
  opI 25 (.bin .lss (.t 24) (.c (.int .i64 0)))]
def c3U : List AIns := [opI 26 (.load (some 2) (.t 3)),
  opI 27 (.load (some 2) (.t 2)),
  ⟨none, none, .e (.store 2 (.t 2) (.t 26))⟩,
  ⟨none, none, .e (.store 2 (.t 3) (.t 27))⟩]
def b4e : List AIns := [opI 29 (.fldp (.t 2) 1),
  opI 30 (.load none (.t 29)),
  opI 31 (.fldp (.t 3) 1),
  opI 32 (.load none (.t 31)),
  ⟨some 33, none, .call c6E [(.t 30), (.t 32)]⟩,
  mvI 28 33,
  opI 34 (.ext (.t 28) 0),
  opI 35 (.ext (.t 28) 1),
  mvI 5 34,
  mvI 6 35]
def b4d : List AIns := [opI 36 (.fldp (.t 2) 0),
  opI 37 (.load none (.t 36)),
  mvI 38 5,
  ⟨some 39, none, .call a1i [(.t 37), (.t 38)]⟩,
  ⟨none, none, .e (.store 2 (.t 4) (.t 39))⟩]
def d7X : ACode := .seq (rgI c3Y) (.seq (.seq (rgI c3X) (.cond (.t 11) (.seq (.region c3W true) (.ret)) (.skip))) (.seq (.seq (rgI c3V) (.cond (.t 25) (rgI c3U) (.skip))) (.seq (rgI b4e) (.seq (rgI b4d) (.ret)))))
theorem d4G : fchk Pr (fun _ _ => false) Try.f102 = some (d7X, [.cell 4 (some 2)], 40) := by kernel_rfl
theorem d4H : Pr.funcs[b2b]? = some Try.f102 := Try.func102
def b4o : List AIns := [opI 2 (.mv (.c (.nil)))]
def a5y : List AIns := [mvI 3 0,
  opI 4 (.len (.t 3)),
  opI 5 (.bin .gtr (.t 4) (.c (.int .i64 0))),
  mvI 6 5,
  ⟨some 7, some (6, true), .p (.mv (.t 0))⟩,
  ⟨some 8, some (6, true), .p (.mv (.t 0))⟩,
  ⟨some 9, some (6, true), .p (.len (.t 8))⟩,
  ⟨some 10, some (6, true), .p (.bin .sub (.t 9) (.c (.int .i64 1)))⟩,
  ⟨some 11, some (6, true), .p (.idxp 1 (.t 7) (.t 10))⟩,
  ⟨some 12, some (6, true), .p (.load none (.t 11))⟩,
  ⟨some 13, some (6, true), .p (.bin .eql (.t 12) (.c (.int .u32 0)))⟩,
  opI 14 (.pick (.t 6) (.t 13) (.c (.bool false)))]
def b4n : List AIns := [mvI 15 0,
  mvI 16 0,
  opI 17 (.len (.t 16)),
  opI 18 (.bin .sub (.t 17) (.c (.int .i64 1))),
  opI 19 (.slc 1 (.t 15) none (some (.t 18)) none),
  mvI 0 19]
def c4K : ACode := .seq (.seq (rgI a5y) (.cond (.t 14) (.skip) (.exit 0))) (.block 1 (rgI b4n))
def a4a : List AIns := [mvI 20 0,
  mvI 2 20]
def d8H : ACode := .seq (rgI b4o) (.seq (.block 0 (.loop c4K)) (.seq (rgI a4a) (.ret)))
theorem c4J : fchk Pr (fun _ _ => false) Try.f103 = some (d8H, [.tmp 2], 21) := by kernel_rfl
theorem c4L : Pr.funcs[a0u]? = some Try.f103 := Try.func103
def c8t : List AIns := [opI 4 (.mv (.c (.nil))),
  opI 5 (.mv (.c (.nil))),
  opI 6 (.mv (.c (.int .i64 0)))]
def c8s : List AIns := [mvI 14 0,
  ⟨some 15, none, .call a0u [(.t 14)]⟩,
  mvI 16 1,
  ⟨some 17, none, .call a0u [(.t 16)]⟩,
  mvI 0 15,
  mvI 1 17]
def c8r : List AIns := [mvI 19 1,
  opI 20 (.len (.t 19)),
  opI 21 (.bin .eql (.t 20) (.c (.int .i64 0))),
  mvI 18 21]
def d8Y : List AIns := [opI 4 (.mv (.c (.nil))),
  opI 5 (.mv (.c (.nil))),
  opI 6 (.mv (.c (.int .i64 11)))]
def c8q : List AIns := [mvI 23 0,
  mvI 24 1,
  ⟨some 25, none, .call a7T [(.t 23), (.t 24)]⟩,
  opI 26 (.bin .lss (.t 25) (.c (.int .i64 0))),
  mvI 22 26]
def c8p : List AIns := [mvI 27 0,
  ⟨some 28, none, .call a7R [(.t 27)]⟩,
  opI 4 (.mv (.c (.nil))),
  mvI 5 28,
  opI 6 (.mv (.c (.int .i64 0)))]
def b9c : List AIns := [mvI 30 1,
  opI 31 (.len (.t 30)),
  opI 32 (.bin .eql (.t 31) (.c (.int .i64 1))),
  mvI 29 32]
def c8o : List AIns := [mvI 34 0,
  mvI 35 1,
  opI 36 (.idxp 1 (.t 35) (.c (.int .i64 0))),
  opI 37 (.load none (.t 36)),
  ⟨some 38, none, .call b4U [(.t 34), (.t 37)]⟩,
  mvI 33 38,
  opI 39 (.ext (.t 33) 0),
  opI 40 (.ext (.t 33) 1),
  mvI 7 39,
  mvI 8 40]
def c8n : List AIns := [mvI 41 7,
  mvI 42 8,
  ⟨some 43, none, .e (.bsl 1 [(.t 42)])⟩,
  ⟨some 44, none, .call a0u [(.t 43)]⟩,
  mvI 4 41,
  mvI 5 44,
  opI 6 (.mv (.c (.int .i64 0)))]
def c8m : List AIns := [mvI 45 1,
  mvI 46 1,
  opI 47 (.len (.t 46)),
  opI 48 (.bin .sub (.t 47) (.c (.int .i64 1))),
  opI 49 (.idxp 1 (.t 45) (.t 48)),
  opI 50 (.load none (.t 49)),
  ⟨some 51, none, .call a1I [(.t 50)]⟩,
  mvI 9 51]
def c5n : List AIns := [mvI 52 1,
  mvI 53 9,
  ⟨some 54, none, .call b8E [(.t 52), (.t 53)]⟩,
  mvI 10 54]
def c5m : List AIns := [mvI 55 0,
  mvI 56 9,
  ⟨some 57, none, .call b8E [(.t 55), (.t 56)]⟩,
  ⟨some 58, none, .e (.bsl 1 [(.c (.int .u32 0)), (.c (.int .u32 0))])⟩,
  ⟨some 59, none, .e (.app 1 4 false (.t 57) (.t 58))⟩,
  mvI 60 0,
  opI 61 (.len (.t 60)),
  opI 62 (.bin .add (.t 61) (.c (.int .i64 1))),
  opI 63 (.slc 1 (.t 59) none (some (.t 62)) none),
  mvI 11 63]
def c5l : List AIns := [mvI 64 0,
  opI 65 (.len (.t 64)),
  mvI 66 1,
  opI 67 (.len (.t 66)),
  opI 68 (.bin .sub (.t 65) (.t 67)),
  opI 69 (.bin .add (.t 68) (.c (.int .i64 1))),
  ⟨some 70, none, .e (.mksl 1 4 (.int .u32 0) (.t 69) (.t 69))⟩,
  mvI 12 70]
def c5k : List AIns := [mvI 71 0,
  opI 72 (.len (.t 71)),
  mvI 73 1,
  opI 74 (.len (.t 73)),
  opI 75 (.bin .sub (.t 72) (.t 74)),
  mvI 13 75]
def b4x : List AIns := [mvI 76 13,
  opI 77 (.bin .geq (.t 76) (.c (.int .i64 0)))]
def c5j : List AIns := [mvI 80 12,
  mvI 81 13,
  mvI 82 11,
  mvI 83 13,
  mvI 84 13,
  mvI 85 10,
  opI 86 (.len (.t 85)),
  opI 87 (.bin .add (.t 84) (.t 86)),
  opI 88 (.bin .add (.t 87) (.c (.int .i64 1))),
  opI 89 (.slc 1 (.t 82) (some (.t 83)) (some (.t 88)) none),
  mvI 90 10,
  ⟨some 91, none, .call a9C [(.t 89), (.t 90)]⟩,
  opI 92 (.idxp 1 (.t 80) (.t 81)),
  ⟨none, none, .e (.store 1 (.t 92) (.t 91))⟩]
def c5i : List AIns := [mvI 78 13,
  opI 79 (.bin .sub (.t 78) (.c (.int .i64 1))),
  mvI 13 79]
def d9a : ACode := .seq (.seq (rgI b4x) (.cond (.t 77) (.skip) (.exit 1))) (.seq (.block 2 (rgI c5j)) (rgI c5i))
def c5h : List AIns := [mvI 93 12,
  ⟨some 94, none, .call a0u [(.t 93)]⟩,
  mvI 95 11,
  ⟨some 96, none, .call a0u [(.t 95)]⟩,
  mvI 97 9,
  ⟨some 98, none, .call b8D [(.t 96), (.t 97)]⟩,
  mvI 4 94,
  mvI 5 98,
  opI 6 (.mv (.c (.int .i64 0)))]
def e0R : ACode := .seq (rgI c8t) (.seq (rgI c8s) (.seq (.block 0 (.seq (rgI c8r) (.cond (.t 18) (.seq (rgI d8Y) (.ret)) (.seq (rgI c8q) (.cond (.t 22) (.seq (rgI c8p) (.ret)) (.seq (rgI b9c) (.cond (.t 29) (.seq (rgI c8o) (.seq (rgI c8n) (.ret))) (.skip)))))))) (.seq (rgI c8m) (.seq (rgI c5n) (.seq (rgI c5m) (.seq (rgI c5l) (.seq (.seq (rgI c5k) (.block 1 (.loop d9a))) (.seq (rgI c5h) (.ret)))))))))
theorem d8Z : fchk Pr (fun _ _ => false) Try.f104 = some (e0R, [.tmp 4, .tmp 5, .tmp 6], 99) := by kernel_rfl
theorem d9b : Pr.funcs[b8F]? = some Try.f104 := Try.func104
def b6e : List AIns := [⟨some 1, none, .e (.box 2 (.t 0))⟩,
  ⟨some 2, none, .e (.box 2 (.c (.agg [.bool false, .nil])))⟩]
def b6d : List AIns := [opI 3 (.fldp (.t 1) 0),
  opI 4 (.load none (.t 3)),
  opI 5 (.fldp (.t 1) 1),
  opI 6 (.load none (.t 5)),
  ⟨some 7, none, .call a1o [(.t 4), (.t 6)]⟩,
  ⟨none, none, .e (.store 2 (.t 2) (.t 7))⟩]
def d2o : ACode := .seq (rgI b6e) (.seq (rgI b6d) (.ret))
theorem c9Z : fchk Pr (fun _ _ => false) Try.f105 = some (d2o, [.cell 2 (some 2)], 8) := by kernel_rfl
theorem d0a : Pr.funcs[a3i]? = some Try.f105 := Try.func105
def c0e : List AIns := [⟨some 0, none, .e (.box 2 (.c (.agg [.bool false, .nil])))⟩]
def c0d : List AIns := [⟨some 1, none, .call a1K [(.c (.int .i64 1))]⟩,
  ⟨none, none, .e (.store 2 (.t 0) (.t 1))⟩]
def d4P : ACode := .seq (rgI c0e) (.seq (rgI c0d) (.ret))
theorem d1X : fchk Pr (fun _ _ => false) Try.f106 = some (d4P, [.cell 0 (some 2)], 2) := by kernel_rfl
theorem d1Y : Pr.funcs[b4O]? = some Try.f106 := Try.func106
def b5T : List AIns := [⟨some 2, none, .e (.box 2 (.t 0))⟩,
  ⟨some 3, none, .e (.box 2 (.t 1))⟩,
  ⟨some 4, none, .e (.box 4 (.c (.agg [.bool false, .nil, .bool false, .nil])))⟩]
def b5S : List AIns := [opI 14 (.load (some 2) (.t 2)),
  ⟨some 15, none, .call a3i [(.t 14)]⟩,
  ⟨some 5, none, .e (.box 2 (.c (.agg [.bool false, .nil])))⟩,
  ⟨none, none, .e (.store 2 (.t 5) (.t 15))⟩]
def b5R : List AIns := [opI 16 (.load (some 2) (.t 3)),
  ⟨some 17, none, .call a3i [(.t 16)]⟩,
  ⟨some 6, none, .e (.box 2 (.c (.agg [.bool false, .nil])))⟩,
  ⟨none, none, .e (.store 2 (.t 6) (.t 17))⟩]
def b5Q : List AIns := [opI 18 (.load (some 2) (.t 6)),
  ⟨some 19, none, .call a1C [(.t 18)]⟩,
  opI 20 (.bin .lss (.t 19) (.c (.int .i64 0)))]
def b5P : List AIns := [opI 21 (.load (some 2) (.t 5)),
  ⟨some 22, none, .call a4h [(.t 21)]⟩,
  ⟨none, none, .e (.store 2 (.t 5) (.t 22))⟩]
def b5O : List AIns := [opI 23 (.load (some 2) (.t 6)),
  ⟨some 24, none, .call a4h [(.t 23)]⟩,
  ⟨none, none, .e (.store 2 (.t 6) (.t 24))⟩]
def a8p : List AIns := [opI 25 (.fldp (.t 5) 1),
  opI 26 (.load none (.t 25)),
  opI 27 (.fldp (.t 6) 1),
  opI 28 (.load none (.t 27)),
  ⟨some 29, none, .call a9A [(.t 26), (.t 28)]⟩,
  mvI 7 29]
def a8o : List AIns := [opI 31 (.fldp (.t 5) 1),
  opI 32 (.load none (.t 31)),
  mvI 33 7,
  ⟨some 34, none, .call a3b [(.t 32), (.t 33)]⟩,
  mvI 30 34,
  opI 35 (.ext (.t 30) 0),
  opI 36 (.ext (.t 30) 1),
  opI 37 (.ext (.t 30) 2),
  mvI 8 35,
  mvI 9 36,
  mvI 10 37]
def a8n : List AIns := [opI 39 (.fldp (.t 6) 1),
  opI 40 (.load none (.t 39)),
  mvI 41 7,
  ⟨some 42, none, .call a3b [(.t 40), (.t 41)]⟩,
  mvI 38 42,
  opI 43 (.ext (.t 38) 0),
  opI 44 (.ext (.t 38) 1),
  opI 45 (.ext (.t 38) 2),
  mvI 11 43,
  mvI 12 44,
  mvI 13 45]
def a8m : List AIns := [opI 46 (.fldp (.t 5) 0),
  opI 47 (.load none (.t 46)),
  mvI 48 8,
  opI 49 (.bld [.bool false, .nil] [(0, 1, (.t 47)), (1, 1, (.t 48))]),
  ⟨some 50, none, .call a3i [(.t 49)]⟩,
  mvI 51 11,
  opI 52 (.bld [.bool false, .nil] [(1, 1, (.t 51))]),
  opI 53 (.bld [.bool false, .nil, .bool false, .nil] [(0, 2, (.t 50)), (2, 2, (.t 52))]),
  ⟨none, none, .e (.store 4 (.t 4) (.t 53))⟩]
def d2f : ACode := .seq (rgI b5T) (.seq (rgI b5S) (.seq (rgI b5R) (.seq (.seq (rgI b5Q) (.cond (.t 20) (.seq (rgI b5P) (rgI b5O)) (.skip))) (.seq (rgI a8p) (.seq (rgI a8o) (.seq (rgI a8n) (.seq (rgI a8m) (.ret))))))))
theorem c9T : fchk Pr (fun _ _ => false) Try.f107 = some (d2f, [.cell 4 (some 4)], 54) := by kernel_rfl
theorem c9U : Pr.funcs[a2C]? = some Try.f107 := Try.func107
def c0u : List AIns := [⟨some 1, none, .e (.box 2 (.t 0))⟩,
  ⟨some 2, none, .e (.box 2 (.c (.agg [.bool false, .nil])))⟩]
def c0t : List AIns := [opI 3 (.fldp (.t 1) 0),
  opI 4 (.load none (.t 3)),
  opI 5 (.un .not (.t 4)),
  opI 6 (.fldp (.t 1) 1),
  opI 7 (.load none (.t 6)),
  ⟨some 8, none, .call a1o [(.t 5), (.t 7)]⟩,
  ⟨none, none, .e (.store 2 (.t 2) (.t 8))⟩]
def d5a : ACode := .seq (rgI c0u) (.seq (rgI c0t) (.ret))
theorem d2p : fchk Pr (fun _ _ => false) Try.f108 = some (d5a, [.cell 2 (some 2)], 9) := by kernel_rfl
theorem d2q : Pr.funcs[a4h]? = some Try.f108 := Try.func108
def a6t : List AIns := [opI 2 (.mv (.c (.int .i64 0)))]
def a6s : List AIns := [mvI 3 0,
  opI 4 (.bin .geq (.t 3) (.c (.int .u32 65536)))]
def a6r : List AIns := [mvI 5 0,
  opI 6 (.bin .shr (.t 5) (.c (.int .u64 16))),
  mvI 0 6]
def a6q : List AIns := [opI 2 (.mv (.c (.int .i64 16)))]
def a3y : List AIns := [mvI 7 0,
  opI 8 (.bin .geq (.t 7) (.c (.int .u32 256)))]
def a3x : List AIns := [mvI 9 0,
  opI 10 (.bin .shr (.t 9) (.c (.int .u64 8))),
  mvI 0 10]
def a3w : List AIns := [mvI 11 2,
  opI 12 (.bin .add (.t 11) (.c (.int .i64 8))),
  mvI 2 12]
def a2m : List AIns := [mvI 13 2,
  mvI 14 0,
  opI 15 (.conv .u8 (.t 14)),
  opI 16 (.idxs (.c (.str e3k)) (.t 15)),
  opI 17 (.conv .i64 (.t 16)),
  opI 18 (.bin .add (.t 13) (.t 17)),
  mvI 2 18]
def b9j : ACode := .seq (rgI a6t) (.seq (.seq (rgI a6s) (.cond (.t 4) (.seq (rgI a6r) (rgI a6q)) (.skip))) (.seq (.seq (rgI a3y) (.cond (.t 8) (.seq (rgI a3x) (rgI a3w)) (.skip))) (.seq (rgI a2m) (.ret))))
theorem b7q : fchk Pr (fun _ _ => false) Try.f109 = some (b9j, [.tmp 2], 19) := by kernel_rfl
theorem b7r : Pr.funcs[a1D]? = some Try.f109 := Try.func109
def c0g : List AIns := [⟨some 2, none, .e (.box 4 (.t 0))⟩,
  ⟨some 3, none, .e (.box 4 (.t 1))⟩,
  ⟨some 4, none, .e (.box 4 (.c (.agg [.bool false, .nil, .bool false, .nil])))⟩]
def c0f : List AIns := [opI 5 (.load (some 4) (.t 2)),
  opI 6 (.load (some 4) (.t 3)),
  ⟨some 7, none, .call a5W [(.t 6)]⟩,
  ⟨some 8, none, .call b4R [(.t 5), (.t 7)]⟩,
  ⟨none, none, .e (.store 4 (.t 4) (.t 8))⟩]
def d4Q : ACode := .seq (rgI c0g) (.seq (.region c0f true) (.ret))
theorem d1Z : fchk Pr (fun _ _ => false) Try.f110 = some (d4Q, [.cell 4 (some 4)], 9) := by kernel_rfl
theorem d2a : Pr.funcs[b4P]? = some Try.f110 := Try.func110
def b6C : List AIns := [opI 2 (.mv (.c (.nil)))]
def b6B : List AIns := [mvI 6 0,
  opI 7 (.len (.t 6)),
  mvI 3 7]
def a8u : List AIns := [mvI 8 3,
  opI 9 (.bin .gtr (.t 8) (.c (.int .i64 0))),
  mvI 10 9,
  ⟨some 11, some (10, true), .p (.mv (.t 0))⟩,
  ⟨some 12, some (10, true), .p (.mv (.t 3))⟩,
  ⟨some 13, some (10, true), .p (.bin .sub (.t 12) (.c (.int .i64 1)))⟩,
  ⟨some 14, some (10, true), .p (.idxp 1 (.t 11) (.t 13))⟩,
  ⟨some 15, some (10, true), .p (.load none (.t 14))⟩,
  ⟨some 16, some (10, true), .p (.bin .eql (.t 15) (.c (.int .u32 0)))⟩,
  opI 17 (.pick (.t 10) (.t 16) (.c (.bool false)))]
def b6A : List AIns := [mvI 18 3,
  opI 19 (.bin .sub (.t 18) (.c (.int .i64 1))),
  mvI 3 19]
def b6D : ACode := .seq (.seq (rgI a8u) (.cond (.t 17) (.skip) (.exit 0))) (.block 1 (rgI b6A))
def a5b : List AIns := [opI 4 (.mv (.c (.nil)))]
def a5a : List AIns := [opI 5 (.mv (.c (.int .i64 0)))]
def a8t : List AIns := [mvI 20 5,
  mvI 21 3,
  opI 22 (.bin .lss (.t 20) (.t 21))]
def b6z : List AIns := [mvI 25 4,
  mvI 26 0,
  mvI 27 5,
  opI 28 (.idxp 1 (.t 26) (.t 27)),
  opI 29 (.load none (.t 28)),
  ⟨some 30, none, .e (.bsl 1 [(.t 29)])⟩,
  ⟨some 31, none, .e (.app 1 4 false (.t 25) (.t 30))⟩,
  mvI 4 31]
def b6y : List AIns := [mvI 23 5,
  opI 24 (.bin .add (.t 23) (.c (.int .i64 1))),
  mvI 5 24]
def a5c : ACode := .seq (.seq (rgI a8t) (.cond (.t 22) (.skip) (.exit 2))) (.seq (.block 3 (rgI b6z)) (rgI b6y))
def a3s : List AIns := [mvI 32 4,
  mvI 2 32]
def d2M : ACode := .seq (rgI b6C) (.seq (rgI b6B) (.seq (.block 0 (.loop b6D)) (.seq (rgI a5b) (.seq (.seq (rgI a5a) (.block 2 (.loop a5c))) (.seq (rgI a3s) (.ret))))))
theorem d0j : fchk Pr (fun _ _ => false) Try.f111 = some (d2M, [.tmp 2], 33) := by kernel_rfl
theorem d0k : Pr.funcs[a0A]? = some Try.f111 := Try.func111
def c0G : List AIns := [⟨some 2, none, .e (.box 2 (.t 0))⟩,
  ⟨some 3, none, .e (.box 2 (.t 1))⟩,
  ⟨some 4, none, .e (.box 2 (.c (.agg [.bool false, .nil])))⟩]
def c0F : List AIns := [opI 9 (.fldp (.t 2) 0),
  opI 10 (.load none (.t 9)),
  opI 11 (.fldp (.t 3) 0),
  opI 12 (.load none (.t 11)),
  opI 13 (.beq false (.t 10) (.t 12))]
def c0E : List AIns := [opI 14 (.fldp (.t 2) 0),
  opI 15 (.load none (.t 14)),
  opI 16 (.fldp (.t 2) 1),
  opI 17 (.load none (.t 16)),
  opI 18 (.fldp (.t 3) 1),
  opI 19 (.load none (.t 18)),
  ⟨some 20, none, .call a9B [(.t 17), (.t 19)]⟩,
  ⟨some 21, none, .call a1o [(.t 15), (.t 20)]⟩,
  ⟨none, none, .e (.store 2 (.t 4) (.t 21))⟩]
def c0D : List AIns := [opI 22 (.fldp (.t 2) 1),
  opI 23 (.load none (.t 22)),
  opI 24 (.fldp (.t 3) 1),
  opI 25 (.load none (.t 24)),
  ⟨some 26, none, .call a3c [(.t 23), (.t 25)]⟩,
  opI 27 (.bin .geq (.t 26) (.c (.int .i64 0)))]
def c0C : List AIns := [opI 29 (.fldp (.t 2) 1),
  opI 30 (.load none (.t 29)),
  opI 31 (.fldp (.t 3) 1),
  opI 32 (.load none (.t 31)),
  ⟨some 33, none, .call a9z [(.t 30), (.t 32)]⟩,
  mvI 28 33,
  opI 34 (.ext (.t 28) 0),
  opI 35 (.ext (.t 28) 1),
  mvI 5 34,
  mvI 6 35]
def c0B : List AIns := [opI 36 (.fldp (.t 2) 0),
  opI 37 (.load none (.t 36)),
  mvI 38 5,
  ⟨some 39, none, .call a1o [(.t 37), (.t 38)]⟩,
  ⟨none, none, .e (.store 2 (.t 4) (.t 39))⟩]
def c0A : List AIns := [opI 41 (.fldp (.t 3) 1),
  opI 42 (.load none (.t 41)),
  opI 43 (.fldp (.t 2) 1),
  opI 44 (.load none (.t 43)),
  ⟨some 45, none, .call a9z [(.t 42), (.t 44)]⟩,
  mvI 40 45,
  opI 46 (.ext (.t 40) 0),
  opI 47 (.ext (.t 40) 1),
  mvI 7 46,
  mvI 8 47]
def c0z : List AIns := [opI 48 (.fldp (.t 3) 0),
  opI 49 (.load none (.t 48)),
  mvI 50 7,
  ⟨some 51, none, .call a1o [(.t 49), (.t 50)]⟩,
  ⟨none, none, .e (.store 2 (.t 4) (.t 51))⟩]
def d5d : ACode := .seq (rgI c0G) (.seq (.seq (rgI c0F) (.cond (.t 13) (.seq (.region c0E true) (.ret)) (.skip))) (.seq (.seq (rgI c0D) (.cond (.t 27) (.seq (rgI c0C) (.seq (rgI c0B) (.ret))) (.skip))) (.seq (rgI c0A) (.seq (rgI c0z) (.ret)))))
theorem d2v : fchk Pr (fun _ _ => false) Try.f112 = some (d5d, [.cell 4 (some 2)], 52) := by kernel_rfl
theorem d2w : Pr.funcs[a4i]? = some Try.f112 := Try.func112
def c1n : List AIns := [opI 4 (.mv (.c (.nil)))]
def c1m : List AIns := [mvI 10 0,
  ⟨some 11, none, .call a0A [(.t 10)]⟩,
  mvI 5 11]
def c1l : List AIns := [mvI 12 1,
  ⟨some 13, none, .call a0A [(.t 12)]⟩,
  mvI 6 13]
def b0H : List AIns := [mvI 14 6,
  opI 15 (.len (.t 14)),
  opI 16 (.bin .gtr (.t 15) (.c (.int .i64 0)))]
def c1k : List AIns := [mvI 18 5,
  mvI 19 6,
  ⟨some 20, none, .call a3b [(.t 18), (.t 19)]⟩,
  mvI 17 20,
  opI 21 (.ext (.t 17) 0),
  opI 22 (.ext (.t 17) 1),
  opI 23 (.ext (.t 17) 2),
  mvI 7 21,
  mvI 8 22,
  mvI 9 23]
def c1j : List AIns := [mvI 24 6,
  mvI 5 24]
def c1i : List AIns := [mvI 25 8,
  mvI 6 25]
def d2Q : ACode := .seq (.seq (rgI b0H) (.cond (.t 16) (.skip) (.exit 0))) (.block 1 (.seq (rgI c1k) (.seq (rgI c1j) (rgI c1i))))
def c1h : List AIns := [mvI 26 5,
  mvI 4 26]
def d5i : ACode := .seq (rgI c1n) (.seq (rgI c1m) (.seq (rgI c1l) (.seq (.block 0 (.loop d2Q)) (.seq (rgI c1h) (.ret)))))
theorem d2P : fchk Pr (fun _ _ => false) Try.f113 = some (d5i, [.tmp 4], 27) := by kernel_rfl
theorem d2R : Pr.funcs[a9A]? = some Try.f113 := Try.func113
def c1v : List AIns := [opI 4 (.mv (.c (.nil))),
  opI 5 (.mv (.c (.nil))),
  opI 6 (.mv (.c (.int .i64 0)))]
def c1u : List AIns := [mvI 20 1,
  ⟨some 21, none, .call a0A [(.t 20)]⟩,
  mvI 7 21]
def c1t : List AIns := [mvI 22 7,
  opI 23 (.len (.t 22)),
  opI 24 (.bin .eql (.t 23) (.c (.int .i64 0)))]
def d2S : List AIns := [opI 4 (.mv (.c (.nil))),
  opI 5 (.mv (.c (.nil))),
  opI 6 (.mv (.c (.int .i64 11)))]
def b0I : List AIns := [mvI 25 7,
  opI 26 (.len (.t 25)),
  opI 27 (.bin .eql (.t 26) (.c (.int .i64 1)))]
def c1s : List AIns := [mvI 29 0,
  mvI 30 7,
  opI 31 (.idxp 1 (.t 30) (.c (.int .i64 0))),
  opI 32 (.load none (.t 31)),
  opI 33 (.conv .u64 (.t 32)),
  ⟨some 34, none, .call a9y [(.t 29), (.t 33)]⟩,
  mvI 28 34,
  opI 35 (.ext (.t 28) 0),
  opI 36 (.ext (.t 28) 1),
  mvI 8 35,
  mvI 9 36]
def c1r : List AIns := [mvI 37 8,
  mvI 38 9,
  opI 39 (.conv .u32 (.t 38)),
  ⟨some 40, none, .e (.bsl 1 [(.t 39)])⟩,
  ⟨some 41, none, .call a0A [(.t 40)]⟩,
  mvI 4 37,
  mvI 5 41,
  opI 6 (.mv (.c (.int .i64 0)))]
def c1q : List AIns := [mvI 42 7,
  opI 43 (.len (.t 42)),
  opI 44 (.bin .mul (.c (.int .i64 32)) (.t 43)),
  mvI 45 7,
  ⟨some 46, none, .call a2E [(.t 45)]⟩,
  opI 47 (.bin .sub (.t 44) (.t 46)),
  ⟨some 48, none, .call b4S [(.t 47)]⟩,
  mvI 10 48]
def c1p : List AIns := [mvI 49 0,
  mvI 50 10,
  ⟨some 51, none, .call a2c [(.t 49), (.t 50)]⟩,
  mvI 11 51]
def c1o : List AIns := [mvI 52 7,
  mvI 53 10,
  ⟨some 54, none, .call a2c [(.t 52), (.t 53)]⟩,
  mvI 12 54]
def b6Q : List AIns := [mvI 55 11,
  opI 56 (.len (.t 55)),
  ⟨some 57, none, .e (.mksl 1 4 (.int .u32 0) (.t 56) (.t 56))⟩,
  mvI 13 57]
def b6P : List AIns := [opI 14 (.mv (.c (.nil)))]
def b6O : List AIns := [mvI 58 11,
  opI 59 (.len (.t 58)),
  opI 60 (.bin .sub (.t 59) (.c (.int .i64 1))),
  mvI 15 60]
def a8C : List AIns := [mvI 61 15,
  opI 62 (.bin .geq (.t 61) (.c (.int .i64 0)))]
def b6N : List AIns := [mvI 65 11,
  mvI 66 15,
  opI 67 (.idxp 1 (.t 65) (.t 66)),
  opI 68 (.load none (.t 67)),
  ⟨some 69, none, .e (.bslm 1 [(.t 68)])⟩,
  mvI 70 14,
  ⟨some 71, none, .e (.app 1 4 false (.t 69) (.t 70))⟩,
  ⟨some 72, none, .call a0A [(.t 71)]⟩,
  mvI 14 72]
def b6M : List AIns := [mvI 73 14,
  mvI 74 12,
  ⟨some 75, none, .call a3c [(.t 73), (.t 74)]⟩,
  opI 76 (.bin .lss (.t 75) (.c (.int .i64 0)))]
def b6L : List AIns := [mvI 77 14,
  mvI 78 12,
  opI 79 (.len (.t 78)),
  ⟨some 80, none, .call a0U [(.t 77), (.t 79)]⟩,
  opI 81 (.bin .mul (.t 80) (.c (.int .u64 4294967296))),
  mvI 82 14,
  mvI 83 12,
  opI 84 (.len (.t 83)),
  opI 85 (.bin .sub (.t 84) (.c (.int .i64 1))),
  ⟨some 86, none, .call a0U [(.t 82), (.t 85)]⟩,
  opI 87 (.bin .add (.t 81) (.t 86)),
  mvI 88 12,
  mvI 89 12,
  opI 90 (.len (.t 89)),
  opI 91 (.bin .sub (.t 90) (.c (.int .i64 1))),
  ⟨some 92, none, .call a0U [(.t 88), (.t 91)]⟩,
  opI 93 (.bin .quo (.t 87) (.t 92)),
  mvI 16 93]
def a8B : List AIns := [mvI 94 16,
  opI 95 (.bin .geq (.t 94) (.c (.int .u64 4294967296)))]
def b6K : List AIns := [opI 16 (.mv (.c (.int .u64 4294967295)))]
def a8A : List AIns := [mvI 96 12,
  mvI 97 16,
  opI 98 (.conv .u32 (.t 97)),
  ⟨some 99, none, .e (.bsl 1 [(.t 98)])⟩,
  ⟨some 100, none, .call a2c [(.t 96), (.t 99)]⟩,
  mvI 17 100]
def b6J : List AIns := [mvI 101 17,
  mvI 102 14,
  ⟨some 103, none, .call a3c [(.t 101), (.t 102)]⟩,
  opI 104 (.bin .gtr (.t 103) (.c (.int .i64 0)))]
def b6I : List AIns := [mvI 105 16,
  opI 106 (.bin .sub (.t 105) (.c (.int .u64 1))),
  mvI 16 106]
def b6H : List AIns := [mvI 107 17,
  mvI 108 12,
  ⟨some 109, none, .call a2D [(.t 107), (.t 108)]⟩,
  mvI 17 109]
def c1w : ACode := .seq (.seq (rgI b6J) (.cond (.t 104) (.skip) (.exit 2))) (.block 3 (.seq (rgI b6I) (rgI b6H)))
def a8z : List AIns := [mvI 110 13,
  mvI 111 15,
  mvI 112 16,
  opI 113 (.conv .u32 (.t 112)),
  opI 114 (.idxp 1 (.t 110) (.t 111)),
  ⟨none, none, .e (.store 1 (.t 114) (.t 113))⟩]
def a8y : List AIns := [mvI 115 14,
  mvI 116 17,
  ⟨some 117, none, .call a2D [(.t 115), (.t 116)]⟩,
  mvI 14 117]
def a5d : List AIns := [mvI 63 15,
  opI 64 (.bin .sub (.t 63) (.c (.int .i64 1))),
  mvI 15 64]
def c1x : ACode := .seq (.seq (rgI a8C) (.cond (.t 62) (.skip) (.exit 0))) (.seq (.block 1 (.seq (rgI b6N) (.seq (.seq (rgI b6M) (.cond (.t 76) (.exit 1) (.skip))) (.seq (rgI b6L) (.seq (.seq (rgI a8B) (.cond (.t 95) (rgI b6K) (.skip))) (.seq (rgI a8A) (.seq (.block 2 (.loop c1w)) (.seq (rgI a8z) (rgI a8y))))))))) (rgI a5d))
def a8x : List AIns := [mvI 119 14,
  mvI 120 7,
  opI 121 (.len (.t 120)),
  opI 122 (.bin .mul (.c (.int .i64 32)) (.t 121)),
  mvI 123 7,
  ⟨some 124, none, .call a2E [(.t 123)]⟩,
  opI 125 (.bin .sub (.t 122) (.t 124)),
  ⟨some 126, none, .call b4T [(.t 119), (.t 125)]⟩,
  mvI 118 126,
  opI 127 (.ext (.t 118) 0),
  opI 128 (.ext (.t 118) 1),
  mvI 18 127,
  mvI 19 128]
def a8w : List AIns := [mvI 129 13,
  ⟨some 130, none, .call a0A [(.t 129)]⟩,
  mvI 131 18,
  mvI 4 130,
  mvI 5 131,
  opI 6 (.mv (.c (.int .i64 0)))]
def d5j : ACode := .seq (rgI c1v) (.seq (rgI c1u) (.seq (.seq (rgI c1t) (.cond (.t 24) (.seq (rgI d2S) (.ret)) (.skip))) (.seq (.seq (rgI b0I) (.cond (.t 27) (.seq (rgI c1s) (.seq (rgI c1r) (.ret))) (.skip))) (.seq (rgI c1q) (.seq (rgI c1p) (.seq (rgI c1o) (.seq (rgI b6Q) (.seq (rgI b6P) (.seq (.seq (rgI b6O) (.block 0 (.loop c1x))) (.seq (rgI a8x) (.seq (rgI a8w) (.ret))))))))))))
theorem d2T : fchk Pr (fun _ k => (k == 4)) Try.f114 = some (d5j, [.tmp 4, .tmp 5, .tmp 6], 132) := by kernel_rfl
theorem d2U : Pr.funcs[a3b]? = some Try.f114 := Try.func114
def c1e : List AIns := [opI 4 (.mv (.c (.nil)))]
def c1d : List AIns := [mvI 9 0,
  opI 10 (.len (.t 9)),
  mvI 11 1,
  opI 12 (.len (.t 11)),
  opI 13 (.bin .add (.t 10) (.t 12)),
  ⟨some 14, none, .e (.mksl 1 4 (.int .u32 0) (.t 13) (.t 13))⟩,
  mvI 5 14]
def c1c : List AIns := [opI 6 (.mv (.c (.int .i64 0)))]
def b0G : List AIns := [mvI 15 6,
  mvI 16 0,
  opI 17 (.len (.t 16)),
  opI 18 (.bin .lss (.t 15) (.t 17))]
def c1b : List AIns := [opI 7 (.mv (.c (.int .u64 0)))]
def c1a : List AIns := [opI 8 (.mv (.c (.int .i64 0)))]
def b0F : List AIns := [mvI 21 8,
  mvI 22 1,
  opI 23 (.len (.t 22)),
  opI 24 (.bin .lss (.t 21) (.t 23))]
def c0Z : List AIns := [mvI 27 7,
  mvI 28 5,
  mvI 29 6,
  mvI 30 8,
  opI 31 (.bin .add (.t 29) (.t 30)),
  opI 32 (.idxp 1 (.t 28) (.t 31)),
  opI 33 (.load none (.t 32)),
  opI 34 (.conv .u64 (.t 33)),
  opI 35 (.bin .add (.t 27) (.t 34)),
  mvI 36 0,
  mvI 37 6,
  opI 38 (.idxp 1 (.t 36) (.t 37)),
  opI 39 (.load none (.t 38)),
  opI 40 (.conv .u64 (.t 39)),
  mvI 41 1,
  mvI 42 8,
  opI 43 (.idxp 1 (.t 41) (.t 42)),
  opI 44 (.load none (.t 43)),
  opI 45 (.conv .u64 (.t 44)),
  opI 46 (.bin .mul (.t 40) (.t 45)),
  opI 47 (.bin .add (.t 35) (.t 46)),
  mvI 7 47]
def c0Y : List AIns := [mvI 48 5,
  mvI 49 6,
  mvI 50 8,
  opI 51 (.bin .add (.t 49) (.t 50)),
  mvI 52 7,
  opI 53 (.bin .rem (.t 52) (.c (.int .u64 4294967296))),
  opI 54 (.conv .u32 (.t 53)),
  opI 55 (.idxp 1 (.t 48) (.t 51)),
  ⟨none, none, .e (.store 1 (.t 55) (.t 54))⟩]
def c0X : List AIns := [mvI 56 7,
  opI 57 (.bin .quo (.t 56) (.c (.int .u64 4294967296))),
  mvI 7 57]
def b6G : List AIns := [mvI 25 8,
  opI 26 (.bin .add (.t 25) (.c (.int .i64 1))),
  mvI 8 26]
def c1f : ACode := .seq (.seq (rgI b0F) (.cond (.t 24) (.skip) (.exit 2))) (.seq (.block 3 (.seq (.region c0Z true) (.seq (rgI c0Y) (rgI c0X)))) (rgI b6G))
def b6F : List AIns := [mvI 58 5,
  mvI 59 6,
  mvI 60 1,
  opI 61 (.len (.t 60)),
  opI 62 (.bin .add (.t 59) (.t 61)),
  mvI 63 7,
  opI 64 (.conv .u32 (.t 63)),
  opI 65 (.idxp 1 (.t 58) (.t 62)),
  ⟨none, none, .e (.store 1 (.t 65) (.t 64))⟩]
def b6E : List AIns := [mvI 19 6,
  opI 20 (.bin .add (.t 19) (.c (.int .i64 1))),
  mvI 6 20]
def c1g : ACode := .seq (.seq (rgI b0G) (.cond (.t 18) (.skip) (.exit 0))) (.seq (.block 1 (.seq (rgI c1b) (.seq (.seq (rgI c1a) (.block 2 (.loop c1f))) (rgI b6F)))) (rgI b6E))
def a8v : List AIns := [mvI 66 5,
  ⟨some 67, none, .call a0A [(.t 66)]⟩,
  mvI 4 67]
def d5h : ACode := .seq (rgI c1e) (.seq (rgI c1d) (.seq (.seq (rgI c1c) (.block 0 (.loop c1g))) (.seq (rgI a8v) (.ret))))
theorem d2N : fchk Pr (fun _ _ => false) Try.f115 = some (d5h, [.tmp 4], 68) := by kernel_rfl
theorem d2O : Pr.funcs[a2c]? = some Try.f115 := Try.func115
def b5N : List AIns := [opI 2 (.mv (.c (.int .i64 0)))]
def b5M : List AIns := [opI 3 (.mv (.c (.int .i64 0)))]
def a3p : List AIns := [mvI 4 3,
  mvI 5 0,
  opI 6 (.len (.t 5)),
  opI 7 (.bin .lss (.t 4) (.t 6))]
def a4Z : List AIns := [mvI 10 0,
  mvI 11 3,
  opI 12 (.idxp 2 (.t 10) (.t 11)),
  opI 13 (.load (some 2) (.t 12)),
  ⟨some 14, none, .call a1C [(.t 13)]⟩,
  opI 15 (.bin .neq (.t 14) (.c (.int .i64 0)))]
def b5L : List AIns := [mvI 16 3,
  mvI 2 16]
def a8l : List AIns := [mvI 8 3,
  opI 9 (.bin .add (.t 8) (.c (.int .i64 1))),
  mvI 3 9]
def c9R : ACode := .seq (.seq (rgI a3p) (.cond (.t 7) (.skip) (.exit 0))) (.seq (.block 1 (.seq (rgI a4Z) (.cond (.t 15) (.seq (rgI b5L) (.ret)) (.skip)))) (rgI a8l))
def b5K : List AIns := [opI 2 (.mv (.c (.int .i64 (-1))))]
def d1W : ACode := .seq (rgI b5N) (.seq (.seq (rgI b5M) (.block 0 (.loop c9R))) (.seq (rgI b5K) (.ret)))
theorem c9Q : fchk Pr (fun _ _ => false) Try.f116 = some (d1W, [.tmp 2], 17) := by kernel_rfl
theorem c9S : Pr.funcs[b1F]? = some Try.f116 := Try.func116
def c8l : List AIns := [opI 4 (.mv (.c (.nil)))]
def c8k : List AIns := [mvI 10 0,
  ⟨some 11, none, .call a7R [(.t 10)]⟩,
  mvI 12 1,
  ⟨some 13, none, .call a7R [(.t 12)]⟩,
  mvI 5 11,
  mvI 6 13]
def b9b : List AIns := [mvI 14 6,
  opI 15 (.len (.t 14)),
  opI 16 (.bin .gtr (.t 15) (.c (.int .i64 0)))]
def c8j : List AIns := [mvI 18 5,
  mvI 19 6,
  ⟨some 20, none, .call b8F [(.t 18), (.t 19)]⟩,
  mvI 17 20,
  opI 21 (.ext (.t 17) 0),
  opI 22 (.ext (.t 17) 1),
  opI 23 (.ext (.t 17) 2),
  mvI 7 21,
  mvI 8 22,
  mvI 9 23]
def c8i : List AIns := [mvI 24 6,
  mvI 25 8,
  mvI 5 24,
  mvI 6 25]
def d8W : ACode := .seq (.seq (rgI b9b) (.cond (.t 16) (.skip) (.exit 0))) (.block 1 (.seq (rgI c8j) (rgI c8i)))
def c8h : List AIns := [mvI 26 5,
  mvI 4 26]
def e0Q : ACode := .seq (rgI c8l) (.seq (rgI c8k) (.seq (.block 0 (.loop d8W)) (.seq (rgI c8h) (.ret))))
theorem d8V : fchk Pr (fun _ _ => false) Try.f117 = some (e0Q, [.tmp 4], 27) := by kernel_rfl
theorem d8X : Pr.funcs[c6F]? = some Try.f117 := Try.func117
def c8J : List AIns := [opI 4 (.mv (.c (.nil)))]
def c8I : List AIns := [mvI 8 0,
  opI 9 (.len (.t 8)),
  mvI 10 1,
  opI 11 (.len (.t 10)),
  opI 12 (.bin .lss (.t 9) (.t 11))]
def c8H : List AIns := [mvI 13 1,
  mvI 14 0,
  mvI 0 13,
  mvI 1 14]
def b9h : List AIns := [mvI 15 0,
  opI 16 (.len (.t 15)),
  opI 17 (.bin .add (.t 16) (.c (.int .i64 1))),
  ⟨some 18, none, .e (.mksl 1 4 (.int .u32 0) (.t 17) (.t 17))⟩,
  mvI 5 18]
def b9g : List AIns := [opI 6 (.mv (.c (.int .u64 0)))]
def b9f : List AIns := [mvI 19 0,
  opI 20 (.len (.t 19)),
  opI 21 (.mv (.c (.int .i64 0)))]
def b9e : List AIns := [opI 22 (.bin .lss (.t 21) (.t 20))]
def c8G : List AIns := [mvI 23 21,
  mvI 7 23]
def c8F : List AIns := [mvI 24 6,
  mvI 25 0,
  mvI 26 7,
  opI 27 (.idxp 1 (.t 25) (.t 26)),
  opI 28 (.load none (.t 27)),
  opI 29 (.conv .u64 (.t 28)),
  opI 30 (.bin .add (.t 24) (.t 29)),
  mvI 6 30]
def c8E : List AIns := [mvI 31 7,
  mvI 32 1,
  opI 33 (.len (.t 32)),
  opI 34 (.bin .lss (.t 31) (.t 33))]
def c5w : List AIns := [mvI 35 6,
  mvI 36 1,
  mvI 37 7,
  opI 38 (.idxp 1 (.t 36) (.t 37)),
  opI 39 (.load none (.t 38)),
  opI 40 (.conv .u64 (.t 39)),
  opI 41 (.bin .add (.t 35) (.t 40)),
  mvI 6 41]
def b4B : List AIns := [mvI 42 5,
  mvI 43 7,
  mvI 44 6,
  opI 45 (.conv .u32 (.t 44)),
  opI 46 (.idxp 1 (.t 42) (.t 43)),
  ⟨none, none, .e (.store 1 (.t 46) (.t 45))⟩]
def b4A : List AIns := [mvI 47 6,
  opI 48 (.bin .shr (.t 47) (.c (.int .u64 32))),
  mvI 6 48]
def b4z : List AIns := [opI 49 (.bin .add (.t 21) (.c (.int .i64 1))),
  mvI 21 49]
def b1M : ACode := .seq (rgI b9e) (.seq (.cond (.t 22) (.skip) (.exit 0)) (.seq (.block 1 (.seq (rgI c8G) (.seq (rgI c8F) (.seq (.seq (rgI c8E) (.cond (.t 34) (rgI c5w) (.skip))) (.seq (rgI b4B) (rgI b4A)))))) (rgI b4z)))
def a5A : List AIns := [mvI 50 5,
  mvI 51 0,
  opI 52 (.len (.t 51)),
  mvI 53 6,
  opI 54 (.conv .u32 (.t 53)),
  opI 55 (.idxp 1 (.t 50) (.t 52)),
  ⟨none, none, .e (.store 1 (.t 55) (.t 54))⟩]
def a5z : List AIns := [mvI 56 5,
  ⟨some 57, none, .call a0u [(.t 56)]⟩,
  mvI 4 57]
def e0T : ACode := .seq (rgI c8J) (.seq (.seq (rgI c8I) (.cond (.t 12) (rgI c8H) (.skip))) (.seq (rgI b9h) (.seq (rgI b9g) (.seq (.seq (rgI b9f) (.block 0 (.loop b1M))) (.seq (rgI a5A) (.seq (rgI a5z) (.ret)))))))
theorem d9f : fchk Pr (fun _ _ => false) Try.f118 = some (e0T, [.tmp 4], 58) := by kernel_rfl
theorem d9g : Pr.funcs[a7U]? = some Try.f118 := Try.func118
def c7W : List AIns := [opI 4 (.mv (.c (.nil))),
  opI 5 (.mv (.c (.int .i64 0)))]
def c7V : List AIns := [mvI 6 0,
  mvI 7 1,
  ⟨some 8, none, .call a7T [(.t 6), (.t 7)]⟩,
  opI 9 (.bin .lss (.t 8) (.c (.int .i64 0)))]
def d8P : List AIns := [opI 4 (.mv (.c (.nil))),
  opI 5 (.mv (.c (.int .i64 10)))]
def c7U : List AIns := [mvI 10 0,
  ⟨some 11, none, .call a0u [(.t 10)]⟩,
  mvI 12 1,
  ⟨some 13, none, .call a0u [(.t 12)]⟩,
  ⟨some 14, none, .call a7Q [(.t 11), (.t 13)]⟩,
  mvI 4 14,
  opI 5 (.mv (.c (.int .i64 0)))]
def e0O : ACode := .seq (rgI c7W) (.seq (.seq (rgI c7V) (.cond (.t 9) (.seq (rgI d8P) (.ret)) (.skip))) (.seq (rgI c7U) (.ret)))
theorem d8Q : fchk Pr (fun _ _ => false) Try.f119 = some (e0O, [.tmp 4, .tmp 5], 15) := by kernel_rfl
theorem d8R : Pr.funcs[c6E]? = some Try.f119 := Try.func119
def c5a : List AIns := [opI 2 (.mv (.c (.nil)))]
def c4Z : List AIns := [mvI 3 0,
  ⟨some 4, none, .call a0u [(.t 3)]⟩,
  ⟨some 5, none, .e (.app 1 4 false (.c (.nil)) (.t 4))⟩,
  mvI 2 5]
def d8S : ACode := .seq (rgI c5a) (.seq (rgI c4Z) (.ret))
theorem d5v : fchk Pr (fun _ _ => false) Try.f120 = some (d8S, [.tmp 2], 6) := by kernel_rfl
theorem d5w : Pr.funcs[a7R]? = some Try.f120 := Try.func120
def c2b : List AIns := [opI 4 (.mv (.c (.nil))),
  opI 5 (.mv (.c (.int .u32 0)))]
def c2a : List AIns := [mvI 9 0,
  opI 10 (.len (.t 9)),
  ⟨some 11, none, .e (.mksl 1 4 (.int .u32 0) (.t 10) (.t 10))⟩,
  mvI 6 11]
def c1Z : List AIns := [opI 7 (.mv (.c (.int .u64 0)))]
def c1Y : List AIns := [mvI 12 0,
  opI 13 (.len (.t 12)),
  opI 14 (.bin .sub (.t 13) (.c (.int .i64 1))),
  mvI 8 14]
def b0P : List AIns := [mvI 15 8,
  opI 16 (.bin .geq (.t 15) (.c (.int .i64 0)))]
def c1X : List AIns := [mvI 19 7,
  opI 20 (.bin .shl (.t 19) (.c (.int .u64 32))),
  mvI 21 0,
  mvI 22 8,
  opI 23 (.idxp 1 (.t 21) (.t 22)),
  opI 24 (.load none (.t 23)),
  opI 25 (.conv .u64 (.t 24)),
  opI 26 (.bin .or (.t 20) (.t 25)),
  mvI 7 26]
def c1W : List AIns := [mvI 27 6,
  mvI 28 8,
  mvI 29 7,
  mvI 30 1,
  opI 31 (.conv .u64 (.t 30)),
  opI 32 (.bin .quo (.t 29) (.t 31)),
  opI 33 (.conv .u32 (.t 32)),
  opI 34 (.idxp 1 (.t 27) (.t 28)),
  ⟨none, none, .e (.store 1 (.t 34) (.t 33))⟩]
def c1V : List AIns := [mvI 35 7,
  mvI 36 1,
  opI 37 (.conv .u64 (.t 36)),
  opI 38 (.bin .rem (.t 35) (.t 37)),
  mvI 7 38]
def c1U : List AIns := [mvI 17 8,
  opI 18 (.bin .sub (.t 17) (.c (.int .i64 1))),
  mvI 8 18]
def d3k : ACode := .seq (.seq (rgI b0P) (.cond (.t 16) (.skip) (.exit 0))) (.seq (.block 1 (.seq (rgI c1X) (.seq (rgI c1W) (rgI c1V)))) (rgI c1U))
def c1T : List AIns := [mvI 39 6,
  ⟨some 40, none, .call a0u [(.t 39)]⟩,
  mvI 41 7,
  opI 42 (.conv .u32 (.t 41)),
  mvI 4 40,
  mvI 5 42]
def d5r : ACode := .seq (rgI c2b) (.seq (rgI c2a) (.seq (rgI c1Z) (.seq (.seq (rgI c1Y) (.block 0 (.loop d3k))) (.seq (rgI c1T) (.ret)))))
theorem d3j : fchk Pr (fun _ _ => false) Try.f121 = some (d5r, [.tmp 4, .tmp 5], 43) := by kernel_rfl
theorem d3l : Pr.funcs[b4U]? = some Try.f121 := Try.func121
def a2v : List AIns := [opI 2 (.mv (.c (.int .i64 0)))]
def a2u : List AIns := [mvI 3 0,
  ⟨some 4, none, .call a1D [(.t 3)]⟩,
  opI 5 (.bin .sub (.c (.int .i64 32)) (.t 4)),
  mvI 2 5]
def a6b : ACode := .seq (rgI a2v) (.seq (rgI a2u) (.ret))
theorem a5B : fchk Pr (fun _ _ => false) Try.f122 = some (a6b, [.tmp 2], 6) := by kernel_rfl
theorem a5C : Pr.funcs[a1I]? = some Try.f122 := Try.func122
def c7T : List AIns := [opI 4 (.mv (.c (.nil)))]
def c7S : List AIns := [mvI 10 0,
  ⟨some 11, none, .call a0u [(.t 10)]⟩,
  mvI 0 11]
def c7R : List AIns := [mvI 12 0,
  opI 13 (.len (.t 12)),
  opI 14 (.bin .eql (.t 13) (.c (.int .i64 0)))]
def d8K : List AIns := [opI 4 (.mv (.c (.nil)))]
def c7Q : List AIns := [mvI 15 1,
  opI 16 (.bin .quo (.t 15) (.c (.int .i64 32))),
  mvI 17 1,
  opI 18 (.bin .rem (.t 17) (.c (.int .i64 32))),
  opI 19 (.conv .u64 (.t 18)),
  mvI 5 16,
  mvI 6 19]
def c7P : List AIns := [mvI 20 0,
  opI 21 (.len (.t 20)),
  mvI 22 5,
  opI 23 (.bin .add (.t 21) (.t 22)),
  opI 24 (.bin .add (.t 23) (.c (.int .i64 1))),
  ⟨some 25, none, .e (.mksl 1 4 (.int .u32 0) (.t 24) (.t 24))⟩,
  mvI 7 25]
def c7O : List AIns := [mvI 26 0,
  opI 27 (.len (.t 26)),
  opI 28 (.mv (.c (.int .i64 0)))]
def b8Y : List AIns := [opI 29 (.bin .lss (.t 28) (.t 27))]
def c7N : List AIns := [mvI 30 28,
  mvI 8 30]
def c7M : List AIns := [mvI 31 0,
  mvI 32 8,
  opI 33 (.idxp 1 (.t 31) (.t 32)),
  opI 34 (.load none (.t 33)),
  opI 35 (.conv .u64 (.t 34)),
  mvI 36 6,
  opI 37 (.bin .shl (.t 35) (.t 36)),
  mvI 9 37]
def c4Q : List AIns := [mvI 38 7,
  mvI 39 8,
  mvI 40 5,
  opI 41 (.bin .add (.t 39) (.t 40)),
  opI 42 (.idxp 1 (.t 38) (.t 41)),
  opI 43 (.load none (.t 42)),
  mvI 44 9,
  opI 45 (.conv .u32 (.t 44)),
  opI 46 (.bin .or (.t 43) (.t 45)),
  opI 47 (.idxp 1 (.t 38) (.t 41)),
  ⟨none, none, .e (.store 1 (.t 47) (.t 46))⟩]
def c4P : List AIns := [mvI 48 7,
  mvI 49 8,
  mvI 50 5,
  opI 51 (.bin .add (.t 49) (.t 50)),
  opI 52 (.bin .add (.t 51) (.c (.int .i64 1))),
  mvI 53 9,
  opI 54 (.bin .shr (.t 53) (.c (.int .u64 32))),
  opI 55 (.conv .u32 (.t 54)),
  opI 56 (.idxp 1 (.t 48) (.t 52)),
  ⟨none, none, .e (.store 1 (.t 56) (.t 55))⟩]
def c4O : List AIns := [opI 57 (.bin .add (.t 28) (.c (.int .i64 1))),
  mvI 28 57]
def d8M : ACode := .seq (rgI b8Y) (.seq (.cond (.t 29) (.skip) (.exit 0)) (.seq (.block 1 (.seq (rgI c7N) (.seq (rgI c7M) (.seq (rgI c4Q) (rgI c4P))))) (rgI c4O)))
def c4N : List AIns := [mvI 58 7,
  ⟨some 59, none, .call a0u [(.t 58)]⟩,
  mvI 4 59]
def e0N : ACode := .seq (rgI c7T) (.seq (rgI c7S) (.seq (.seq (rgI c7R) (.cond (.t 14) (.seq (rgI d8K) (.ret)) (.skip))) (.seq (rgI c7Q) (.seq (rgI c7P) (.seq (.seq (rgI c7O) (.block 0 (.loop d8M))) (.seq (rgI c4N) (.ret)))))))
theorem d8L : fchk Pr (fun _ _ => false) Try.f123 = some (e0N, [.tmp 4], 60) := by kernel_rfl
theorem d8N : Pr.funcs[b8E]? = some Try.f123 := Try.func123
def c2j : List AIns := [opI 4 (.mv (.c (.int .u32 0)))]
def c2i : List AIns := [mvI 15 1,
  opI 16 (.len (.t 15)),
  mvI 5 16]
def c2h : List AIns := [mvI 17 0,
  mvI 18 5,
  opI 19 (.idxp 1 (.t 17) (.t 18)),
  opI 20 (.load none (.t 19)),
  opI 21 (.conv .u64 (.t 20)),
  opI 22 (.bin .shl (.t 21) (.c (.int .u64 32))),
  mvI 23 0,
  mvI 24 5,
  opI 25 (.bin .sub (.t 24) (.c (.int .i64 1))),
  opI 26 (.idxp 1 (.t 23) (.t 25)),
  opI 27 (.load none (.t 26)),
  opI 28 (.conv .u64 (.t 27)),
  opI 29 (.bin .or (.t 22) (.t 28)),
  mvI 6 29]
def c2g : List AIns := [mvI 30 6,
  mvI 31 1,
  mvI 32 5,
  opI 33 (.bin .sub (.t 32) (.c (.int .i64 1))),
  opI 34 (.idxp 1 (.t 31) (.t 33)),
  opI 35 (.load none (.t 34)),
  opI 36 (.conv .u64 (.t 35)),
  opI 37 (.bin .quo (.t 30) (.t 36)),
  opI 38 (.mnx false (.t 37) (.c (.int .u64 4294967295))),
  mvI 7 38]
def c2f : List AIns := [opI 8 (.mv (.c (.int .u64 0))),
  opI 9 (.mv (.c (.int .u64 0)))]
def c2e : List AIns := [mvI 39 5,
  opI 40 (.bin .add (.t 39) (.c (.int .i64 1))),
  opI 41 (.mv (.c (.int .i64 0)))]
def b0T : List AIns := [opI 42 (.bin .lss (.t 41) (.t 40))]
def c2d : List AIns := [mvI 43 41,
  mvI 10 43]
def c2c : List AIns := [mvI 44 8,
  mvI 11 44]
def b0S : List AIns := [mvI 45 10,
  mvI 46 5,
  opI 47 (.bin .lss (.t 45) (.t 46))]
def b7n : List AIns := [mvI 48 11,
  mvI 49 7,
  mvI 50 1,
  mvI 51 10,
  opI 52 (.idxp 1 (.t 50) (.t 51)),
  opI 53 (.load none (.t 52)),
  opI 54 (.conv .u64 (.t 53)),
  opI 55 (.bin .mul (.t 49) (.t 54)),
  opI 56 (.bin .add (.t 48) (.t 55)),
  mvI 11 56]
def a8V : List AIns := [mvI 57 11,
  opI 58 (.bin .shr (.t 57) (.c (.int .u64 32))),
  mvI 8 58]
def a8U : List AIns := [mvI 59 0,
  mvI 60 10,
  opI 61 (.idxp 1 (.t 59) (.t 60)),
  opI 62 (.load none (.t 61)),
  opI 63 (.conv .u64 (.t 62)),
  mvI 64 11,
  opI 65 (.conv .u32 (.t 64)),
  opI 66 (.conv .u64 (.t 65)),
  opI 67 (.bin .sub (.t 63) (.t 66)),
  mvI 68 9,
  opI 69 (.bin .sub (.t 67) (.t 68)),
  mvI 12 69]
def a8T : List AIns := [mvI 70 0,
  mvI 71 10,
  mvI 72 12,
  opI 73 (.conv .u32 (.t 72)),
  opI 74 (.idxp 1 (.t 70) (.t 71)),
  ⟨none, none, .e (.store 1 (.t 74) (.t 73))⟩]
def a8S : List AIns := [mvI 75 12,
  opI 76 (.bin .shr (.t 75) (.c (.int .u64 63))),
  mvI 9 76]
def a8R : List AIns := [opI 77 (.bin .add (.t 41) (.c (.int .i64 1))),
  mvI 41 77]
def a6n : ACode := .seq (rgI b0T) (.seq (.cond (.t 42) (.skip) (.exit 0)) (.seq (.block 1 (.seq (rgI c2d) (.seq (rgI c2c) (.seq (.seq (rgI b0S) (.cond (.t 47) (rgI b7n) (.skip))) (.seq (rgI a8V) (.seq (rgI a8U) (.seq (rgI a8T) (rgI a8S)))))))) (rgI a8R)))
def a5g : List AIns := [mvI 78 9,
  opI 79 (.bin .gtr (.t 78) (.c (.int .u64 0)))]
def b7m : List AIns := [mvI 80 7,
  opI 81 (.bin .sub (.t 80) (.c (.int .u64 1))),
  mvI 7 81]
def b7l : List AIns := [opI 13 (.mv (.c (.int .u64 0)))]
def b7k : List AIns := [mvI 82 5,
  opI 83 (.bin .add (.t 82) (.c (.int .i64 1))),
  opI 84 (.mv (.c (.int .i64 0)))]
def a8Q : List AIns := [opI 85 (.bin .lss (.t 84) (.t 83))]
def b7j : List AIns := [mvI 86 84,
  mvI 14 86]
def b7i : List AIns := [mvI 87 13,
  mvI 88 0,
  mvI 89 14,
  opI 90 (.idxp 1 (.t 88) (.t 89)),
  opI 91 (.load none (.t 90)),
  opI 92 (.conv .u64 (.t 91)),
  opI 93 (.bin .add (.t 87) (.t 92)),
  mvI 13 93]
def a8P : List AIns := [mvI 94 14,
  mvI 95 5,
  opI 96 (.bin .lss (.t 94) (.t 95))]
def b7h : List AIns := [mvI 97 13,
  mvI 98 1,
  mvI 99 14,
  opI 100 (.idxp 1 (.t 98) (.t 99)),
  opI 101 (.load none (.t 100)),
  opI 102 (.conv .u64 (.t 101)),
  opI 103 (.bin .add (.t 97) (.t 102)),
  mvI 13 103]
def a8O : List AIns := [mvI 104 0,
  mvI 105 14,
  mvI 106 13,
  opI 107 (.conv .u32 (.t 106)),
  opI 108 (.idxp 1 (.t 104) (.t 105)),
  ⟨none, none, .e (.store 1 (.t 108) (.t 107))⟩]
def a8N : List AIns := [mvI 109 13,
  opI 110 (.bin .shr (.t 109) (.c (.int .u64 32))),
  mvI 13 110]
def a8M : List AIns := [opI 111 (.bin .add (.t 84) (.c (.int .i64 1))),
  mvI 84 111]
def a6m : ACode := .seq (rgI a8Q) (.seq (.cond (.t 85) (.skip) (.exit 4)) (.seq (.block 5 (.seq (rgI b7j) (.seq (rgI b7i) (.seq (.seq (rgI a8P) (.cond (.t 96) (rgI b7h) (.skip))) (.seq (rgI a8O) (rgI a8N)))))) (rgI a8M)))
def b7g : List AIns := [mvI 112 9,
  mvI 113 13,
  opI 114 (.bin .sub (.t 112) (.t 113)),
  mvI 9 114]
def c2k : ACode := .seq (.seq (rgI a5g) (.cond (.t 79) (.skip) (.exit 2))) (.block 3 (.seq (rgI b7m) (.seq (rgI b7l) (.seq (.seq (rgI b7k) (.block 4 (.loop a6m))) (rgI b7g)))))
def a5f : List AIns := [mvI 115 7,
  opI 116 (.conv .u32 (.t 115)),
  mvI 4 116]
def d5u : ACode := .seq (rgI c2j) (.seq (rgI c2i) (.seq (.region c2h true) (.seq (rgI c2g) (.seq (rgI c2f) (.seq (.seq (rgI c2e) (.block 0 (.loop a6n))) (.seq (.block 2 (.loop c2k)) (.seq (rgI a5f) (.ret))))))))
theorem d3m : fchk Pr (fun _ _ => false) Try.f124 = some (d5u, [.tmp 4], 117) := by kernel_rfl
theorem d3n : Pr.funcs[a9C]? = some Try.f124 := Try.func124
def c7K : List AIns := [opI 4 (.mv (.c (.nil)))]
def c7J : List AIns := [mvI 10 0,
  ⟨some 11, none, .call a0u [(.t 10)]⟩,
  mvI 0 11]
def c7I : List AIns := [mvI 12 1,
  opI 13 (.bin .quo (.t 12) (.c (.int .i64 32))),
  mvI 14 1,
  opI 15 (.bin .rem (.t 14) (.c (.int .i64 32))),
  opI 16 (.conv .u64 (.t 15)),
  mvI 5 13,
  mvI 6 16]
def b8X : List AIns := [mvI 17 5,
  mvI 18 0,
  opI 19 (.len (.t 18)),
  opI 20 (.bin .geq (.t 17) (.t 19))]
def c7H : List AIns := [opI 4 (.mv (.c (.nil)))]
def c7G : List AIns := [mvI 21 0,
  opI 22 (.len (.t 21)),
  mvI 23 5,
  opI 24 (.bin .sub (.t 22) (.t 23)),
  ⟨some 25, none, .e (.mksl 1 4 (.int .u32 0) (.t 24) (.t 24))⟩,
  mvI 7 25]
def c7F : List AIns := [mvI 26 7,
  opI 27 (.len (.t 26)),
  opI 28 (.mv (.c (.int .i64 0)))]
def b8W : List AIns := [opI 29 (.bin .lss (.t 28) (.t 27))]
def c7E : List AIns := [mvI 30 28,
  mvI 8 30]
def c7D : List AIns := [mvI 31 0,
  mvI 32 8,
  mvI 33 5,
  opI 34 (.bin .add (.t 32) (.t 33)),
  opI 35 (.idxp 1 (.t 31) (.t 34)),
  opI 36 (.load none (.t 35)),
  opI 37 (.conv .u64 (.t 36)),
  mvI 9 37]
def b4s : List AIns := [mvI 38 8,
  mvI 39 5,
  opI 40 (.bin .add (.t 38) (.t 39)),
  opI 41 (.bin .add (.t 40) (.c (.int .i64 1))),
  mvI 42 0,
  opI 43 (.len (.t 42)),
  opI 44 (.bin .lss (.t 41) (.t 43))]
def c4M : List AIns := [mvI 45 9,
  mvI 46 0,
  mvI 47 8,
  mvI 48 5,
  opI 49 (.bin .add (.t 47) (.t 48)),
  opI 50 (.bin .add (.t 49) (.c (.int .i64 1))),
  opI 51 (.idxp 1 (.t 46) (.t 50)),
  opI 52 (.load none (.t 51)),
  opI 53 (.conv .u64 (.t 52)),
  opI 54 (.bin .shl (.t 53) (.c (.int .u64 32))),
  opI 55 (.bin .or (.t 45) (.t 54)),
  mvI 9 55]
def b4r : List AIns := [mvI 56 7,
  mvI 57 8,
  mvI 58 9,
  mvI 59 6,
  opI 60 (.bin .shr (.t 58) (.t 59)),
  opI 61 (.conv .u32 (.t 60)),
  opI 62 (.idxp 1 (.t 56) (.t 57)),
  ⟨none, none, .e (.store 1 (.t 62) (.t 61))⟩]
def b4q : List AIns := [opI 63 (.bin .add (.t 28) (.c (.int .i64 1))),
  mvI 28 63]
def c7L : ACode := .seq (rgI b8W) (.seq (.cond (.t 29) (.skip) (.exit 0)) (.seq (.block 1 (.seq (rgI c7E) (.seq (rgI c7D) (.seq (.seq (rgI b4s) (.cond (.t 44) (rgI c4M) (.skip))) (rgI b4r))))) (rgI b4q)))
def b4p : List AIns := [mvI 64 7,
  ⟨some 65, none, .call a0u [(.t 64)]⟩,
  mvI 4 65]
def e0M : ACode := .seq (rgI c7K) (.seq (rgI c7J) (.seq (rgI c7I) (.seq (.seq (rgI b8X) (.cond (.t 20) (.seq (rgI c7H) (.ret)) (.skip))) (.seq (rgI c7G) (.seq (.seq (rgI c7F) (.block 0 (.loop c7L))) (.seq (rgI b4p) (.ret)))))))
theorem d8I : fchk Pr (fun _ _ => false) Try.f125 = some (e0M, [.tmp 4], 66) := by kernel_rfl
theorem d8J : Pr.funcs[b8D]? = some Try.f125 := Try.func125
def c0q : List AIns := [⟨some 2, none, .e (.box 4 (.t 0))⟩,
  ⟨some 3, none, .e (.box 4 (.t 1))⟩,
  ⟨some 4, none, .e (.box 4 (.c (.agg [.bool false, .nil, .bool false, .nil])))⟩]
def c0p : List AIns := [opI 7 (.fldp (.t 2) 0),
  opI 8 (.load (some 2) (.t 7)),
  opI 9 (.fldp (.t 3) 2),
  opI 10 (.load (some 2) (.t 9)),
  ⟨some 11, none, .call a1b [(.t 8), (.t 10)]⟩,
  ⟨some 5, none, .e (.box 2 (.c (.agg [.bool false, .nil])))⟩,
  ⟨none, none, .e (.store 2 (.t 5) (.t 11))⟩]
def c0o : List AIns := [opI 12 (.fldp (.t 3) 0),
  opI 13 (.load (some 2) (.t 12)),
  opI 14 (.fldp (.t 2) 2),
  opI 15 (.load (some 2) (.t 14)),
  ⟨some 16, none, .call a1b [(.t 13), (.t 15)]⟩,
  ⟨some 6, none, .e (.box 2 (.c (.agg [.bool false, .nil])))⟩,
  ⟨none, none, .e (.store 2 (.t 6) (.t 16))⟩]
def c0n : List AIns := [opI 17 (.load (some 2) (.t 5)),
  opI 18 (.load (some 2) (.t 6)),
  ⟨some 19, none, .call a4i [(.t 17), (.t 18)]⟩,
  opI 20 (.fldp (.t 2) 2),
  opI 21 (.load (some 2) (.t 20)),
  opI 22 (.fldp (.t 3) 2),
  opI 23 (.load (some 2) (.t 22)),
  ⟨some 24, none, .call a1b [(.t 21), (.t 23)]⟩,
  ⟨some 25, none, .call a2C [(.t 19), (.t 24)]⟩,
  ⟨none, none, .e (.store 4 (.t 4) (.t 25))⟩]
def d4W : ACode := .seq (rgI c0q) (.seq (rgI c0p) (.seq (rgI c0o) (.seq (.region c0n true) (.ret))))
theorem d2i : fchk Pr (fun _ _ => false) Try.f126 = some (d4W, [.cell 4 (some 4)], 26) := by kernel_rfl
theorem d2j : Pr.funcs[b4R]? = some Try.f126 := Try.func126
def c1P : List AIns := [opI 4 (.mv (.c (.nil)))]
def c1O : List AIns := [opI 5 (.mv (.c (.nil)))]
def c1N : List AIns := [opI 6 (.mv (.c (.int .u64 0)))]
def c1M : List AIns := [opI 7 (.mv (.c (.int .i64 0)))]
def b0L : List AIns := [mvI 8 7,
  mvI 9 0,
  opI 10 (.len (.t 9)),
  mvI 11 1,
  opI 12 (.len (.t 11)),
  ⟨some 13, none, .call a6J [(.t 10), (.t 12)]⟩,
  opI 14 (.bin .lss (.t 8) (.t 13))]
def c1L : List AIns := [mvI 17 6,
  mvI 18 0,
  mvI 19 7,
  ⟨some 20, none, .call a0U [(.t 18), (.t 19)]⟩,
  opI 21 (.bin .add (.t 17) (.t 20)),
  mvI 22 1,
  mvI 23 7,
  ⟨some 24, none, .call a0U [(.t 22), (.t 23)]⟩,
  opI 25 (.bin .add (.t 21) (.t 24)),
  mvI 6 25]
def c1K : List AIns := [mvI 26 5,
  mvI 27 6,
  opI 28 (.bin .rem (.t 27) (.c (.int .u64 4294967296))),
  opI 29 (.conv .u32 (.t 28)),
  ⟨some 30, none, .e (.bsl 1 [(.t 29)])⟩,
  ⟨some 31, none, .e (.app 1 4 false (.t 26) (.t 30))⟩,
  mvI 5 31]
def c1J : List AIns := [mvI 32 6,
  opI 33 (.bin .quo (.t 32) (.c (.int .u64 4294967296))),
  mvI 6 33]
def c1I : List AIns := [mvI 15 7,
  opI 16 (.bin .add (.t 15) (.c (.int .i64 1))),
  mvI 7 16]
def c1Q : ACode := .seq (.seq (rgI b0L) (.cond (.t 14) (.skip) (.exit 0))) (.seq (.block 1 (.seq (rgI c1L) (.seq (rgI c1K) (rgI c1J)))) (rgI c1I))
def b0K : List AIns := [mvI 34 5,
  mvI 35 6,
  opI 36 (.conv .u32 (.t 35)),
  ⟨some 37, none, .e (.bsl 1 [(.t 36)])⟩,
  ⟨some 38, none, .e (.app 1 4 false (.t 34) (.t 37))⟩,
  mvI 5 38]
def a8H : List AIns := [mvI 39 5,
  ⟨some 40, none, .call a0A [(.t 39)]⟩,
  mvI 4 40]
def d5l : ACode := .seq (rgI c1P) (.seq (rgI c1O) (.seq (rgI c1N) (.seq (.seq (rgI c1M) (.block 0 (.loop c1Q))) (.seq (rgI b0K) (.seq (rgI a8H) (.ret))))))
theorem d2Y : fchk Pr (fun _ _ => false) Try.f127 = some (d5l, [.tmp 4], 41) := by kernel_rfl
theorem d2Z : Pr.funcs[a9B]? = some Try.f127 := Try.func127
def c1G : List AIns := [opI 4 (.mv (.c (.int .i64 0)))]
def c1F : List AIns := [mvI 8 0,
  opI 9 (.len (.t 8)),
  mvI 10 1,
  opI 11 (.len (.t 10)),
  ⟨some 12, none, .call a6J [(.t 9), (.t 11)]⟩,
  opI 13 (.bin .sub (.t 12) (.c (.int .i64 1))),
  mvI 5 13]
def b0J : List AIns := [mvI 14 5,
  opI 15 (.bin .geq (.t 14) (.c (.int .i64 0)))]
def c1E : List AIns := [mvI 18 0,
  mvI 19 5,
  ⟨some 20, none, .call a0U [(.t 18), (.t 19)]⟩,
  mvI 6 20]
def c1D : List AIns := [mvI 21 1,
  mvI 22 5,
  ⟨some 23, none, .call a0U [(.t 21), (.t 22)]⟩,
  mvI 7 23]
def c1C : List AIns := [mvI 24 6,
  mvI 25 7,
  opI 26 (.bin .lss (.t 24) (.t 25))]
def c1B : List AIns := [opI 4 (.mv (.c (.int .i64 (-1))))]
def c1A : List AIns := [mvI 27 6,
  mvI 28 7,
  opI 29 (.bin .gtr (.t 27) (.t 28))]
def c1z : List AIns := [opI 4 (.mv (.c (.int .i64 1)))]
def c1y : List AIns := [mvI 16 5,
  opI 17 (.bin .sub (.t 16) (.c (.int .i64 1))),
  mvI 5 17]
def c1H : ACode := .seq (.seq (rgI b0J) (.cond (.t 15) (.skip) (.exit 0))) (.seq (.block 1 (.seq (rgI c1E) (.seq (rgI c1D) (.seq (.seq (rgI c1C) (.cond (.t 26) (.seq (rgI c1B) (.ret)) (.skip))) (.seq (rgI c1A) (.cond (.t 29) (.seq (rgI c1z) (.ret)) (.skip))))))) (rgI c1y))
def a8D : List AIns := [opI 4 (.mv (.c (.int .i64 0)))]
def d5k : ACode := .seq (rgI c1G) (.seq (.seq (rgI c1F) (.block 0 (.loop c1H))) (.seq (rgI a8D) (.ret)))
theorem d2V : fchk Pr (fun _ _ => false) Try.f128 = some (d5k, [.tmp 4], 30) := by kernel_rfl
theorem d2W : Pr.funcs[a3c]? = some Try.f128 := Try.func128
def c0O : List AIns := [opI 4 (.mv (.c (.nil))),
  opI 5 (.mv (.c (.int .i64 0)))]
def c0N : List AIns := [mvI 6 0,
  mvI 7 1,
  ⟨some 8, none, .call a3c [(.t 6), (.t 7)]⟩,
  opI 9 (.bin .lss (.t 8) (.c (.int .i64 0)))]
def d2F : List AIns := [opI 4 (.mv (.c (.nil))),
  opI 5 (.mv (.c (.int .i64 10)))]
def c0M : List AIns := [mvI 10 0,
  mvI 11 1,
  ⟨some 12, none, .call a2D [(.t 10), (.t 11)]⟩,
  mvI 4 12,
  opI 5 (.mv (.c (.int .i64 0)))]
def d5f : ACode := .seq (rgI c0O) (.seq (.seq (rgI c0N) (.cond (.t 9) (.seq (rgI d2F) (.ret)) (.skip))) (.seq (rgI c0M) (.ret)))
theorem d2G : fchk Pr (fun _ _ => false) Try.f129 = some (d5f, [.tmp 4, .tmp 5], 13) := by kernel_rfl
theorem d2H : Pr.funcs[a9z]? = some Try.f129 := Try.func129
def b3o : List AIns := [opI 4 (.mv (.c (.nil))),
  opI 5 (.mv (.c (.int .u64 0)))]
def b3n : List AIns := [mvI 9 0,
  opI 10 (.len (.t 9)),
  ⟨some 11, none, .e (.mksl 1 4 (.int .u32 0) (.t 10) (.t 10))⟩,
  mvI 6 11]
def b3m : List AIns := [opI 7 (.mv (.c (.int .u64 0)))]
def b3l : List AIns := [mvI 12 0,
  opI 13 (.len (.t 12)),
  opI 14 (.bin .sub (.t 13) (.c (.int .i64 1))),
  mvI 8 14]
def a7b : List AIns := [mvI 15 8,
  opI 16 (.bin .geq (.t 15) (.c (.int .i64 0)))]
def b3k : List AIns := [mvI 19 7,
  opI 20 (.bin .mul (.t 19) (.c (.int .u64 4294967296))),
  mvI 21 0,
  mvI 22 8,
  opI 23 (.idxp 1 (.t 21) (.t 22)),
  opI 24 (.load none (.t 23)),
  opI 25 (.conv .u64 (.t 24)),
  opI 26 (.bin .add (.t 20) (.t 25)),
  mvI 7 26]
def b3j : List AIns := [mvI 27 6,
  mvI 28 8,
  mvI 29 7,
  mvI 30 1,
  opI 31 (.bin .quo (.t 29) (.t 30)),
  opI 32 (.conv .u32 (.t 31)),
  opI 33 (.idxp 1 (.t 27) (.t 28)),
  ⟨none, none, .e (.store 1 (.t 33) (.t 32))⟩]
def b3i : List AIns := [mvI 34 7,
  mvI 35 1,
  opI 36 (.bin .rem (.t 34) (.t 35)),
  mvI 7 36]
def b3h : List AIns := [mvI 17 8,
  opI 18 (.bin .sub (.t 17) (.c (.int .i64 1))),
  mvI 8 18]
def c6T : ACode := .seq (.seq (rgI a7b) (.cond (.t 16) (.skip) (.exit 0))) (.seq (.block 1 (.seq (rgI b3k) (.seq (rgI b3j) (rgI b3i)))) (rgI b3h))
def b3g : List AIns := [mvI 37 6,
  ⟨some 38, none, .call a0A [(.t 37)]⟩,
  mvI 39 7,
  mvI 4 38,
  mvI 5 39]
def d0c : ACode := .seq (rgI b3o) (.seq (rgI b3n) (.seq (rgI b3m) (.seq (.seq (rgI b3l) (.block 0 (.loop c6T))) (.seq (rgI b3g) (.ret)))))
theorem c6S : fchk Pr (fun _ _ => false) Try.f130 = some (d0c, [.tmp 4, .tmp 5], 40) := by kernel_rfl
theorem c6U : Pr.funcs[a9y]? = some Try.f130 := Try.func130
def c0L : List AIns := [opI 2 (.mv (.c (.nil)))]
def c0K : List AIns := [opI 3 (.mv (.c (.nil)))]
def c0J : List AIns := [opI 4 (.mv (.c (.int .i64 0)))]
def c0I : List AIns := [mvI 5 4,
  mvI 6 0,
  opI 7 (.bin .quo (.t 6) (.c (.int .i64 32))),
  opI 8 (.bin .lss (.t 5) (.t 7))]
def d2B : List AIns := [mvI 11 3,
  ⟨some 12, none, .e (.bsl 1 [(.c (.int .u32 0))])⟩,
  ⟨some 13, none, .e (.app 1 4 false (.t 11) (.t 12))⟩,
  mvI 3 13]
def d2A : List AIns := [mvI 9 4,
  opI 10 (.bin .add (.t 9) (.c (.int .i64 1))),
  mvI 4 10]
def d2D : ACode := .seq (.seq (rgI c0I) (.cond (.t 8) (.skip) (.exit 0))) (.seq (.block 1 (rgI d2B)) (rgI d2A))
def c0H : List AIns := [mvI 14 3,
  mvI 15 0,
  opI 16 (.bin .rem (.t 15) (.c (.int .i64 32))),
  opI 17 (.conv .u64 (.t 16)),
  opI 18 (.bin .shl (.c (.int .u32 1)) (.t 17)),
  ⟨some 19, none, .e (.bsl 1 [(.t 18)])⟩,
  ⟨some 20, none, .e (.app 1 4 false (.t 14) (.t 19))⟩,
  mvI 2 20]
def d5e : ACode := .seq (rgI c0L) (.seq (rgI c0K) (.seq (.seq (rgI c0J) (.block 0 (.loop d2D))) (.seq (rgI c0H) (.ret))))
theorem d2C : fchk Pr (fun _ _ => false) Try.f131 = some (d5e, [.tmp 2], 21) := by kernel_rfl
theorem d2E : Pr.funcs[b4S]? = some Try.f131 := Try.func131
def b6X : List AIns := [opI 2 (.mv (.c (.int .i64 0)))]
def b6W : List AIns := [mvI 6 0,
  opI 7 (.len (.t 6)),
  opI 8 (.bin .sub (.t 7) (.c (.int .i64 1))),
  mvI 3 8]
def a8G : List AIns := [mvI 9 3,
  opI 10 (.bin .geq (.t 9) (.c (.int .i64 0)))]
def b6V : List AIns := [mvI 13 0,
  mvI 14 3,
  opI 15 (.idxp 1 (.t 13) (.t 14)),
  opI 16 (.load none (.t 15)),
  opI 17 (.bin .neq (.t 16) (.c (.int .u32 0)))]
def b6U : List AIns := [mvI 18 3,
  opI 19 (.bin .mul (.c (.int .i64 32)) (.t 18)),
  mvI 4 19]
def b6T : List AIns := [mvI 20 0,
  mvI 21 3,
  opI 22 (.idxp 1 (.t 20) (.t 21)),
  opI 23 (.load none (.t 22)),
  mvI 5 23]
def a8F : List AIns := [mvI 24 5,
  opI 25 (.bin .gtr (.t 24) (.c (.int .u32 0)))]
def b6S : List AIns := [mvI 28 4,
  opI 29 (.bin .add (.t 28) (.c (.int .i64 1))),
  mvI 4 29]
def b6R : List AIns := [mvI 26 5,
  opI 27 (.bin .quo (.t 26) (.c (.int .u32 2))),
  mvI 5 27]
def b6Y : ACode := .seq (.seq (rgI a8F) (.cond (.t 25) (.skip) (.exit 2))) (.seq (.block 3 (rgI b6S)) (rgI b6R))
def a8E : List AIns := [mvI 30 4,
  mvI 2 30]
def b3q : List AIns := [mvI 11 3,
  opI 12 (.bin .sub (.t 11) (.c (.int .i64 1))),
  mvI 3 12]
def b6Z : ACode := .seq (.seq (rgI a8G) (.cond (.t 10) (.skip) (.exit 0))) (.seq (.block 1 (.seq (rgI b6V) (.cond (.t 17) (.seq (rgI b6U) (.seq (.seq (rgI b6T) (.block 2 (.loop b6Y))) (.seq (rgI a8E) (.ret)))) (.skip)))) (rgI b3q))
def a7e : List AIns := [opI 2 (.mv (.c (.int .i64 0)))]
def d2X : ACode := .seq (rgI b6X) (.seq (.seq (rgI b6W) (.block 0 (.loop b6Z))) (.seq (rgI a7e) (.ret)))
theorem d0l : fchk Pr (fun _ _ => false) Try.f132 = some (d2X, [.tmp 2], 31) := by kernel_rfl
theorem d0m : Pr.funcs[a2E]? = some Try.f132 := Try.func132
def b6m : List AIns := [opI 4 (.mv (.c (.int .u64 0)))]
def b6l : List AIns := [mvI 5 1,
  mvI 6 0,
  opI 7 (.len (.t 6)),
  opI 8 (.bin .lss (.t 5) (.t 7))]
def b6k : List AIns := [mvI 9 0,
  mvI 10 1,
  opI 11 (.idxp 1 (.t 9) (.t 10)),
  opI 12 (.load none (.t 11)),
  opI 13 (.conv .u64 (.t 12)),
  mvI 4 13]
def b6j : List AIns := [opI 4 (.mv (.c (.int .u64 0)))]
def d2y : ACode := .seq (rgI b6m) (.seq (.seq (rgI b6l) (.cond (.t 8) (.seq (rgI b6k) (.ret)) (.skip))) (.seq (rgI b6j) (.ret)))
theorem d0f : fchk Pr (fun _ _ => false) Try.f133 = some (d2y, [.tmp 4], 14) := by kernel_rfl
theorem d0g : Pr.funcs[a0U]? = some Try.f133 := Try.func133
def b6v : List AIns := [opI 4 (.mv (.c (.nil)))]
def b6u : List AIns := [opI 5 (.mv (.c (.nil)))]
def b6t : List AIns := [opI 6 (.mv (.c (.int .u64 0)))]
def b6s : List AIns := [opI 7 (.mv (.c (.int .i64 0)))]
def a8r : List AIns := [mvI 10 7,
  mvI 11 0,
  opI 12 (.len (.t 11)),
  opI 13 (.bin .lss (.t 10) (.t 12))]
def b6r : List AIns := [mvI 16 0,
  mvI 17 7,
  ⟨some 18, none, .call a0U [(.t 16), (.t 17)]⟩,
  mvI 8 18]
def b6q : List AIns := [mvI 19 1,
  mvI 20 7,
  ⟨some 21, none, .call a0U [(.t 19), (.t 20)]⟩,
  mvI 22 6,
  opI 23 (.bin .add (.t 21) (.t 22)),
  mvI 9 23]
def b6p : List AIns := [opI 6 (.mv (.c (.int .u64 0)))]
def b6o : List AIns := [mvI 24 8,
  mvI 25 9,
  opI 26 (.bin .lss (.t 24) (.t 25))]
def b6n : List AIns := [mvI 27 8,
  opI 28 (.bin .add (.t 27) (.c (.int .u64 4294967296))),
  mvI 8 28]
def b3p : List AIns := [opI 6 (.mv (.c (.int .u64 1)))]
def a7d : List AIns := [mvI 29 5,
  mvI 30 8,
  mvI 31 9,
  opI 32 (.bin .sub (.t 30) (.t 31)),
  opI 33 (.conv .u32 (.t 32)),
  ⟨some 34, none, .e (.bsl 1 [(.t 33)])⟩,
  ⟨some 35, none, .e (.app 1 4 false (.t 29) (.t 34))⟩,
  mvI 5 35]
def a7c : List AIns := [mvI 14 7,
  opI 15 (.bin .add (.t 14) (.c (.int .i64 1))),
  mvI 7 15]
def a8s : ACode := .seq (.seq (rgI a8r) (.cond (.t 13) (.skip) (.exit 0))) (.seq (.block 1 (.seq (rgI b6r) (.seq (rgI b6q) (.seq (rgI b6p) (.seq (.seq (rgI b6o) (.cond (.t 26) (.seq (rgI b6n) (rgI b3p)) (.skip))) (rgI a7d)))))) (rgI a7c))
def a4r : List AIns := [mvI 36 5,
  ⟨some 37, none, .call a0A [(.t 36)]⟩,
  mvI 4 37]
def d2z : ACode := .seq (rgI b6v) (.seq (rgI b6u) (.seq (rgI b6t) (.seq (.seq (rgI b6s) (.block 0 (.loop a8s))) (.seq (rgI a4r) (.ret)))))
theorem d0h : fchk Pr (fun _ _ => false) Try.f134 = some (d2z, [.tmp 4], 38) := by kernel_rfl
theorem d0i : Pr.funcs[a2D]? = some Try.f134 := Try.func134
def c0W : List AIns := [opI 4 (.mv (.c (.nil))),
  opI 5 (.mv (.c (.int .i64 0)))]
def c0V : List AIns := [mvI 9 1,
  opI 10 (.bin .lss (.t 9) (.c (.int .i64 0)))]
def d2I : List AIns := [opI 4 (.mv (.c (.nil))),
  opI 5 (.mv (.c (.int .i64 1)))]
def c0U : List AIns := [mvI 11 1,
  mvI 12 0,
  ⟨some 13, none, .call a2E [(.t 12)]⟩,
  opI 14 (.bin .geq (.t 11) (.t 13))]
def c0T : List AIns := [opI 4 (.mv (.c (.nil))),
  opI 5 (.mv (.c (.int .i64 0)))]
def c0S : List AIns := [opI 6 (.mv (.c (.nil)))]
def c0R : List AIns := [mvI 15 1,
  opI 16 (.bin .quo (.t 15) (.c (.int .i64 32))),
  mvI 7 16]
def b0E : List AIns := [mvI 17 7,
  mvI 18 0,
  opI 19 (.len (.t 18)),
  opI 20 (.bin .lss (.t 17) (.t 19))]
def c0Q : List AIns := [mvI 23 0,
  mvI 24 7,
  ⟨some 25, none, .call a0U [(.t 23), (.t 24)]⟩,
  mvI 26 0,
  mvI 27 7,
  opI 28 (.bin .add (.t 27) (.c (.int .i64 1))),
  ⟨some 29, none, .call a0U [(.t 26), (.t 28)]⟩,
  opI 30 (.bin .mul (.t 29) (.c (.int .u64 4294967296))),
  opI 31 (.bin .add (.t 25) (.t 30)),
  mvI 8 31]
def c0P : List AIns := [mvI 32 6,
  mvI 33 8,
  mvI 34 1,
  opI 35 (.bin .rem (.t 34) (.c (.int .i64 32))),
  opI 36 (.conv .u64 (.t 35)),
  opI 37 (.bin .shr (.t 33) (.t 36)),
  opI 38 (.bin .rem (.t 37) (.c (.int .u64 4294967296))),
  opI 39 (.conv .u32 (.t 38)),
  ⟨some 40, none, .e (.bsl 1 [(.t 39)])⟩,
  ⟨some 41, none, .e (.app 1 4 false (.t 32) (.t 40))⟩,
  mvI 6 41]
def b6x : List AIns := [mvI 21 7,
  opI 22 (.bin .add (.t 21) (.c (.int .i64 1))),
  mvI 7 22]
def d2K : ACode := .seq (.seq (rgI b0E) (.cond (.t 20) (.skip) (.exit 0))) (.seq (.block 1 (.seq (rgI c0Q) (rgI c0P))) (rgI b6x))
def b6w : List AIns := [mvI 42 6,
  ⟨some 43, none, .call a0A [(.t 42)]⟩,
  mvI 4 43,
  opI 5 (.mv (.c (.int .i64 0)))]
def d5g : ACode := .seq (rgI c0W) (.seq (.seq (rgI c0V) (.cond (.t 10) (.seq (rgI d2I) (.ret)) (.skip))) (.seq (.seq (rgI c0U) (.cond (.t 14) (.seq (rgI c0T) (.ret)) (.skip))) (.seq (rgI c0S) (.seq (.seq (rgI c0R) (.block 0 (.loop d2K))) (.seq (rgI b6w) (.ret))))))
theorem d2J : fchk Pr (fun _ _ => false) Try.f135 = some (d5g, [.tmp 4, .tmp 5], 44) := by kernel_rfl
theorem d2L : Pr.funcs[b4T]? = some Try.f135 := Try.func135
def c4Y : List AIns := [opI 4 (.mv (.c (.nil)))]
def c4X : List AIns := [mvI 9 0,
  opI 10 (.len (.t 9)),
  ⟨some 11, none, .e (.mksl 1 4 (.int .u32 0) (.t 10) (.t 10))⟩,
  mvI 5 11]
def c4W : List AIns := [opI 6 (.mv (.c (.int .u64 0)))]
def c4V : List AIns := [mvI 12 0,
  opI 13 (.len (.t 12)),
  opI 14 (.mv (.c (.int .i64 0)))]
def b4u : List AIns := [opI 15 (.bin .lss (.t 14) (.t 13))]
def c4U : List AIns := [mvI 16 14,
  mvI 7 16]
def c4T : List AIns := [mvI 17 0,
  mvI 18 7,
  opI 19 (.idxp 1 (.t 17) (.t 18)),
  opI 20 (.load none (.t 19)),
  opI 21 (.conv .u64 (.t 20)),
  mvI 22 6,
  opI 23 (.bin .sub (.t 21) (.t 22)),
  mvI 8 23]
def c4S : List AIns := [mvI 24 7,
  mvI 25 1,
  opI 26 (.len (.t 25)),
  opI 27 (.bin .lss (.t 24) (.t 26))]
def c4R : List AIns := [mvI 28 8,
  mvI 29 1,
  mvI 30 7,
  opI 31 (.idxp 1 (.t 29) (.t 30)),
  opI 32 (.load none (.t 31)),
  opI 33 (.conv .u64 (.t 32)),
  opI 34 (.bin .sub (.t 28) (.t 33)),
  mvI 8 34]
def b4t : List AIns := [mvI 35 5,
  mvI 36 7,
  mvI 37 8,
  opI 38 (.conv .u32 (.t 37)),
  opI 39 (.idxp 1 (.t 35) (.t 36)),
  ⟨none, none, .e (.store 1 (.t 39) (.t 38))⟩]
def b0R : List AIns := [mvI 40 8,
  opI 41 (.bin .shr (.t 40) (.c (.int .u64 63))),
  mvI 6 41]
def b0Q : List AIns := [opI 42 (.bin .add (.t 14) (.c (.int .i64 1))),
  mvI 14 42]
def b4v : ACode := .seq (rgI b4u) (.seq (.cond (.t 15) (.skip) (.exit 0)) (.seq (.block 1 (.seq (rgI c4U) (.seq (rgI c4T) (.seq (.seq (rgI c4S) (.cond (.t 27) (rgI c4R) (.skip))) (.seq (rgI b4t) (rgI b0R)))))) (rgI b0Q)))
def a6l : List AIns := [mvI 43 5,
  ⟨some 44, none, .call a0u [(.t 43)]⟩,
  mvI 4 44]
def d8O : ACode := .seq (rgI c4Y) (.seq (rgI c4X) (.seq (rgI c4W) (.seq (.seq (rgI c4V) (.block 0 (.loop b4v))) (.seq (rgI a6l) (.ret)))))
theorem d5s : fchk Pr (fun _ _ => false) Try.f136 = some (d8O, [.tmp 4], 45) := by kernel_rfl
theorem d5t : Pr.funcs[a7Q]? = some Try.f136 := Try.func136
def b6i : List AIns := [opI 4 (.mv (.c (.int .i64 0)))]
def b6h : List AIns := [mvI 5 0,
  mvI 6 1,
  opI 7 (.bin .gtr (.t 5) (.t 6))]
def b6g : List AIns := [mvI 8 0,
  mvI 4 8]
def b6f : List AIns := [mvI 9 1,
  mvI 4 9]
def d2x : ACode := .seq (rgI b6i) (.seq (.seq (rgI b6h) (.cond (.t 7) (.seq (rgI b6g) (.ret)) (.skip))) (.seq (rgI b6f) (.ret)))
theorem d0d : fchk Pr (fun _ _ => false) Try.f137 = some (d2x, [.tmp 4], 10) := by kernel_rfl
theorem d0e : Pr.funcs[a6J]? = some Try.f137 := Try.func137
end Go.Abs

/- Part 5 of the proof of ElimGoes: Code0, Code1, Code2. -/
import Derived.Test.YtkljokmnimblnaaElimGoesK4
set_option maxRecDepth 100000
noncomputable section
namespace Go.Abs
abbrev mvI (d s : Nat) : AIns := ⟨some d, none, .p (.mv (.t s))⟩
abbrev opI (d : Nat) (o : POp) : AIns := ⟨some d, none, .p o⟩
abbrev rgI (l : List AIns) : ACode := .region l false
open Go.Proofs
def a6Q : List AIns := [opI 4 (.mv (.c (.bool false)))]
def a6P : List AIns := [⟨some 20, none, .call a8f []⟩,
  opI 21 (.un .not (.t 20))]
def b5l : List AIns := [opI 4 (.mv (.c (.bool false)))]
def a6O : List AIns := [mvI 23 0,
  mvI 24 1,
  ⟨some 25, none, .call a0H [(.t 23), (.t 24)]⟩,
  mvI 22 25,
  opI 26 (.ext (.t 22) 0),
  opI 27 (.ext (.t 22) 1),
  opI 28 (.ext (.t 22) 2),
  ⟨some 6, none, .e (.box 2 (.c (.agg [.bool false, .nil])))⟩,
  mvI 5 26,
  ⟨none, none, .e (.store 2 (.t 6) (.t 27))⟩,
  mvI 7 28]
def a3L : List AIns := [mvI 29 7,
  opI 30 (.bin .eql (.t 29) (.c (.int .i64 0)))]
def a3K : List AIns := [mvI 32 5,
  mvI 33 0,
  ⟨some 34, none, .call a4O [(.t 32), (.t 33)]⟩,
  mvI 31 34,
  opI 35 (.ext (.t 31) 0),
  opI 36 (.ext (.t 31) 1),
  mvI 8 35,
  mvI 9 36]
def a3J : List AIns := [mvI 37 9,
  opI 38 (.bin .neq (.t 37) (.c (.int .i64 0))),
  mvI 39 38,
  ⟨some 40, some (39, false), .p (.load (some 2) (.t 6))⟩,
  ⟨some 41, some (39, false), .call a0U [(.t 40)]⟩,
  ⟨some 42, some (39, false), .p (.bin .leq (.t 41) (.c (.int .i64 0)))⟩,
  opI 43 (.pick (.t 39) (.c (.bool true)) (.t 42)),
  mvI 44 43,
  ⟨some 45, some (44, false), .p (.mv (.t 0))⟩,
  ⟨some 46, some (44, false), .p (.len (.t 45))⟩,
  ⟨some 47, some (44, false), .p (.bin .gtr (.t 46) (.c (.int .i64 0)))⟩,
  ⟨some 48, some (44, false), .p (.mv (.t 47))⟩,
  ⟨some 49, some (48, true), .p (.mv (.t 8))⟩,
  ⟨some 50, some (48, true), .p (.load (some 2) (.t 6))⟩,
  ⟨some 51, some (48, true), .p (.mv (.t 1))⟩,
  ⟨some 52, some (48, true), .call b2M [(.t 50), (.t 51)]⟩,
  ⟨some 53, some (48, true), .call a8e [(.t 49), (.t 52)]⟩,
  ⟨some 54, some (48, true), .p (.bin .neq (.t 53) (.c (.int .i64 0)))⟩,
  ⟨some 55, some (44, false), .p (.pick (.t 48) (.t 54) (.c (.bool false)))⟩,
  opI 56 (.pick (.t 44) (.c (.bool true)) (.t 55))]
def b5k : List AIns := [opI 4 (.mv (.c (.bool false)))]
def a3I : List AIns := [mvI 58 0,
  mvI 59 1,
  ⟨some 60, none, .call a2F [(.t 58), (.t 59)]⟩,
  mvI 57 60,
  opI 61 (.ext (.t 57) 0),
  opI 62 (.ext (.t 57) 1),
  opI 63 (.ext (.t 57) 2),
  ⟨some 11, none, .e (.box 2 (.c (.agg [.bool false, .nil])))⟩,
  mvI 10 61,
  ⟨none, none, .e (.store 2 (.t 11) (.t 62))⟩,
  mvI 9 63]
def a2C : List AIns := [mvI 64 9,
  opI 65 (.bin .eql (.t 64) (.c (.int .i64 0))),
  mvI 66 65,
  ⟨some 67, some (66, true), .p (.load (some 2) (.t 11))⟩,
  ⟨some 68, some (66, true), .call a0U [(.t 67)]⟩,
  ⟨some 69, some (66, true), .p (.bin .neq (.t 68) (.c (.int .i64 0)))⟩,
  opI 70 (.pick (.t 66) (.t 69) (.c (.bool false)))]
def a3u : List AIns := [opI 12 (.mv (.c (.int .i64 0)))]
def a3t : List AIns := [mvI 71 12,
  mvI 72 10,
  opI 73 (.len (.t 72)),
  opI 74 (.bin .lss (.t 71) (.t 73))]
def a6a : List AIns := [mvI 77 12,
  mvI 78 5,
  opI 79 (.len (.t 78)),
  opI 80 (.bin .geq (.t 77) (.t 79)),
  mvI 81 80,
  ⟨some 82, some (81, false), .p (.mv (.t 5))⟩,
  ⟨some 83, some (81, false), .p (.mv (.t 12))⟩,
  ⟨some 84, some (81, false), .p (.idxp 2 (.t 82) (.t 83))⟩,
  ⟨some 85, some (81, false), .p (.load (some 2) (.t 84))⟩,
  ⟨some 86, some (81, false), .p (.load (some 2) (.t 11))⟩,
  ⟨some 87, some (81, false), .call a1f [(.t 85), (.t 86)]⟩,
  ⟨some 88, some (81, false), .p (.mv (.t 10))⟩,
  ⟨some 89, some (81, false), .p (.mv (.t 12))⟩,
  ⟨some 90, some (81, false), .p (.idxp 2 (.t 88) (.t 89))⟩,
  ⟨some 91, some (81, false), .p (.load (some 2) (.t 90))⟩,
  ⟨some 92, some (81, false), .p (.load (some 2) (.t 6))⟩,
  ⟨some 93, some (81, false), .call a1f [(.t 91), (.t 92)]⟩,
  ⟨some 94, some (81, false), .call a7e [(.t 87), (.t 93)]⟩,
  ⟨some 95, some (81, false), .p (.un .not (.t 94))⟩,
  opI 96 (.pick (.t 81) (.c (.bool true)) (.t 95))]
def b3u : List AIns := [opI 4 (.mv (.c (.bool false)))]
def a5Z : List AIns := [mvI 75 12,
  opI 76 (.bin .add (.t 75) (.c (.int .i64 1))),
  mvI 12 76]
def a6S : ACode := .seq (.seq (rgI a3t) (.cond (.t 74) (.skip) (.exit 0))) (.seq (.block 1 (.seq (.region a6a true) (.cond (.t 96) (.seq (rgI b3u) (.ret)) (.skip)))) (rgI a5Z))
def a1A : List AIns := [mvI 98 0,
  ⟨some 99, none, .call a8h [(.t 98)]⟩,
  mvI 97 99,
  opI 100 (.ext (.t 97) 0),
  opI 101 (.ext (.t 97) 1),
  mvI 13 100,
  mvI 14 101]
def a2l : List AIns := [mvI 103 0,
  ⟨some 104, none, .call a5z [(.t 103)]⟩,
  mvI 102 104,
  opI 105 (.ext (.t 102) 0),
  opI 106 (.ext (.t 102) 1),
  mvI 15 105,
  mvI 16 106]
def a2k : List AIns := [mvI 107 14,
  opI 108 (.bin .neq (.t 107) (.c (.int .i64 0))),
  mvI 109 108,
  ⟨some 110, some (109, false), .p (.mv (.t 16))⟩,
  ⟨some 111, some (109, false), .p (.bin .neq (.t 110) (.c (.int .i64 0)))⟩,
  opI 112 (.pick (.t 109) (.c (.bool true)) (.t 111))]
def a3s : List AIns := [mvI 113 14,
  mvI 114 16,
  opI 115 (.bin .eql (.t 113) (.t 114)),
  mvI 4 115]
def a3r : List AIns := [mvI 116 13,
  opI 117 (.len (.t 116)),
  mvI 118 0,
  opI 119 (.len (.t 118)),
  mvI 120 15,
  opI 121 (.bin .sub (.t 119) (.t 120)),
  opI 122 (.bin .neq (.t 117) (.t 121))]
def a5Y : List AIns := [opI 4 (.mv (.c (.bool false)))]
def a3q : List AIns := [opI 17 (.mv (.c (.int .i64 0)))]
def a3p : List AIns := [mvI 123 17,
  mvI 124 13,
  opI 125 (.len (.t 124)),
  opI 126 (.bin .lss (.t 123) (.t 125))]
def a5X : List AIns := [mvI 130 13,
  mvI 131 17,
  opI 132 (.idxp 1 (.t 130) (.t 131)),
  opI 133 (.load none (.t 132)),
  mvI 134 0,
  ⟨some 135, none, .call a4O [(.t 133), (.t 134)]⟩,
  mvI 129 135,
  opI 136 (.ext (.t 129) 0),
  opI 137 (.ext (.t 129) 1),
  mvI 18 136,
  mvI 19 137]
def a5W : List AIns := [mvI 138 19,
  opI 139 (.bin .neq (.t 138) (.c (.int .i64 0))),
  mvI 140 139,
  ⟨some 141, some (140, false), .p (.mv (.t 18))⟩,
  ⟨some 142, some (140, false), .call a4U [(.t 141)]⟩,
  ⟨some 143, some (140, false), .p (.bin .neq (.t 142) (.c (.int .i64 (-1))))⟩,
  opI 144 (.pick (.t 140) (.c (.bool true)) (.t 143)),
  mvI 145 144,
  ⟨some 146, some (145, false), .p (.mv (.t 13))⟩,
  ⟨some 147, some (145, false), .p (.mv (.t 17))⟩,
  ⟨some 148, some (145, false), .p (.idxp 1 (.t 146) (.t 147))⟩,
  ⟨some 149, some (145, false), .p (.load none (.t 148))⟩,
  ⟨some 150, some (145, false), .call a4U [(.t 149)]⟩,
  ⟨some 151, some (145, false), .p (.bin .lss (.t 150) (.c (.int .i64 0)))⟩,
  opI 152 (.pick (.t 145) (.c (.bool true)) (.t 151))]
def b3t : List AIns := [opI 4 (.mv (.c (.bool false)))]
def a5V : List AIns := [mvI 127 17,
  opI 128 (.bin .add (.t 127) (.c (.int .i64 1))),
  mvI 17 128]
def a6R : ACode := .seq (.seq (rgI a3p) (.cond (.t 126) (.skip) (.exit 2))) (.seq (.block 3 (.seq (rgI a5X) (.seq (rgI a5W) (.cond (.t 152) (.seq (rgI b3t) (.ret)) (.skip))))) (rgI a5V))
def a3o : List AIns := [opI 4 (.mv (.c (.bool true)))]
def b7m : ACode := .seq (rgI a6Q) (.seq (.seq (rgI a6P) (.cond (.t 21) (.seq (rgI b5l) (.ret)) (.skip))) (.seq (rgI a6O) (.seq (.seq (rgI a3L) (.cond (.t 30) (.seq (rgI a3K) (.seq (.seq (rgI a3J) (.cond (.t 56) (.seq (rgI b5k) (.ret)) (.skip))) (.seq (rgI a3I) (.seq (rgI a2C) (.cond (.t 70) (.seq (rgI a3u) (.block 0 (.loop a6S))) (.skip)))))) (.skip))) (.seq (rgI a1A) (.seq (rgI a2l) (.seq (.seq (rgI a2k) (.cond (.t 112) (.seq (rgI a3s) (.ret)) (.skip))) (.seq (.seq (rgI a3r) (.cond (.t 122) (.seq (rgI a5Y) (.ret)) (.skip))) (.seq (.seq (rgI a3q) (.block 2 (.loop a6R))) (.seq (rgI a3o) (.ret))))))))))
theorem b5m : fchk Pr (fun _ _ => false) Try.f13 = some (b7m, [.tmp 4], 153) := by kernel_rfl
theorem b5n : Pr.funcs[a4w]? = some Try.f13 := Try.func13
def a9I : List AIns := [opI 2 (.mv (.c (.int .i64 0))),
  opI 3 (.mv (.c (.int .i64 0)))]
def a9H : List AIns := [mvI 12 0,
  ⟨some 13, none, .call a3g [(.t 12)]⟩,
  mvI 11 13,
  opI 14 (.ext (.t 11) 0),
  opI 15 (.ext (.t 11) 1),
  opI 16 (.ext (.t 11) 2),
  mvI 4 14,
  mvI 5 15,
  mvI 6 16]
def a9G : List AIns := [mvI 17 6,
  opI 18 (.bin .neq (.t 17) (.c (.int .i64 0)))]
def b6R : List AIns := [mvI 19 6,
  opI 2 (.mv (.c (.int .i64 0))),
  mvI 3 19]
def b6Q : List AIns := [mvI 21 0,
  mvI 22 5,
  ⟨some 23, none, .call a2f [(.t 21), (.t 22)]⟩,
  mvI 20 23,
  opI 24 (.ext (.t 20) 0),
  opI 25 (.ext (.t 20) 1),
  opI 26 (.ext (.t 20) 2),
  opI 27 (.ext (.t 20) 3),
  ⟨some 9, none, .e (.box 2 (.c (.agg [.bool false, .nil])))⟩,
  mvI 7 24,
  mvI 8 25,
  ⟨none, none, .e (.store 2 (.t 9) (.t 26))⟩,
  mvI 10 27]
def b6P : List AIns := [mvI 28 8,
  opI 29 (.len (.t 28)),
  mvI 2 29,
  opI 3 (.mv (.c (.int .i64 0)))]
def c8c : ACode := .seq (rgI a9I) (.seq (rgI a9H) (.seq (.seq (rgI a9G) (.cond (.t 18) (.seq (rgI b6R) (.ret)) (.skip))) (.seq (rgI b6Q) (.seq (rgI b6P) (.ret)))))
theorem b6S : fchk Pr (fun _ _ => false) Try.f14 = some (c8c, [.tmp 2, .tmp 3], 30) := by kernel_rfl
theorem b6T : Pr.funcs[a5z]? = some Try.f14 := Try.func14
def a4c : List AIns := [opI 4 (.mv (.c (.nil))),
  ⟨some 5, none, .e (.box 2 (.c (.agg [.bool false, .nil])))⟩,
  opI 6 (.mv (.c (.int .i64 0)))]
def a4b : List AIns := [mvI 13 0,
  ⟨some 14, none, .call a4P [(.t 13)]⟩,
  mvI 12 14,
  opI 15 (.ext (.t 12) 0),
  opI 16 (.ext (.t 12) 1),
  mvI 7 15,
  mvI 8 16]
def a4a : List AIns := [mvI 17 8,
  opI 18 (.bin .neq (.t 17) (.c (.int .i64 0)))]
def b1U : List AIns := [opI 19 (.bld [.bool false, .nil] []),
  mvI 20 8,
  opI 4 (.mv (.c (.nil))),
  ⟨none, none, .e (.store 2 (.t 5) (.t 19))⟩,
  mvI 6 20]
def a6B : List AIns := [mvI 21 1,
  opI 22 (.len (.t 21)),
  mvI 23 7,
  opI 24 (.bin .neq (.t 22) (.t 23))]
def b1T : List AIns := [opI 25 (.bld [.bool false, .nil] []),
  opI 4 (.mv (.c (.nil))),
  ⟨none, none, .e (.store 2 (.t 5) (.t 25))⟩,
  opI 6 (.mv (.c (.int .i64 8)))]
def b1S : List AIns := [opI 9 (.mv (.c (.nil)))]
def b1R : List AIns := [mvI 26 7,
  opI 27 (.mv (.c (.int .i64 0)))]
def a6A : List AIns := [opI 28 (.bin .lss (.t 27) (.t 26))]
def b1Q : List AIns := [mvI 29 27,
  mvI 10 29]
def a9Q : List AIns := [mvI 30 0,
  ⟨some 31, none, .e (.app 1 24 false (.c (.nil)) (.t 30))⟩,
  mvI 11 31]
def a9P : List AIns := [mvI 32 11,
  mvI 33 10,
  mvI 34 1,
  opI 35 (.idxp 1 (.t 32) (.t 33)),
  ⟨none, none, .e (.store 1 (.t 35) (.t 34))⟩]
def a9O : List AIns := [mvI 36 9,
  mvI 37 11,
  ⟨some 38, none, .call a7f [(.t 37)]⟩,
  ⟨some 39, none, .e (.bsl 2 [(.t 38)])⟩,
  ⟨some 40, none, .e (.app 2 32 false (.t 36) (.t 39))⟩,
  mvI 9 40]
def a9N : List AIns := [opI 41 (.bin .add (.t 27) (.c (.int .i64 1))),
  mvI 27 41]
def c1b : ACode := .seq (rgI a6A) (.seq (.cond (.t 28) (.skip) (.exit 0)) (.seq (.block 1 (.seq (rgI b1Q) (.seq (rgI a9Q) (.seq (rgI a9P) (rgI a9O))))) (rgI a9N)))
def a9M : List AIns := [mvI 42 9,
  mvI 43 0,
  ⟨some 44, none, .call a7f [(.t 43)]⟩,
  mvI 4 42,
  ⟨none, none, .e (.store 2 (.t 5) (.t 44))⟩,
  opI 6 (.mv (.c (.int .i64 0)))]
def c4k : ACode := .seq (rgI a4c) (.seq (rgI a4b) (.seq (.seq (rgI a4a) (.cond (.t 18) (.seq (rgI b1U) (.ret)) (.skip))) (.seq (.seq (rgI a6B) (.cond (.t 24) (.seq (rgI b1T) (.ret)) (.skip))) (.seq (rgI b1S) (.seq (.seq (rgI b1R) (.block 0 (.loop c1b))) (.seq (rgI a9M) (.ret)))))))
theorem a6C : fchk Pr (fun _ _ => false) Try.f20 = some (c4k, [.tmp 4, .cell 5 (some 2), .tmp 6], 45) := by kernel_rfl
theorem a6D : Pr.funcs[a2F]? = some Try.f20 := Try.func20
def b9P : List AIns := [⟨some 2, none, .e (.box 2 (.t 0))⟩,
  ⟨some 3, none, .e (.box 2 (.t 1))⟩,
  opI 4 (.mv (.c (.bool false)))]
def b9O : List AIns := [opI 6 (.fldp (.t 2) 0),
  opI 7 (.load none (.t 6)),
  opI 8 (.fldp (.t 3) 0),
  opI 9 (.load none (.t 8)),
  opI 10 (.beq true (.t 7) (.t 9)),
  mvI 11 10,
  ⟨some 12, some (11, false), .p (.fldp (.t 2) 1)⟩,
  ⟨some 13, some (11, false), .p (.load none (.t 12))⟩,
  ⟨some 14, some (11, false), .p (.len (.t 13))⟩,
  ⟨some 15, some (11, false), .p (.fldp (.t 3) 1)⟩,
  ⟨some 16, some (11, false), .p (.load none (.t 15))⟩,
  ⟨some 17, some (11, false), .p (.len (.t 16))⟩,
  ⟨some 18, some (11, false), .p (.bin .neq (.t 14) (.t 17))⟩,
  opI 19 (.pick (.t 11) (.c (.bool true)) (.t 18))]
def c7L : List AIns := [opI 4 (.mv (.c (.bool false)))]
def b9N : List AIns := [opI 5 (.mv (.c (.int .i64 0)))]
def b2F : List AIns := [mvI 20 5,
  opI 21 (.fldp (.t 2) 1),
  opI 22 (.load none (.t 21)),
  opI 23 (.len (.t 22)),
  opI 24 (.bin .lss (.t 20) (.t 23))]
def b9M : List AIns := [opI 27 (.fldp (.t 2) 1),
  opI 28 (.load none (.t 27)),
  mvI 29 5,
  opI 30 (.idxp 1 (.t 28) (.t 29)),
  opI 31 (.load none (.t 30)),
  opI 32 (.fldp (.t 3) 1),
  opI 33 (.load none (.t 32)),
  mvI 34 5,
  opI 35 (.idxp 1 (.t 33) (.t 34)),
  opI 36 (.load none (.t 35)),
  opI 37 (.bin .neq (.t 31) (.t 36))]
def c7K : List AIns := [opI 4 (.mv (.c (.bool false)))]
def b9L : List AIns := [mvI 25 5,
  opI 26 (.bin .add (.t 25) (.c (.int .i64 1))),
  mvI 5 26]
def c7N : ACode := .seq (.seq (rgI b2F) (.cond (.t 24) (.skip) (.exit 0))) (.seq (.block 1 (.seq (.region b9M true) (.cond (.t 37) (.seq (rgI c7K) (.ret)) (.skip)))) (rgI b9L))
def b9K : List AIns := [opI 4 (.mv (.c (.bool true)))]
def d1p : ACode := .seq (rgI b9P) (.seq (.seq (rgI b9O) (.cond (.t 19) (.seq (rgI c7L) (.ret)) (.skip))) (.seq (.seq (rgI b9N) (.block 0 (.loop c7N))) (.seq (rgI b9K) (.ret))))
theorem c7M : fchk Pr (fun _ _ => false) Try.f23 = some (d1p, [.tmp 4], 38) := by kernel_rfl
theorem c7O : Pr.funcs[a7e]? = some Try.f23 := Try.func23
def c0p : List AIns := [⟨some 2, none, .e (.box 2 (.c (.agg [.bool false, .nil])))⟩,
  opI 3 (.mv (.c (.int .i64 0)))]
def c0o : List AIns := [mvI 7 0,
  ⟨some 8, none, .call a4P [(.t 7)]⟩,
  mvI 6 8,
  opI 9 (.ext (.t 6) 0),
  opI 10 (.ext (.t 6) 1),
  mvI 4 9,
  mvI 5 10]
def c0n : List AIns := [mvI 11 5,
  opI 12 (.bin .neq (.t 11) (.c (.int .i64 0)))]
def c8e : List AIns := [opI 13 (.bld [.bool false, .nil] []),
  mvI 14 5,
  ⟨none, none, .e (.store 2 (.t 2) (.t 13))⟩,
  mvI 3 14]
def c0m : List AIns := [mvI 15 0,
  ⟨some 16, none, .call a7f [(.t 15)]⟩,
  ⟨none, none, .e (.store 2 (.t 2) (.t 16))⟩,
  opI 3 (.mv (.c (.int .i64 0)))]
def d1x : ACode := .seq (rgI c0p) (.seq (.seq (rgI c0o) (.seq (rgI c0n) (.cond (.t 12) (.seq (rgI c8e) (.ret)) (.skip)))) (.seq (rgI c0m) (.ret)))
theorem c8f : fchk Pr (fun _ _ => false) Try.f24 = some (d1x, [.cell 2 (some 2), .tmp 3], 17) := by kernel_rfl
theorem c8g : Pr.funcs[b5K]? = some Try.f24 := Try.func24
def b0P : List AIns := [opI 0 (.mv (.c (.bool false)))]
def b0O : List AIns := [⟨some 6, none, .call b5J [(.c (.int .i64 3))]⟩,
  mvI 5 6,
  opI 7 (.ext (.t 5) 0),
  opI 8 (.ext (.t 5) 1),
  mvI 1 7,
  mvI 2 8]
def b0N : List AIns := [mvI 10 1,
  ⟨some 11, none, .call b5K [(.t 10)]⟩,
  mvI 9 11,
  opI 12 (.ext (.t 9) 0),
  opI 13 (.ext (.t 9) 1),
  ⟨some 3, none, .e (.box 2 (.c (.agg [.bool false, .nil])))⟩,
  ⟨none, none, .e (.store 2 (.t 3) (.t 12))⟩,
  mvI 4 13]
def b0M : List AIns := [mvI 14 4,
  opI 15 (.bin .eql (.t 14) (.c (.int .i64 0))),
  mvI 16 15,
  ⟨some 17, some (16, true), .p (.load (some 2) (.t 3))⟩,
  ⟨some 18, some (16, true), .call a2Q [(.c (.int .i64 1))]⟩,
  ⟨some 19, some (16, true), .call a7e [(.t 17), (.t 18)]⟩,
  opI 20 (.pick (.t 16) (.t 19) (.c (.bool false))),
  mvI 21 20,
  ⟨some 22, some (21, true), .p (.fldp (.t 3) 1)⟩,
  ⟨some 23, some (21, true), .p (.load none (.t 22))⟩,
  ⟨some 24, some (21, true), .p (.len (.t 23))⟩,
  ⟨some 25, some (21, true), .p (.bin .eql (.t 24) (.c (.int .i64 1)))⟩,
  opI 26 (.pick (.t 21) (.t 25) (.c (.bool false))),
  mvI 0 26]
def c3I : ACode := .seq (rgI b0P) (.seq (rgI b0O) (.seq (rgI b0N) (.seq (.region b0M true) (.ret))))
theorem c0S : fchk Pr (fun _ _ => false) Try.f33 = some (c3I, [.tmp 0], 27) := by kernel_rfl
theorem c0T : Pr.funcs[a8f]? = some Try.f33 := Try.func33
def b2D : List AIns := [opI 2 (.mv (.c (.nil))),
  opI 3 (.mv (.c (.int .i64 0)))]
def b2C : List AIns := [mvI 12 0,
  ⟨some 13, none, .call a3O [(.t 12)]⟩,
  mvI 11 13,
  opI 14 (.ext (.t 11) 0),
  opI 15 (.ext (.t 11) 1),
  opI 16 (.ext (.t 11) 2),
  mvI 4 14,
  mvI 5 15,
  mvI 6 16]
def b2B : List AIns := [mvI 17 6,
  opI 18 (.bin .neq (.t 17) (.c (.int .i64 0)))]
def c7z : List AIns := [mvI 19 6,
  opI 2 (.mv (.c (.nil))),
  mvI 3 19]
def b2A : List AIns := [mvI 20 4,
  mvI 21 5,
  opI 22 (.bin .mul (.t 20) (.t 21)),
  ⟨some 23, none, .e (.mksl 2 32 (.agg [.bool false, .nil]) (.c (.int .i64 0)) (.t 22))⟩,
  mvI 7 23]
def b2z : List AIns := [opI 8 (.mv (.c (.nil)))]
def b2y : List AIns := [mvI 24 5,
  opI 25 (.mv (.c (.int .i64 0)))]
def a5f : List AIns := [opI 26 (.bin .lss (.t 25) (.t 24))]
def b2x : List AIns := [mvI 27 25,
  mvI 9 27]
def b2w : List AIns := [mvI 28 4,
  opI 29 (.mv (.c (.int .i64 0)))]
def a4f : List AIns := [opI 30 (.bin .lss (.t 29) (.t 28))]
def a9g : List AIns := [mvI 31 29,
  mvI 10 31]
def a9f : List AIns := [mvI 32 7,
  mvI 33 0,
  mvI 34 10,
  opI 35 (.idxp 1 (.t 33) (.t 34)),
  opI 36 (.load none (.t 35)),
  mvI 37 9,
  opI 38 (.idxp 2 (.t 36) (.t 37)),
  opI 39 (.load (some 2) (.t 38)),
  ⟨some 40, none, .call a8b [(.t 39)]⟩,
  ⟨some 41, none, .e (.bsl 2 [(.t 40)])⟩,
  ⟨some 42, none, .e (.app 2 32 false (.t 32) (.t 41))⟩,
  mvI 7 42]
def a9e : List AIns := [opI 43 (.bin .add (.t 29) (.c (.int .i64 1))),
  mvI 29 43]
def c7A : ACode := .seq (rgI a4f) (.seq (.cond (.t 30) (.skip) (.exit 2)) (.seq (.block 3 (.seq (rgI a9g) (rgI a9f))) (rgI a9e)))
def a9d : List AIns := [mvI 44 8,
  mvI 45 7,
  mvI 46 9,
  mvI 47 4,
  opI 48 (.bin .mul (.t 46) (.t 47)),
  mvI 49 9,
  opI 50 (.bin .add (.t 49) (.c (.int .i64 1))),
  mvI 51 4,
  opI 52 (.bin .mul (.t 50) (.t 51)),
  mvI 53 9,
  opI 54 (.bin .add (.t 53) (.c (.int .i64 1))),
  mvI 55 4,
  opI 56 (.bin .mul (.t 54) (.t 55)),
  opI 57 (.slc 2 (.t 45) (some (.t 48)) (some (.t 52)) (some (.t 56))),
  ⟨some 58, none, .e (.bslm 1 [(.t 57)])⟩,
  ⟨some 59, none, .e (.app 1 24 false (.t 44) (.t 58))⟩,
  mvI 8 59]
def a9c : List AIns := [opI 60 (.bin .add (.t 25) (.c (.int .i64 1))),
  mvI 25 60]
def c7B : ACode := .seq (rgI a5f) (.seq (.cond (.t 26) (.skip) (.exit 0)) (.seq (.block 1 (.seq (rgI b2x) (.seq (.seq (rgI b2w) (.block 2 (.loop c7A))) (rgI a9d)))) (rgI a9c)))
def a9b : List AIns := [mvI 61 8,
  mvI 2 61,
  opI 3 (.mv (.c (.int .i64 0)))]
def d1l : ACode := .seq (rgI b2D) (.seq (rgI b2C) (.seq (.seq (rgI b2B) (.cond (.t 18) (.seq (rgI c7z) (.ret)) (.skip))) (.seq (rgI b2A) (.seq (rgI b2z) (.seq (.seq (rgI b2y) (.block 0 (.loop c7B))) (.seq (rgI a9b) (.ret)))))))
theorem b9A : fchk Pr (fun _ k => (k == 14)) Try.f34 = some (d1l, [.tmp 2, .tmp 3], 62) := by kernel_rfl
theorem b9B : Pr.funcs[a7d]? = some Try.f34 := Try.func34
def b7Q : List AIns := [⟨some 1, none, .e (.box 2 (.t 0))⟩,
  ⟨some 2, none, .e (.box 2 (.c (.agg [.bool false, .nil])))⟩]
def b7P : List AIns := [opI 3 (.fldp (.t 1) 0),
  opI 4 (.load none (.t 3)),
  opI 5 (.un .not (.t 4)),
  opI 6 (.fldp (.t 1) 1),
  opI 7 (.load none (.t 6)),
  ⟨some 8, none, .call a0T [(.t 5), (.t 7)]⟩,
  ⟨none, none, .e (.store 2 (.t 2) (.t 8))⟩]
def c9T : ACode := .seq (rgI b7Q) (.seq (rgI b7P) (.ret))
theorem c6F : fchk Pr (fun _ _ => false) Try.f36 = some (c9T, [.cell 2 (some 2)], 9) := by kernel_rfl
theorem c6G : Pr.funcs[a3N]? = some Try.f36 := Try.func36
def b7S : List AIns := [⟨some 2, none, .e (.box 2 (.t 0))⟩,
  ⟨some 3, none, .e (.box 2 (.t 1))⟩,
  ⟨some 4, none, .e (.box 2 (.c (.agg [.bool false, .nil])))⟩]
def b7R : List AIns := [opI 5 (.fldp (.t 2) 0),
  opI 6 (.load none (.t 5)),
  opI 7 (.fldp (.t 3) 0),
  opI 8 (.load none (.t 7)),
  opI 9 (.beq true (.t 6) (.t 8)),
  opI 10 (.fldp (.t 2) 1),
  opI 11 (.load none (.t 10)),
  opI 12 (.fldp (.t 3) 1),
  opI 13 (.load none (.t 12)),
  ⟨some 14, none, .call a7b [(.t 11), (.t 13)]⟩,
  ⟨some 15, none, .call a0T [(.t 9), (.t 14)]⟩,
  ⟨none, none, .e (.store 2 (.t 4) (.t 15))⟩]
def c9U : ACode := .seq (rgI b7S) (.seq (.region b7R true) (.ret))
theorem c6H : fchk Pr (fun _ _ => false) Try.f38 = some (c9U, [.cell 4 (some 2)], 16) := by kernel_rfl
theorem c6I : Pr.funcs[a1f]? = some Try.f38 := Try.func38
def a9L : List AIns := [opI 2 (.mv (.c (.nil))),
  opI 3 (.mv (.c (.int .i64 0)))]
def a9K : List AIns := [mvI 26 0,
  ⟨some 27, none, .call a3g [(.t 26)]⟩,
  mvI 25 27,
  opI 28 (.ext (.t 25) 0),
  opI 29 (.ext (.t 25) 1),
  opI 30 (.ext (.t 25) 2),
  mvI 4 28,
  mvI 5 29,
  mvI 6 30]
def a9J : List AIns := [mvI 31 6,
  opI 32 (.bin .neq (.t 31) (.c (.int .i64 0)))]
def b7a : List AIns := [mvI 33 6,
  opI 2 (.mv (.c (.nil))),
  mvI 3 33]
def b6Z : List AIns := [mvI 35 0,
  ⟨some 36, none, .call a7d [(.t 35)]⟩,
  mvI 34 36,
  opI 37 (.ext (.t 34) 0),
  opI 38 (.ext (.t 34) 1),
  mvI 7 37,
  mvI 8 38]
def b6Y : List AIns := [mvI 40 7,
  mvI 41 4,
  ⟨some 42, none, .call a2x [(.t 40), (.t 41)]⟩,
  mvI 39 42,
  opI 43 (.ext (.t 39) 0),
  opI 44 (.ext (.t 39) 1),
  mvI 9 43,
  mvI 10 44]
def b6X : List AIns := [opI 11 (.mv (.c (.nil)))]
def b6W : List AIns := [⟨some 45, none, .e (.mkmap)⟩,
  mvI 12 45]
def b6V : List AIns := [⟨some 46, none, .call a2Q [(.c (.int .i64 1))]⟩,
  ⟨some 13, none, .e (.box 2 (.c (.agg [.bool false, .nil])))⟩,
  ⟨none, none, .e (.store 2 (.t 13) (.t 46))⟩]
def b6U : List AIns := [mvI 47 10,
  opI 48 (.len (.t 47)),
  opI 49 (.mv (.c (.int .i64 0)))]
def a7Y : List AIns := [opI 50 (.bin .lss (.t 49) (.t 48))]
def b4q : List AIns := [mvI 51 49,
  opI 52 (.idxp 1 (.t 47) (.t 49)),
  opI 53 (.load none (.t 52)),
  mvI 14 51,
  mvI 15 53]
def b4p : List AIns := [mvI 54 12,
  mvI 55 15,
  mvI 56 14,
  ⟨none, none, .e (.mset (.t 54) (.t 55) (.t 56))⟩]
def b4o : List AIns := [opI 57 (.load (some 2) (.t 13)),
  mvI 58 9,
  mvI 59 14,
  opI 60 (.idxp 1 (.t 58) (.t 59)),
  opI 61 (.load none (.t 60)),
  mvI 62 15,
  opI 63 (.idxp 2 (.t 61) (.t 62)),
  opI 64 (.load (some 2) (.t 63)),
  ⟨some 65, none, .call a1f [(.t 57), (.t 64)]⟩,
  ⟨none, none, .e (.store 2 (.t 13) (.t 65))⟩]
def b4n : List AIns := [opI 66 (.bin .add (.t 49) (.c (.int .i64 1))),
  mvI 49 66]
def c6d : ACode := .seq (rgI a7Y) (.seq (.cond (.t 50) (.skip) (.exit 0)) (.seq (.block 1 (.seq (rgI b4q) (.seq (rgI b4p) (.region b4o true)))) (rgI b4n)))
def b4m : List AIns := [mvI 67 4,
  opI 68 (.mv (.c (.int .i64 0)))]
def a7X : List AIns := [opI 69 (.bin .lss (.t 68) (.t 67))]
def b4l : List AIns := [mvI 70 68,
  mvI 16 70]
def b4k : List AIns := [mvI 72 12,
  mvI 73 16,
  opI 74 (.mlook (.t 72) (.t 73)),
  mvI 71 74,
  opI 75 (.ext (.t 71) 0),
  opI 76 (.ext (.t 71) 1),
  mvI 17 75,
  mvI 18 76]
def b4j : List AIns := [mvI 77 18]
def b4i : List AIns := [mvI 78 4,
  ⟨some 79, none, .e (.mksl 2 32 (.agg [.bool false, .nil]) (.t 78) (.t 78))⟩,
  mvI 19 79]
def b4h : List AIns := [mvI 80 19,
  mvI 81 16,
  opI 82 (.load (some 2) (.t 13)),
  opI 83 (.idxp 2 (.t 80) (.t 81)),
  ⟨none, none, .e (.store 2 (.t 83) (.t 82))⟩]
def b4g : List AIns := [mvI 84 12,
  ⟨some 85, none, .e (.mrng (.t 84))⟩]
def b4f : List AIns := [⟨some 86, none, .nxt (.t 85)⟩,
  opI 87 (.ext (.t 86) 0)]
def b4e : List AIns := [opI 88 (.ment (.t 85)),
  opI 89 (.ext (.t 88) 0),
  opI 90 (.ext (.t 88) 1),
  mvI 20 89,
  mvI 21 90]
def b4d : List AIns := [opI 92 (.load (some 2) (.t 13)),
  mvI 93 9,
  mvI 94 21,
  opI 95 (.idxp 1 (.t 93) (.t 94)),
  opI 96 (.load none (.t 95)),
  mvI 97 16,
  opI 98 (.idxp 2 (.t 96) (.t 97)),
  opI 99 (.load (some 2) (.t 98)),
  ⟨some 100, none, .call a1f [(.t 92), (.t 99)]⟩,
  mvI 101 9,
  mvI 102 21,
  opI 103 (.idxp 1 (.t 101) (.t 102)),
  opI 104 (.load none (.t 103)),
  mvI 105 20,
  opI 106 (.idxp 2 (.t 104) (.t 105)),
  opI 107 (.load (some 2) (.t 106)),
  ⟨some 108, none, .call a1S [(.t 100), (.t 107)]⟩,
  mvI 91 108,
  opI 109 (.ext (.t 91) 0),
  opI 110 (.ext (.t 91) 1),
  opI 111 (.ext (.t 91) 2)]
def b1P : List AIns := [⟨some 22, none, .e (.box 2 (.c (.agg [.bool false, .nil])))⟩,
  ⟨some 23, none, .e (.box 2 (.c (.agg [.bool false, .nil])))⟩,
  ⟨none, none, .e (.store 2 (.t 22) (.t 109))⟩,
  ⟨none, none, .e (.store 2 (.t 23) (.t 110))⟩,
  mvI 24 111]
def b1O : List AIns := [⟨some 23, none, .e (.box 2 (.c (.agg [.bool false, .nil])))⟩,
  ⟨some 22, none, .e (.box 2 (.c (.agg [.bool false, .nil])))⟩,
  ⟨none, none, .e (.store 2 (.t 22) (.t 109))⟩,
  ⟨none, none, .e (.store 2 (.t 23) (.t 110))⟩,
  mvI 24 111]
def b4c : List AIns := [mvI 112 19,
  mvI 113 20,
  opI 114 (.load (some 2) (.t 22)),
  ⟨some 115, none, .call a3N [(.t 114)]⟩,
  opI 116 (.idxp 2 (.t 112) (.t 113)),
  ⟨none, none, .e (.store 2 (.t 116) (.t 115))⟩]
def c6b : ACode := .seq (rgI b4f) (.seq (.cond (.t 87) (.skip) (.exit 4)) (.block 5 (.seq (rgI b4e) (.seq (.regionX b4d b1P b1O []) (rgI b4c)))))
def b4b : List AIns := [mvI 117 11,
  mvI 118 19,
  ⟨some 119, none, .e (.bsl 1 [(.t 118)])⟩,
  ⟨some 120, none, .e (.app 1 24 false (.t 117) (.t 119))⟩,
  mvI 11 120]
def a7W : List AIns := [opI 121 (.bin .add (.t 68) (.c (.int .i64 1))),
  mvI 68 121]
def c6c : ACode := .seq (rgI a7X) (.seq (.cond (.t 69) (.skip) (.exit 2)) (.seq (.block 3 (.seq (rgI b4l) (.seq (.seq (rgI b4k) (.seq (rgI b4j) (.cond (.t 77) (.exit 3) (.skip)))) (.seq (rgI b4i) (.seq (rgI b4h) (.seq (.seq (rgI b4g) (.block 4 (.loop c6b))) (rgI b4b))))))) (rgI a7W)))
def b4a : List AIns := [mvI 123 11,
  mvI 124 4,
  ⟨some 125, none, .call a2x [(.t 123), (.t 124)]⟩,
  mvI 122 125,
  opI 126 (.ext (.t 122) 0),
  opI 127 (.ext (.t 122) 1),
  mvI 11 126]
def b3Z : List AIns := [mvI 128 11,
  mvI 2 128,
  opI 3 (.mv (.c (.int .i64 0)))]
def c8d : ACode := .seq (rgI a9L) (.seq (rgI a9K) (.seq (.seq (rgI a9J) (.cond (.t 32) (.seq (rgI b7a) (.ret)) (.skip))) (.seq (rgI b6Z) (.seq (rgI b6Y) (.seq (rgI b6X) (.seq (rgI b6W) (.seq (rgI b6V) (.seq (.seq (rgI b6U) (.block 0 (.loop c6d))) (.seq (.seq (rgI b4m) (.block 2 (.loop c6c))) (.seq (rgI b4a) (.seq (rgI b3Z) (.ret))))))))))))
theorem b7b : fchk Pr (fun _ _ => false) Try.f39 = some (c8d, [.tmp 2, .tmp 3], 129) := by kernel_rfl
theorem b7c : Pr.funcs[a8h]? = some Try.f39 := Try.func39
end Go.Abs
set_option maxRecDepth 100000
noncomputable section
namespace Go.Abs
open Go.Proofs
def a1F : List AIns := [opI 4 (.mv (.c (.nil))),
  ⟨some 5, none, .e (.box 2 (.c (.agg [.bool false, .nil])))⟩,
  opI 6 (.mv (.c (.int .i64 0)))]
def a1l : List AIns := [mvI 21 0,
  ⟨some 22, none, .call a3g [(.t 21)]⟩,
  mvI 20 22,
  opI 23 (.ext (.t 20) 0),
  opI 24 (.ext (.t 20) 1),
  opI 25 (.ext (.t 20) 2),
  mvI 7 23,
  mvI 8 24,
  mvI 6 25]
def a1k : List AIns := [mvI 26 6,
  opI 27 (.bin .neq (.t 26) (.c (.int .i64 0)))]
def a7S : List AIns := [opI 28 (.bld [.bool false, .nil] []),
  mvI 29 6,
  opI 4 (.mv (.c (.nil))),
  ⟨none, none, .e (.store 2 (.t 5) (.t 28))⟩,
  mvI 6 29]
def a1E : List AIns := [opI 9 (.mv (.c (.nil))),
  opI 10 (.mv (.c (.nil)))]
def a1D : List AIns := [opI 11 (.mv (.c (.nil)))]
def a1C : List AIns := [mvI 30 7,
  opI 31 (.bin .eql (.t 30) (.c (.int .i64 0)))]
def a4L : List AIns := [mvI 32 1,
  ⟨some 33, none, .call a4U [(.t 32)]⟩,
  opI 34 (.bin .geq (.t 33) (.c (.int .i64 0)))]
def a7R : List AIns := [⟨some 35, none, .call a2Q [(.c (.int .i64 1))]⟩,
  opI 4 (.mv (.c (.nil))),
  ⟨none, none, .e (.store 2 (.t 5) (.t 35))⟩,
  opI 6 (.mv (.c (.int .i64 0)))]
def a2D : List AIns := [mvI 36 1,
  opI 37 (.len (.t 36)),
  mvI 38 8,
  opI 39 (.bin .neq (.t 37) (.t 38))]
def a6z : List AIns := [opI 40 (.bld [.bool false, .nil] []),
  opI 4 (.mv (.c (.nil))),
  ⟨none, none, .e (.store 2 (.t 5) (.t 40))⟩,
  opI 6 (.mv (.c (.int .i64 8)))]
def a2P : List AIns := [mvI 42 0,
  ⟨some 43, none, .call a5z [(.t 42)]⟩,
  mvI 41 43,
  opI 44 (.ext (.t 41) 0),
  opI 45 (.ext (.t 41) 1),
  mvI 12 44,
  mvI 13 45]
def a2O : List AIns := [mvI 46 12,
  mvI 47 7,
  opI 48 (.bin .lss (.t 46) (.t 47))]
def a6y : List AIns := [opI 49 (.bld [.bool false, .nil] []),
  opI 4 (.mv (.c (.nil))),
  ⟨none, none, .e (.store 2 (.t 5) (.t 49))⟩,
  opI 6 (.mv (.c (.int .i64 50)))]
def a3Z : List AIns := [mvI 51 0,
  ⟨some 52, none, .call a7d [(.t 51)]⟩,
  mvI 50 52,
  opI 53 (.ext (.t 50) 0),
  opI 54 (.ext (.t 50) 1),
  mvI 9 53]
def a3Y : List AIns := [mvI 55 9,
  opI 56 (.len (.t 55)),
  opI 57 (.mv (.c (.int .i64 0)))]
def a6x : List AIns := [opI 58 (.bin .lss (.t 57) (.t 56))]
def b1N : List AIns := [mvI 59 57,
  mvI 14 59]
def b1M : List AIns := [mvI 60 9,
  mvI 61 14,
  mvI 62 9,
  mvI 63 14,
  opI 64 (.idxp 1 (.t 62) (.t 63)),
  opI 65 (.load none (.t 64)),
  mvI 66 1,
  mvI 67 14,
  opI 68 (.idxp 2 (.t 66) (.t 67)),
  opI 69 (.load (some 2) (.t 68)),
  ⟨some 70, none, .e (.bsl 2 [(.t 69)])⟩,
  ⟨some 71, none, .e (.app 2 32 false (.t 65) (.t 70))⟩,
  opI 72 (.idxp 1 (.t 60) (.t 61)),
  ⟨none, none, .e (.store 1 (.t 72) (.t 71))⟩]
def b1L : List AIns := [opI 73 (.bin .add (.t 57) (.c (.int .i64 1))),
  mvI 57 73]
def a7V : ACode := .seq (rgI a6x) (.seq (.cond (.t 58) (.skip) (.exit 0)) (.seq (.block 1 (.seq (rgI b1N) (.region b1M true))) (rgI b1L)))
def a2N : List AIns := [mvI 75 9,
  mvI 76 7,
  opI 77 (.bin .add (.t 76) (.c (.int .i64 1))),
  ⟨some 78, none, .call a2x [(.t 75), (.t 77)]⟩,
  mvI 74 78,
  opI 79 (.ext (.t 74) 0),
  opI 80 (.ext (.t 74) 1),
  mvI 10 79,
  mvI 11 80]
def a2M : List AIns := [mvI 81 11,
  mvI 82 11,
  opI 83 (.len (.t 82)),
  opI 84 (.bin .sub (.t 83) (.c (.int .i64 1))),
  opI 85 (.idxp 1 (.t 81) (.t 84)),
  opI 86 (.load none (.t 85)),
  mvI 87 7,
  opI 88 (.bin .eql (.t 86) (.t 87))]
def a3X : List AIns := [⟨some 89, none, .call a2Q [(.c (.int .i64 1))]⟩,
  ⟨none, none, .e (.store 2 (.t 5) (.t 89))⟩]
def a3W : List AIns := [mvI 90 10,
  opI 91 (.len (.t 90)),
  opI 92 (.mv (.c (.int .i64 0)))]
def a6w : List AIns := [opI 93 (.bin .lss (.t 92) (.t 91))]
def b1K : List AIns := [mvI 94 92,
  mvI 15 94]
def b1J : List AIns := [opI 95 (.load (some 2) (.t 5)),
  mvI 96 10,
  mvI 97 15,
  opI 98 (.idxp 1 (.t 96) (.t 97)),
  opI 99 (.load none (.t 98)),
  mvI 100 15,
  opI 101 (.idxp 2 (.t 99) (.t 100)),
  opI 102 (.load (some 2) (.t 101)),
  ⟨some 103, none, .call a1f [(.t 95), (.t 102)]⟩,
  ⟨none, none, .e (.store 2 (.t 5) (.t 103))⟩]
def b1I : List AIns := [opI 104 (.bin .add (.t 92) (.c (.int .i64 1))),
  mvI 92 104]
def a7U : ACode := .seq (rgI a6w) (.seq (.cond (.t 93) (.skip) (.exit 2)) (.seq (.block 3 (.seq (rgI b1K) (.region b1J true))) (rgI b1I)))
def a3V : List AIns := [mvI 105 10,
  opI 106 (.len (.t 105)),
  opI 107 (.mv (.c (.int .i64 0)))]
def a6v : List AIns := [opI 108 (.bin .lss (.t 107) (.t 106))]
def b1H : List AIns := [mvI 109 107,
  mvI 16 109]
def b1G : List AIns := [opI 111 (.load (some 2) (.t 5)),
  mvI 112 10,
  mvI 113 16,
  opI 114 (.idxp 1 (.t 112) (.t 113)),
  opI 115 (.load none (.t 114)),
  mvI 116 7,
  opI 117 (.idxp 2 (.t 115) (.t 116)),
  opI 118 (.load (some 2) (.t 117)),
  ⟨some 119, none, .call a1f [(.t 111), (.t 118)]⟩,
  mvI 120 10,
  mvI 121 16,
  opI 122 (.idxp 1 (.t 120) (.t 121)),
  opI 123 (.load none (.t 122)),
  mvI 124 16,
  opI 125 (.idxp 2 (.t 123) (.t 124)),
  opI 126 (.load (some 2) (.t 125)),
  ⟨some 127, none, .call a1S [(.t 119), (.t 126)]⟩,
  mvI 110 127,
  opI 128 (.ext (.t 110) 0),
  opI 129 (.ext (.t 110) 1),
  opI 130 (.ext (.t 110) 2)]
def a9F : List AIns := [⟨some 17, none, .e (.box 2 (.c (.agg [.bool false, .nil])))⟩,
  ⟨some 18, none, .e (.box 2 (.c (.agg [.bool false, .nil])))⟩,
  ⟨none, none, .e (.store 2 (.t 17) (.t 128))⟩,
  ⟨none, none, .e (.store 2 (.t 18) (.t 129))⟩,
  mvI 19 130]
def a9E : List AIns := [⟨some 18, none, .e (.box 2 (.c (.agg [.bool false, .nil])))⟩,
  ⟨some 17, none, .e (.box 2 (.c (.agg [.bool false, .nil])))⟩,
  ⟨none, none, .e (.store 2 (.t 17) (.t 128))⟩,
  ⟨none, none, .e (.store 2 (.t 18) (.t 129))⟩,
  mvI 19 130]
def b1F : List AIns := [mvI 131 4,
  opI 132 (.load (some 2) (.t 17)),
  ⟨some 133, none, .e (.bsl 2 [(.t 132)])⟩,
  ⟨some 134, none, .e (.app 2 32 false (.t 131) (.t 133))⟩,
  mvI 4 134]
def b1E : List AIns := [opI 135 (.bin .add (.t 107) (.c (.int .i64 1))),
  mvI 107 135]
def a7T : ACode := .seq (rgI a6v) (.seq (.cond (.t 108) (.skip) (.exit 4)) (.seq (.block 5 (.seq (rgI b1H) (.seq (.regionX b1G a9F a9E []) (rgI b1F)))) (rgI b1E)))
def a3U : List AIns := [mvI 137 4,
  opI 138 (.load (some 2) (.t 5)),
  ⟨some 139, none, .call a6e [(.t 137), (.t 138)]⟩,
  mvI 136 139,
  opI 140 (.ext (.t 136) 0),
  opI 141 (.ext (.t 136) 1),
  mvI 4 140,
  ⟨none, none, .e (.store 2 (.t 5) (.t 141))⟩]
def a3T : List AIns := [mvI 142 4,
  opI 143 (.load (some 2) (.t 5)),
  mvI 4 142,
  ⟨none, none, .e (.store 2 (.t 5) (.t 143))⟩,
  opI 6 (.mv (.c (.int .i64 0)))]
def a2L : List AIns := [opI 144 (.bld [.bool false, .nil] []),
  opI 4 (.mv (.c (.nil))),
  ⟨none, none, .e (.store 2 (.t 5) (.t 144))⟩,
  opI 6 (.mv (.c (.int .i64 6)))]
def c6a : ACode := .seq (rgI a1F) (.scope (.seq (rgI a1l) (.seq (.seq (rgI a1k) (.cond (.t 27) (.seq (rgI a7S) (.ret)) (.skip))) (.seq (rgI a1E) (.seq (rgI a1D) (.seq (.seq (rgI a1C) (.cond (.t 31) (.seq (.seq (rgI a4L) (.cond (.t 34) (.goto 0) (.skip))) (.seq (rgI a7R) (.ret))) (.skip))) (.seq (.seq (rgI a2D) (.cond (.t 39) (.seq (rgI a6z) (.ret)) (.skip))) (.seq (.seq (rgI a2P) (.seq (rgI a2O) (.cond (.t 48) (.seq (rgI a6y) (.ret)) (.skip)))) (.seq (rgI a3Z) (.seq (.seq (rgI a3Y) (.block 0 (.loop a7V))) (.seq (rgI a2N) (.seq (.seq (rgI a2M) (.cond (.t 88) (.goto 0) (.skip))) (.seq (rgI a3X) (.seq (.seq (rgI a3W) (.block 2 (.loop a7U))) (.seq (.seq (rgI a3V) (.block 4 (.loop a7T))) (.seq (rgI a3U) (.seq (.seq (.region a3T true) (.ret)) (.seq (.label 0) (.seq (rgI a2L) (.ret))))))))))))))))))))
theorem a1X : fchk Pr (fun _ _ => false) Try.f41 = some (c6a, [.tmp 4, .cell 5 (some 2), .tmp 6], 145) := by kernel_rfl
theorem a1Y : Pr.funcs[a0H]? = some Try.f41 := Try.func41
def b9z : List AIns := [opI 2 (.mv (.c (.nil))),
  opI 3 (.mv (.c (.int .i64 0)))]
def b9y : List AIns := [mvI 8 0,
  opI 9 (.bin .lss (.t 8) (.c (.int .i64 0))),
  mvI 7 9]
def c7v : List AIns := [opI 2 (.mv (.c (.nil))),
  opI 3 (.mv (.c (.int .i64 1)))]
def b9x : List AIns := [mvI 11 0,
  opI 12 (.bin .gtr (.t 11) (.c (.int .i64 64))),
  mvI 10 12]
def c7u : List AIns := [opI 2 (.mv (.c (.nil))),
  opI 3 (.mv (.c (.int .i64 2)))]
def b9w : List AIns := [opI 4 (.mv (.c (.nil)))]
def b9v : List AIns := [mvI 13 0,
  opI 14 (.mv (.c (.int .i64 0)))]
def b2v : List AIns := [opI 15 (.bin .lss (.t 14) (.t 13))]
def b9u : List AIns := [mvI 16 14,
  mvI 5 16]
def b9t : List AIns := [mvI 17 0,
  ⟨some 18, none, .e (.mksl 2 32 (.agg [.bool false, .nil]) (.t 17) (.t 17))⟩,
  mvI 6 18]
def b6x : List AIns := [mvI 19 6,
  mvI 20 5,
  ⟨some 21, none, .call a2Q [(.c (.int .i64 1))]⟩,
  opI 22 (.idxp 2 (.t 19) (.t 20)),
  ⟨none, none, .e (.store 2 (.t 22) (.t 21))⟩]
def b6w : List AIns := [mvI 23 4,
  mvI 24 6,
  ⟨some 25, none, .e (.bsl 1 [(.t 24)])⟩,
  ⟨some 26, none, .e (.app 1 24 false (.t 23) (.t 25))⟩,
  mvI 4 26]
def b6v : List AIns := [opI 27 (.bin .add (.t 14) (.c (.int .i64 1))),
  mvI 14 27]
def c7x : ACode := .seq (rgI b2v) (.seq (.cond (.t 15) (.skip) (.exit 1)) (.seq (.block 2 (.seq (rgI b9u) (.seq (rgI b9t) (.seq (rgI b6x) (rgI b6w))))) (rgI b6v)))
def b6u : List AIns := [mvI 28 4,
  mvI 2 28,
  opI 3 (.mv (.c (.int .i64 0)))]
def d1k : ACode := .seq (rgI b9z) (.seq (.block 0 (.seq (rgI b9y) (.cond (.t 7) (.seq (rgI c7v) (.ret)) (.seq (rgI b9x) (.cond (.t 10) (.seq (rgI c7u) (.ret)) (.skip)))))) (.seq (rgI b9w) (.seq (.seq (rgI b9v) (.block 1 (.loop c7x))) (.seq (rgI b6u) (.ret)))))
theorem c7w : fchk Pr (fun _ _ => false) Try.f43 = some (d1k, [.tmp 2, .tmp 3], 29) := by kernel_rfl
theorem c7y : Pr.funcs[b5J]? = some Try.f43 := Try.func43
def b5V : List AIns := [⟨some 1, none, .e (.box 2 (.t 0))⟩,
  opI 2 (.mv (.c (.int .i64 0)))]
def b5U : List AIns := [opI 4 (.fldp (.t 1) 1),
  opI 5 (.load none (.t 4)),
  ⟨some 6, none, .call b5I [(.t 5)]⟩,
  opI 7 (.bin .eql (.t 6) (.c (.int .i64 0))),
  mvI 3 7]
def b5T : List AIns := [opI 2 (.mv (.c (.int .i64 0)))]
def b5S : List AIns := [opI 9 (.fldp (.t 1) 0),
  opI 10 (.load none (.t 9)),
  mvI 8 10]
def b5R : List AIns := [opI 2 (.mv (.c (.int .i64 (-1))))]
def b5Q : List AIns := [opI 2 (.mv (.c (.int .i64 1)))]
def c6E : ACode := .seq (rgI b5V) (.seq (.block 0 (.seq (rgI b5U) (.cond (.t 3) (.seq (rgI b5T) (.ret)) (.seq (rgI b5S) (.cond (.t 8) (.seq (rgI b5R) (.ret)) (.skip)))))) (.seq (rgI b5Q) (.ret)))
theorem c4A : fchk Pr (fun _ _ => false) Try.f44 = some (c6E, [.tmp 2], 11) := by kernel_rfl
theorem c4B : Pr.funcs[a0U]? = some Try.f44 := Try.func44
def b6L : List AIns := [opI 4 (.mv (.c (.int .i64 0)))]
def b6K : List AIns := [mvI 7 0,
  opI 8 (.len (.t 7)),
  mvI 9 1,
  opI 10 (.len (.t 9)),
  opI 11 (.mnx false (.t 8) (.t 10)),
  opI 12 (.mv (.c (.int .i64 0)))]
def a9n : List AIns := [opI 13 (.bin .lss (.t 12) (.t 11))]
def b6J : List AIns := [mvI 14 12,
  mvI 5 14]
def b6I : List AIns := [mvI 15 0,
  mvI 16 5,
  opI 17 (.idxp 2 (.t 15) (.t 16)),
  opI 18 (.load (some 2) (.t 17)),
  mvI 19 1,
  mvI 20 5,
  opI 21 (.idxp 2 (.t 19) (.t 20)),
  opI 22 (.load (some 2) (.t 21)),
  ⟨some 23, none, .call a6G [(.t 18), (.t 22)]⟩,
  mvI 6 23]
def b6H : List AIns := [mvI 24 6,
  opI 25 (.bin .neq (.t 24) (.c (.int .i64 0)))]
def b6G : List AIns := [mvI 26 6,
  mvI 4 26]
def b6F : List AIns := [opI 27 (.bin .add (.t 12) (.c (.int .i64 1))),
  mvI 12 27]
def b6M : ACode := .seq (rgI a9n) (.seq (.cond (.t 13) (.skip) (.exit 0)) (.seq (.block 1 (.seq (rgI b6J) (.seq (.region b6I true) (.seq (rgI b6H) (.cond (.t 25) (.seq (rgI b6G) (.ret)) (.skip)))))) (rgI b6F)))
def a9m : List AIns := [mvI 29 0,
  opI 30 (.len (.t 29)),
  mvI 31 1,
  opI 32 (.len (.t 31)),
  opI 33 (.bin .lss (.t 30) (.t 32)),
  mvI 28 33]
def a9l : List AIns := [opI 4 (.mv (.c (.int .i64 (-1))))]
def a7B : List AIns := [mvI 35 0,
  opI 36 (.len (.t 35)),
  mvI 37 1,
  opI 38 (.len (.t 37)),
  opI 39 (.bin .gtr (.t 36) (.t 38)),
  mvI 34 39]
def a7A : List AIns := [opI 4 (.mv (.c (.int .i64 1)))]
def a7z : List AIns := [opI 4 (.mv (.c (.int .i64 0)))]
def c7E : ACode := .seq (rgI b6L) (.seq (.seq (rgI b6K) (.block 0 (.loop b6M))) (.seq (.block 2 (.seq (rgI a9m) (.cond (.t 28) (.seq (rgI a9l) (.ret)) (.seq (rgI a7B) (.cond (.t 34) (.seq (rgI a7A) (.ret)) (.skip)))))) (.seq (rgI a7z) (.ret))))
theorem c5B : fchk Pr (fun _ _ => false) Try.f45 = some (c7E, [.tmp 4], 40) := by kernel_rfl
theorem c5C : Pr.funcs[a8e]? = some Try.f45 := Try.func45
def b6z : List AIns := [⟨some 2, none, .e (.box 2 (.t 0))⟩,
  opI 4 (.mv (.c (.nil)))]
def b6y : List AIns := [mvI 5 1,
  opI 6 (.mkfn a4N [(.t 2)]),
  ⟨some 7, none, .call a6H [(.t 5), (.t 6)]⟩,
  mvI 4 7]
def c7C : ACode := .seq (rgI b6z) (.seq (rgI b6y) (.ret))
theorem c5y : fchk Pr (fun _ _ => false) Try.f46 = some (c7C, [.tmp 4], 8) := by kernel_rfl
theorem c5z : Pr.funcs[b2M]? = some Try.f46 := Try.func46
def b0L : List AIns := [opI 4 (.mv (.c (.nil))),
  opI 5 (.mv (.c (.int .i64 0)))]
def b0K : List AIns := [mvI 10 1,
  ⟨some 11, none, .call a3O [(.t 10)]⟩,
  mvI 9 11,
  opI 12 (.ext (.t 9) 0),
  opI 13 (.ext (.t 9) 1),
  opI 14 (.ext (.t 9) 2),
  mvI 6 12,
  mvI 7 13,
  mvI 8 14]
def b0J : List AIns := [mvI 15 8,
  opI 16 (.bin .neq (.t 15) (.c (.int .i64 0))),
  mvI 17 16,
  ⟨some 18, some (17, false), .p (.mv (.t 0))⟩,
  ⟨some 19, some (17, false), .p (.len (.t 18))⟩,
  ⟨some 20, some (17, false), .p (.mv (.t 6))⟩,
  ⟨some 21, some (17, false), .p (.bin .neq (.t 19) (.t 20))⟩,
  opI 22 (.pick (.t 17) (.c (.bool true)) (.t 21))]
def c0O : List AIns := [opI 4 (.mv (.c (.nil))),
  opI 5 (.mv (.c (.int .i64 8)))]
def b0I : List AIns := [mvI 23 0,
  mvI 24 1,
  ⟨some 25, none, .call a8d [(.t 23), (.t 24)]⟩,
  mvI 4 25,
  opI 5 (.mv (.c (.int .i64 0)))]
def c3D : ACode := .seq (rgI b0L) (.seq (rgI b0K) (.seq (.seq (rgI b0J) (.cond (.t 22) (.seq (rgI c0O) (.ret)) (.skip))) (.seq (rgI b0I) (.ret))))
theorem c0P : fchk Pr (fun _ _ => false) Try.f47 = some (c3D, [.tmp 4, .tmp 5], 26) := by kernel_rfl
theorem c0Q : Pr.funcs[a4O]? = some Try.f47 := Try.func47
def b9F : List AIns := [opI 2 (.mv (.c (.int .i64 0)))]
def b9E : List AIns := [mvI 5 0,
  opI 6 (.len (.t 5)),
  opI 7 (.mv (.c (.int .i64 0)))]
def a5g : List AIns := [opI 8 (.bin .lss (.t 7) (.t 6))]
def a7D : List AIns := [mvI 9 7,
  opI 10 (.idxp 2 (.t 5) (.t 7)),
  opI 11 (.load (some 2) (.t 10)),
  ⟨some 4, none, .e (.box 2 (.c (.agg [.bool false, .nil])))⟩,
  mvI 3 9,
  ⟨none, none, .e (.store 2 (.t 4) (.t 11))⟩]
def a7C : List AIns := [opI 12 (.load (some 2) (.t 4)),
  ⟨some 13, none, .call a0U [(.t 12)]⟩,
  opI 14 (.bin .neq (.t 13) (.c (.int .i64 0)))]
def b9D : List AIns := [mvI 15 3,
  mvI 2 15]
def b2E : List AIns := [opI 16 (.bin .add (.t 7) (.c (.int .i64 1))),
  mvI 7 16]
def c7G : ACode := .seq (rgI a5g) (.seq (.cond (.t 8) (.skip) (.exit 0)) (.seq (.block 1 (.seq (rgI a7D) (.seq (rgI a7C) (.cond (.t 14) (.seq (rgI b9D) (.ret)) (.skip))))) (rgI b2E)))
def b9C : List AIns := [opI 2 (.mv (.c (.int .i64 (-1))))]
def d1m : ACode := .seq (rgI b9F) (.seq (.seq (rgI b9E) (.block 0 (.loop c7G))) (.seq (rgI b9C) (.ret)))
theorem c7F : fchk Pr (fun _ _ => false) Try.f48 = some (d1m, [.tmp 2], 17) := by kernel_rfl
theorem c7H : Pr.funcs[a4U]? = some Try.f48 := Try.func48
def a4K : List AIns := [opI 2 (.mv (.c (.int .i64 0))),
  opI 3 (.mv (.c (.int .i64 0))),
  opI 4 (.mv (.c (.int .i64 0)))]
def a4J : List AIns := [mvI 9 0,
  ⟨some 10, none, .call a3O [(.t 9)]⟩,
  mvI 8 10,
  opI 11 (.ext (.t 8) 0),
  opI 12 (.ext (.t 8) 1),
  opI 13 (.ext (.t 8) 2),
  mvI 5 11,
  mvI 6 12,
  mvI 7 13]
def a4I : List AIns := [mvI 14 7,
  opI 15 (.bin .neq (.t 14) (.c (.int .i64 0)))]
def b3Y : List AIns := [mvI 16 7,
  opI 2 (.mv (.c (.int .i64 0))),
  opI 3 (.mv (.c (.int .i64 0))),
  mvI 4 16]
def a4H : List AIns := [mvI 17 5,
  opI 18 (.bin .gtr (.t 17) (.c (.int .i64 64))),
  mvI 19 18,
  ⟨some 20, some (19, false), .p (.mv (.t 6))⟩,
  ⟨some 21, some (19, false), .p (.bin .gtr (.t 20) (.c (.int .i64 64)))⟩,
  opI 22 (.pick (.t 19) (.c (.bool true)) (.t 21))]
def a7O : List AIns := [opI 2 (.mv (.c (.int .i64 0))),
  opI 3 (.mv (.c (.int .i64 0))),
  opI 4 (.mv (.c (.int .i64 60)))]
def b3X : List AIns := [mvI 23 5,
  mvI 24 6,
  mvI 2 23,
  mvI 3 24,
  opI 4 (.mv (.c (.int .i64 0)))]
def c5Z : ACode := .seq (rgI a4K) (.seq (rgI a4J) (.seq (.seq (rgI a4I) (.cond (.t 15) (.seq (rgI b3Y) (.ret)) (.skip))) (.seq (.seq (rgI a4H) (.cond (.t 22) (.seq (rgI a7O) (.ret)) (.skip))) (.seq (rgI b3X) (.ret)))))
theorem a7P : fchk Pr (fun _ _ => false) Try.f49 = some (c5Z, [.tmp 2, .tmp 3, .tmp 4], 25) := by kernel_rfl
theorem a7Q : Pr.funcs[a3g]? = some Try.f49 := Try.func49
def a9C : List AIns := [opI 4 (.mv (.c (.nil))),
  opI 5 (.mv (.c (.nil))),
  ⟨some 6, none, .e (.box 2 (.c (.agg [.bool false, .nil])))⟩,
  opI 7 (.mv (.c (.bool false)))]
def a5t : List AIns := [mvI 18 0,
  ⟨some 19, none, .call a8g [(.t 18)]⟩,
  mvI 8 19]
def a5s : List AIns := [opI 9 (.mv (.c (.nil)))]
def a5r : List AIns := [⟨some 20, none, .call a2Q [(.c (.int .i64 1))]⟩,
  ⟨some 10, none, .e (.box 2 (.c (.agg [.bool false, .nil])))⟩,
  ⟨none, none, .e (.store 2 (.t 10) (.t 20))⟩,
  opI 11 (.mv (.c (.bool false)))]
def a5q : List AIns := [mvI 21 1,
  opI 22 (.mv (.c (.int .i64 0)))]
def a5p : List AIns := [opI 23 (.bin .lss (.t 22) (.t 21))]
def a9B : List AIns := [mvI 24 22,
  mvI 12 24]
def a9A : List AIns := [mvI 25 9,
  opI 26 (.len (.t 25)),
  mvI 13 26]
def a9z : List AIns := [mvI 27 13,
  mvI 14 27]
def a2u : List AIns := [mvI 28 14,
  mvI 29 8,
  opI 30 (.len (.t 29)),
  opI 31 (.bin .lss (.t 28) (.t 30)),
  mvI 32 31,
  ⟨some 33, some (32, true), .p (.mv (.t 8))⟩,
  ⟨some 34, some (32, true), .p (.mv (.t 14))⟩,
  ⟨some 35, some (32, true), .p (.idxp 1 (.t 33) (.t 34))⟩,
  ⟨some 36, some (32, true), .p (.load none (.t 35))⟩,
  ⟨some 37, some (32, true), .p (.mv (.t 12))⟩,
  ⟨some 38, some (32, true), .p (.idxp 2 (.t 36) (.t 37))⟩,
  ⟨some 39, some (32, true), .p (.load (some 2) (.t 38))⟩,
  ⟨some 40, some (32, true), .call a0U [(.t 39)]⟩,
  ⟨some 41, some (32, true), .p (.bin .eql (.t 40) (.c (.int .i64 0)))⟩,
  opI 42 (.pick (.t 32) (.t 41) (.c (.bool false)))]
def a4t : List AIns := [mvI 43 14,
  opI 44 (.bin .add (.t 43) (.c (.int .i64 1))),
  mvI 14 44]
def c0k : ACode := .seq (.seq (rgI a2u) (.cond (.t 42) (.skip) (.exit 2))) (.block 3 (rgI a4t))
def a4s : List AIns := [mvI 45 14,
  mvI 46 8,
  opI 47 (.len (.t 46)),
  opI 48 (.bin .eql (.t 45) (.t 47))]
def a4r : List AIns := [mvI 49 14,
  mvI 50 13,
  opI 51 (.bin .neq (.t 49) (.t 50))]
def a8p : List AIns := [mvI 52 8,
  mvI 53 14,
  mvI 54 8,
  mvI 55 13,
  mvI 56 8,
  mvI 57 13,
  opI 58 (.idxp 1 (.t 56) (.t 57)),
  opI 59 (.load none (.t 58)),
  mvI 60 8,
  mvI 61 14,
  opI 62 (.idxp 1 (.t 60) (.t 61)),
  opI 63 (.load none (.t 62)),
  opI 64 (.idxp 1 (.t 52) (.t 53)),
  ⟨none, none, .e (.store 1 (.t 64) (.t 59))⟩,
  opI 65 (.idxp 1 (.t 54) (.t 55)),
  ⟨none, none, .e (.store 1 (.t 65) (.t 63))⟩]
def a8o : List AIns := [mvI 66 11,
  opI 67 (.un .not (.t 66)),
  mvI 11 67]
def a4q : List AIns := [mvI 68 13,
  opI 69 (.bin .add (.t 68) (.c (.int .i64 1))),
  mvI 15 69]
def a4p : List AIns := [mvI 70 15,
  mvI 71 8,
  opI 72 (.len (.t 71)),
  opI 73 (.bin .lss (.t 70) (.t 72))]
def a8n : List AIns := [mvI 76 8,
  mvI 77 15,
  opI 78 (.idxp 1 (.t 76) (.t 77)),
  opI 79 (.load none (.t 78)),
  opI 80 (.len (.t 79)),
  opI 81 (.bin .sub (.t 80) (.c (.int .i64 1))),
  mvI 16 81]
def a4o : List AIns := [mvI 82 16,
  mvI 83 12,
  opI 84 (.bin .geq (.t 82) (.t 83))]
def a8m : List AIns := [mvI 87 8,
  mvI 88 13,
  opI 89 (.idxp 1 (.t 87) (.t 88)),
  opI 90 (.load none (.t 89)),
  mvI 91 12,
  opI 92 (.idxp 2 (.t 90) (.t 91)),
  opI 93 (.load (some 2) (.t 92)),
  mvI 94 8,
  mvI 95 15,
  opI 96 (.idxp 1 (.t 94) (.t 95)),
  opI 97 (.load none (.t 96)),
  mvI 98 16,
  opI 99 (.idxp 2 (.t 97) (.t 98)),
  opI 100 (.load (some 2) (.t 99)),
  ⟨some 101, none, .call a1f [(.t 93), (.t 100)]⟩,
  mvI 102 8,
  mvI 103 15,
  opI 104 (.idxp 1 (.t 102) (.t 103)),
  opI 105 (.load none (.t 104)),
  mvI 106 12,
  opI 107 (.idxp 2 (.t 105) (.t 106)),
  opI 108 (.load (some 2) (.t 107)),
  mvI 109 8,
  mvI 110 13,
  opI 111 (.idxp 1 (.t 109) (.t 110)),
  opI 112 (.load none (.t 111)),
  mvI 113 16,
  opI 114 (.idxp 2 (.t 112) (.t 113)),
  opI 115 (.load (some 2) (.t 114)),
  ⟨some 116, none, .call a1f [(.t 108), (.t 115)]⟩,
  ⟨some 117, none, .call a4S [(.t 101), (.t 116)]⟩,
  ⟨some 17, none, .e (.box 2 (.c (.agg [.bool false, .nil])))⟩,
  ⟨none, none, .e (.store 2 (.t 17) (.t 117))⟩]
def a8l : List AIns := [mvI 119 8,
  mvI 120 15,
  opI 121 (.idxp 1 (.t 119) (.t 120)),
  opI 122 (.load none (.t 121)),
  mvI 123 16,
  opI 124 (.load (some 2) (.t 17)),
  opI 125 (.load (some 2) (.t 10)),
  ⟨some 126, none, .call a1S [(.t 124), (.t 125)]⟩,
  mvI 118 126,
  opI 127 (.ext (.t 118) 0),
  opI 128 (.ext (.t 118) 1),
  opI 129 (.ext (.t 118) 2),
  opI 130 (.idxp 2 (.t 122) (.t 123)),
  ⟨none, none, .e (.store 2 (.t 130) (.t 127))⟩]
def a8k : List AIns := [mvI 85 16,
  opI 86 (.bin .sub (.t 85) (.c (.int .i64 1))),
  mvI 16 86]
def c0j : ACode := .seq (.seq (rgI a4o) (.cond (.t 84) (.skip) (.exit 6))) (.seq (.block 7 (.seq (.region a8m true) (.region a8l true))) (rgI a8k))
def a8j : List AIns := [mvI 74 15,
  opI 75 (.bin .add (.t 74) (.c (.int .i64 1))),
  mvI 15 75]
def a9D : ACode := .seq (.seq (rgI a4p) (.cond (.t 73) (.skip) (.exit 4))) (.seq (.block 5 (.seq (rgI a8n) (.block 6 (.loop c0j)))) (rgI a8j))
def a4n : List AIns := [mvI 131 8,
  mvI 132 13,
  opI 133 (.idxp 1 (.t 131) (.t 132)),
  opI 134 (.load none (.t 133)),
  mvI 135 12,
  opI 136 (.idxp 2 (.t 134) (.t 135)),
  opI 137 (.load (some 2) (.t 136)),
  ⟨none, none, .e (.store 2 (.t 10) (.t 137))⟩]
def a4m : List AIns := [mvI 138 9,
  mvI 139 12,
  ⟨some 140, none, .e (.bsl 1 [(.t 139)])⟩,
  ⟨some 141, none, .e (.app 1 8 false (.t 138) (.t 140))⟩,
  mvI 9 141]
def a2U : List AIns := [opI 142 (.bin .add (.t 22) (.c (.int .i64 1))),
  mvI 22 142]
def a5u : ACode := .seq (rgI a5p) (.seq (.cond (.t 23) (.skip) (.exit 0)) (.seq (.block 1 (.seq (rgI a9B) (.seq (rgI a9A) (.seq (rgI a9z) (.seq (.block 2 (.loop c0k)) (.seq (.seq (rgI a4s) (.cond (.t 48) (.exit 1) (.skip))) (.seq (.seq (rgI a4r) (.cond (.t 51) (.seq (.region a8p true) (rgI a8o)) (.skip))) (.seq (.seq (rgI a4q) (.block 4 (.loop a9D))) (.seq (rgI a4n) (rgI a4m)))))))))) (rgI a2U)))
def a2T : List AIns := [mvI 143 8,
  mvI 144 9,
  opI 145 (.load (some 2) (.t 10)),
  mvI 146 11,
  mvI 4 143,
  mvI 5 144,
  ⟨none, none, .e (.store 2 (.t 6) (.t 145))⟩,
  mvI 7 146]
def c1a : ACode := .seq (rgI a9C) (.scope (.seq (rgI a5t) (.seq (rgI a5s) (.seq (rgI a5r) (.seq (.label 0) (.seq (.seq (rgI a5q) (.block 0 (.loop a5u))) (.seq (.region a2T true) (.ret))))))))
theorem c0i : fchk Pr (fun _ _ => false) Try.f50 = some (c1a, [.tmp 4, .tmp 5, .cell 6 (some 2), .tmp 7], 147) := by kernel_rfl
theorem c0l : Pr.funcs[a2f]? = some Try.f50 := Try.func50
def a3S : List AIns := [opI 2 (.mv (.c (.int .i64 0))),
  opI 3 (.mv (.c (.int .i64 0)))]
def a3R : List AIns := [mvI 8 0,
  ⟨some 9, none, .call a3g [(.t 8)]⟩,
  mvI 7 9,
  opI 10 (.ext (.t 7) 0),
  opI 11 (.ext (.t 7) 1),
  opI 12 (.ext (.t 7) 2),
  mvI 4 10,
  mvI 5 11,
  mvI 6 12]
def a3Q : List AIns := [mvI 13 6,
  opI 14 (.bin .eql (.t 13) (.c (.int .i64 0))),
  mvI 15 14,
  ⟨some 16, some (15, true), .p (.mv (.t 4))⟩,
  ⟨some 17, some (15, true), .p (.mv (.t 5))⟩,
  ⟨some 18, some (15, true), .p (.bin .neq (.t 16) (.t 17))⟩,
  opI 19 (.pick (.t 15) (.t 18) (.c (.bool false)))]
def b1l : List AIns := [opI 6 (.mv (.c (.int .i64 8)))]
def a3P : List AIns := [mvI 20 4,
  mvI 21 6,
  mvI 2 20,
  mvI 3 21]
def c4h : ACode := .seq (rgI a3S) (.seq (rgI a3R) (.seq (.seq (rgI a3Q) (.cond (.t 19) (rgI b1l) (.skip))) (.seq (rgI a3P) (.ret))))
theorem a6r : fchk Pr (fun _ _ => false) Try.f55 = some (c4h, [.tmp 2, .tmp 3], 22) := by kernel_rfl
theorem a6s : Pr.funcs[a4P]? = some Try.f55 := Try.func55
def c0h : List AIns := [⟨some 2, none, .e (.box 2 (.c (.agg [.bool false, .nil])))⟩]
def c0g : List AIns := [mvI 8 0,
  opI 9 (.len (.t 8)),
  mvI 3 9]
def c0f : List AIns := [mvI 11 0,
  mvI 12 3,
  ⟨some 13, none, .call a2f [(.t 11), (.t 12)]⟩,
  mvI 10 13,
  opI 14 (.ext (.t 10) 0),
  opI 15 (.ext (.t 10) 1),
  opI 16 (.ext (.t 10) 2),
  opI 17 (.ext (.t 10) 3),
  ⟨some 6, none, .e (.box 2 (.c (.agg [.bool false, .nil])))⟩,
  mvI 4 14,
  mvI 5 15,
  ⟨none, none, .e (.store 2 (.t 6) (.t 16))⟩,
  mvI 7 17]
def c0e : List AIns := [mvI 19 5,
  opI 20 (.len (.t 19)),
  mvI 21 3,
  opI 22 (.bin .lss (.t 20) (.t 21)),
  mvI 18 22]
def c0d : List AIns := [opI 23 (.bld [.bool false, .nil] []),
  ⟨none, none, .e (.store 2 (.t 2) (.t 23))⟩]
def c0c : List AIns := [mvI 25 7,
  mvI 24 25]
def c0b : List AIns := [opI 26 (.load (some 2) (.t 6)),
  ⟨some 27, none, .call a3N [(.t 26)]⟩,
  ⟨none, none, .e (.store 2 (.t 2) (.t 27))⟩]
def c0a : List AIns := [opI 28 (.load (some 2) (.t 6)),
  ⟨some 29, none, .call a8b [(.t 28)]⟩,
  ⟨none, none, .e (.store 2 (.t 2) (.t 29))⟩]
def d1w : ACode := .seq (rgI c0h) (.seq (rgI c0g) (.seq (rgI c0f) (.seq (.block 0 (.seq (rgI c0e) (.cond (.t 18) (.seq (rgI c0d) (.ret)) (.seq (rgI c0c) (.cond (.t 24) (.seq (rgI c0b) (.ret)) (.skip)))))) (.seq (rgI c0a) (.ret)))))
theorem c8a : fchk Pr (fun _ _ => false) Try.f56 = some (d1w, [.cell 2 (some 2)], 30) := by kernel_rfl
theorem c8b : Pr.funcs[a7f]? = some Try.f56 := Try.func56
def a8z : List AIns := [⟨some 2, none, .e (.box 2 (.t 0))⟩,
  ⟨some 3, none, .e (.box 2 (.t 1))⟩,
  opI 4 (.mv (.c (.int .i64 0)))]
def a8y : List AIns := [opI 7 (.load (some 2) (.t 2)),
  ⟨some 8, none, .call a0U [(.t 7)]⟩,
  opI 9 (.load (some 2) (.t 3)),
  ⟨some 10, none, .call a0U [(.t 9)]⟩,
  mvI 5 8,
  mvI 6 10]
def a8x : List AIns := [mvI 12 5,
  mvI 13 6,
  opI 14 (.bin .lss (.t 12) (.t 13)),
  mvI 11 14]
def a8w : List AIns := [opI 4 (.mv (.c (.int .i64 (-1))))]
def a8v : List AIns := [mvI 16 5,
  mvI 17 6,
  opI 18 (.bin .gtr (.t 16) (.t 17)),
  mvI 15 18]
def a8u : List AIns := [opI 4 (.mv (.c (.int .i64 1)))]
def a8t : List AIns := [mvI 19 5,
  opI 20 (.fldp (.t 2) 1),
  opI 21 (.load none (.t 20)),
  opI 22 (.fldp (.t 3) 1),
  opI 23 (.load none (.t 22)),
  ⟨some 24, none, .call a5y [(.t 21), (.t 23)]⟩,
  opI 25 (.bin .mul (.t 19) (.t 24)),
  mvI 4 25]
def c0F : ACode := .seq (rgI a8z) (.seq (.region a8y true) (.seq (.block 0 (.seq (rgI a8x) (.cond (.t 11) (.seq (rgI a8w) (.ret)) (.seq (rgI a8v) (.cond (.t 15) (.seq (rgI a8u) (.ret)) (.skip)))))) (.seq (rgI a8t) (.ret))))
theorem b7V : fchk Pr (fun _ _ => false) Try.f58 = some (c0F, [.tmp 4], 26) := by kernel_rfl
theorem b7W : Pr.funcs[a6G]? = some Try.f58 := Try.func58
def b8d : List AIns := [⟨some 1, none, .e (.box 2 (.t 0))⟩,
  ⟨some 2, none, .e (.box 2 (.c (.agg [.bool false, .nil])))⟩]
def b8c : List AIns := [opI 3 (.fldp (.t 1) 1),
  opI 4 (.load none (.t 3)),
  ⟨some 5, none, .call a0T [(.c (.bool false)), (.t 4)]⟩,
  ⟨none, none, .e (.store 2 (.t 2) (.t 5))⟩]
def c9X : ACode := .seq (rgI b8d) (.seq (rgI b8c) (.ret))
theorem c6O : fchk Pr (fun _ _ => false) Try.f59 = some (c9X, [.cell 2 (some 2)], 6) := by kernel_rfl
theorem c6P : Pr.funcs[b5H]? = some Try.f59 := Try.func59
def c1i : List AIns := [⟨some 2, none, .e (.box 2 (.c (.agg [.bool false, .nil])))⟩]
def c1h : List AIns := [mvI 4 0,
  opI 5 (.conv .u64 (.t 4)),
  mvI 3 5]
def c1g : List AIns := [mvI 6 0,
  opI 7 (.bin .lss (.t 6) (.c (.int .i64 0)))]
def c1f : List AIns := [mvI 8 3,
  opI 9 (.un .neg (.t 8)),
  mvI 3 9]
def b4A : List AIns := [mvI 10 0,
  opI 11 (.bin .lss (.t 10) (.c (.int .i64 0))),
  mvI 12 3,
  opI 13 (.conv .u32 (.t 12)),
  mvI 14 3,
  opI 15 (.bin .shr (.t 14) (.c (.int .u64 32))),
  opI 16 (.conv .u32 (.t 15)),
  ⟨some 17, none, .e (.bsl 1 [(.t 13), (.t 16)])⟩,
  ⟨some 18, none, .call a0T [(.t 11), (.t 17)]⟩,
  ⟨none, none, .e (.store 2 (.t 2) (.t 18))⟩]
def d1K : ACode := .seq (rgI c1i) (.seq (rgI c1h) (.seq (.seq (rgI c1g) (.cond (.t 7) (rgI c1f) (.skip))) (.seq (rgI b4A) (.ret))))
theorem c9R : fchk Pr (fun _ _ => false) Try.f60 = some (d1K, [.cell 2 (some 2)], 19) := by kernel_rfl
theorem c9S : Pr.funcs[a2Q]? = some Try.f60 := Try.func60
def b3W : List AIns := [opI 4 (.mv (.c (.nil))),
  opI 5 (.mv (.c (.nil)))]
def b3V : List AIns := [mvI 18 0,
  mvI 19 1,
  ⟨some 20, none, .call a2f [(.t 18), (.t 19)]⟩,
  mvI 17 20,
  opI 21 (.ext (.t 17) 0),
  opI 22 (.ext (.t 17) 1),
  opI 23 (.ext (.t 17) 2),
  opI 24 (.ext (.t 17) 3),
  ⟨some 8, none, .e (.box 2 (.c (.agg [.bool false, .nil])))⟩,
  mvI 6 21,
  mvI 7 22,
  ⟨none, none, .e (.store 2 (.t 8) (.t 23))⟩,
  mvI 9 24]
def b3U : List AIns := [mvI 25 6,
  mvI 26 7,
  opI 27 (.len (.t 26)),
  mvI 28 7,
  opI 29 (.len (.t 28)),
  opI 30 (.slc 1 (.t 25) none (some (.t 27)) (some (.t 29))),
  mvI 6 30]
def b3T : List AIns := [mvI 31 6,
  opI 32 (.len (.t 31)),
  opI 33 (.mv (.c (.int .i64 0)))]
def a7N : List AIns := [opI 34 (.bin .lss (.t 33) (.t 32))]
def b3S : List AIns := [mvI 35 33,
  mvI 10 35]
def b3R : List AIns := [mvI 36 6,
  mvI 37 10,
  mvI 38 6,
  mvI 39 10,
  opI 40 (.idxp 1 (.t 38) (.t 39)),
  opI 41 (.load none (.t 40)),
  ⟨some 42, none, .call a2E [(.t 41)]⟩,
  opI 43 (.idxp 1 (.t 36) (.t 37)),
  ⟨none, none, .e (.store 1 (.t 43) (.t 42))⟩]
def b3Q : List AIns := [opI 44 (.bin .add (.t 33) (.c (.int .i64 1))),
  mvI 33 44]
def c4f : ACode := .seq (rgI a7N) (.seq (.cond (.t 34) (.skip) (.exit 0)) (.seq (.block 1 (.seq (rgI b3S) (rgI b3R))) (rgI b3Q)))
def b3P : List AIns := [mvI 45 6,
  opI 46 (.len (.t 45)),
  opI 47 (.bin .sub (.t 46) (.c (.int .i64 1))),
  mvI 11 47]
def a7M : List AIns := [mvI 48 11,
  opI 49 (.bin .geq (.t 48) (.c (.int .i64 0)))]
def b1k : List AIns := [mvI 52 7,
  mvI 53 11,
  opI 54 (.idxp 1 (.t 52) (.t 53)),
  opI 55 (.load none (.t 54)),
  mvI 12 55]
def b1j : List AIns := [mvI 56 11,
  opI 57 (.mv (.c (.int .i64 0)))]
def a6q : List AIns := [opI 58 (.bin .lss (.t 57) (.t 56))]
def b1i : List AIns := [mvI 59 57,
  mvI 13 59]
def b1h : List AIns := [mvI 60 6,
  mvI 61 13,
  opI 62 (.idxp 1 (.t 60) (.t 61)),
  opI 63 (.load none (.t 62)),
  mvI 64 12,
  opI 65 (.idxp 2 (.t 63) (.t 64)),
  opI 66 (.load (some 2) (.t 65)),
  ⟨some 14, none, .e (.box 2 (.c (.agg [.bool false, .nil])))⟩,
  ⟨none, none, .e (.store 2 (.t 14) (.t 66))⟩]
def b1g : List AIns := [opI 67 (.load (some 2) (.t 14)),
  ⟨some 68, none, .call a0U [(.t 67)]⟩,
  opI 69 (.bin .eql (.t 68) (.c (.int .i64 0)))]
def b1f : List AIns := [opI 15 (.mv (.c (.nil)))]
def b1e : List AIns := [mvI 70 6,
  mvI 71 13,
  opI 72 (.idxp 1 (.t 70) (.t 71)),
  opI 73 (.load none (.t 72)),
  opI 74 (.len (.t 73)),
  opI 75 (.mv (.c (.int .i64 0)))]
def a6p : List AIns := [opI 76 (.bin .lss (.t 75) (.t 74))]
def b1d : List AIns := [mvI 77 75,
  mvI 16 77]
def b1c : List AIns := [mvI 78 15,
  mvI 79 6,
  mvI 80 11,
  opI 81 (.idxp 1 (.t 79) (.t 80)),
  opI 82 (.load none (.t 81)),
  mvI 83 12,
  opI 84 (.idxp 2 (.t 82) (.t 83)),
  opI 85 (.load (some 2) (.t 84)),
  mvI 86 6,
  mvI 87 13,
  opI 88 (.idxp 1 (.t 86) (.t 87)),
  opI 89 (.load none (.t 88)),
  mvI 90 16,
  opI 91 (.idxp 2 (.t 89) (.t 90)),
  opI 92 (.load (some 2) (.t 91)),
  ⟨some 93, none, .call a1f [(.t 85), (.t 92)]⟩,
  opI 94 (.load (some 2) (.t 14)),
  mvI 95 6,
  mvI 96 11,
  opI 97 (.idxp 1 (.t 95) (.t 96)),
  opI 98 (.load none (.t 97)),
  mvI 99 16,
  opI 100 (.idxp 2 (.t 98) (.t 99)),
  opI 101 (.load (some 2) (.t 100)),
  ⟨some 102, none, .call a1f [(.t 94), (.t 101)]⟩,
  ⟨some 103, none, .call a4S [(.t 93), (.t 102)]⟩,
  ⟨some 104, none, .e (.bsl 2 [(.t 103)])⟩,
  ⟨some 105, none, .e (.app 2 32 false (.t 78) (.t 104))⟩,
  mvI 15 105]
def b1b : List AIns := [opI 106 (.bin .add (.t 75) (.c (.int .i64 1))),
  mvI 75 106]
def c4c : ACode := .seq (rgI a6p) (.seq (.cond (.t 76) (.skip) (.exit 6)) (.seq (.block 7 (.seq (rgI b1d) (.region b1c true))) (rgI b1b)))
def b1a : List AIns := [mvI 107 6,
  mvI 108 13,
  mvI 109 15,
  ⟨some 110, none, .call a2E [(.t 109)]⟩,
  opI 111 (.idxp 1 (.t 107) (.t 108)),
  ⟨none, none, .e (.store 1 (.t 111) (.t 110))⟩]
def a6o : List AIns := [opI 112 (.bin .add (.t 57) (.c (.int .i64 1))),
  mvI 57 112]
def c4d : ACode := .seq (rgI a6q) (.seq (.cond (.t 58) (.skip) (.exit 4)) (.seq (.block 5 (.seq (rgI b1i) (.seq (rgI b1h) (.seq (.seq (rgI b1g) (.cond (.t 69) (.exit 5) (.skip))) (.seq (rgI b1f) (.seq (.seq (rgI b1e) (.block 6 (.loop c4c))) (rgI b1a))))))) (rgI a6o)))
def b0Z : List AIns := [mvI 50 11,
  opI 51 (.bin .sub (.t 50) (.c (.int .i64 1))),
  mvI 11 51]
def c4e : ACode := .seq (.seq (rgI a7M) (.cond (.t 49) (.skip) (.exit 2))) (.seq (.block 3 (.seq (rgI b1k) (.seq (rgI b1j) (.block 4 (.loop c4d))))) (rgI b0Z))
def b0Y : List AIns := [mvI 113 6,
  mvI 114 7,
  mvI 4 113,
  mvI 5 114]
def c5Y : ACode := .seq (rgI b3W) (.seq (rgI b3V) (.seq (rgI b3U) (.seq (.seq (rgI b3T) (.block 0 (.loop c4f))) (.seq (.seq (rgI b3P) (.block 2 (.loop c4e))) (.seq (rgI b0Y) (.ret))))))
theorem c4b : fchk Pr (fun _ _ => false) Try.f64 = some (c5Y, [.tmp 4, .tmp 5], 115) := by kernel_rfl
theorem c4g : Pr.funcs[a2x]? = some Try.f64 := Try.func64
def b3N : List AIns := [⟨some 3, none, .e (.box 2 (.t 1))⟩,
  opI 4 (.mv (.c (.nil))),
  ⟨some 5, none, .e (.box 2 (.c (.agg [.bool false, .nil])))⟩]
def b3M : List AIns := [opI 18 (.load (some 2) (.t 3)),
  ⟨some 19, none, .call b5H [(.t 18)]⟩,
  ⟨some 6, none, .e (.box 2 (.c (.agg [.bool false, .nil])))⟩,
  ⟨none, none, .e (.store 2 (.t 6) (.t 19))⟩]
def b3L : List AIns := [mvI 20 0,
  opI 21 (.len (.t 20)),
  opI 22 (.mv (.c (.int .i64 0)))]
def a7L : List AIns := [opI 23 (.bin .lss (.t 22) (.t 21))]
def b3K : List AIns := [opI 24 (.idxp 2 (.t 20) (.t 22)),
  opI 25 (.load (some 2) (.t 24)),
  ⟨some 8, none, .e (.box 2 (.c (.agg [.bool false, .nil])))⟩,
  ⟨none, none, .e (.store 2 (.t 8) (.t 25))⟩]
def b3J : List AIns := [opI 26 (.load (some 2) (.t 6)),
  opI 27 (.load (some 2) (.t 8)),
  ⟨some 28, none, .call b0p [(.t 26), (.t 27)]⟩,
  ⟨none, none, .e (.store 2 (.t 6) (.t 28))⟩]
def b3I : List AIns := [opI 29 (.bin .add (.t 22) (.c (.int .i64 1))),
  mvI 22 29]
def c3Z : ACode := .seq (rgI a7L) (.seq (.cond (.t 23) (.skip) (.exit 0)) (.seq (.block 1 (.seq (rgI b3K) (rgI b3J))) (rgI b3I)))
def b3H : List AIns := [opI 30 (.load (some 2) (.t 3)),
  ⟨some 31, none, .call a0U [(.t 30)]⟩,
  opI 32 (.bin .lss (.t 31) (.c (.int .i64 0)))]
def b3G : List AIns := [opI 33 (.load (some 2) (.t 6)),
  ⟨some 34, none, .call a3N [(.t 33)]⟩,
  ⟨none, none, .e (.store 2 (.t 6) (.t 34))⟩]
def a7K : List AIns := [opI 9 (.mv (.c (.nil)))]
def a6n : List AIns := [mvI 35 0,
  opI 36 (.len (.t 35)),
  opI 37 (.mv (.c (.int .i64 0)))]
def a6m : List AIns := [opI 38 (.bin .lss (.t 37) (.t 36))]
def b0X : List AIns := [opI 39 (.idxp 2 (.t 35) (.t 37)),
  opI 40 (.load (some 2) (.t 39)),
  ⟨some 11, none, .e (.box 2 (.c (.agg [.bool false, .nil])))⟩,
  ⟨none, none, .e (.store 2 (.t 11) (.t 40))⟩]
def b0W : List AIns := [opI 42 (.load (some 2) (.t 11)),
  opI 43 (.load (some 2) (.t 6)),
  ⟨some 44, none, .call a1S [(.t 42), (.t 43)]⟩,
  mvI 41 44,
  opI 45 (.ext (.t 41) 0),
  opI 46 (.ext (.t 41) 1),
  opI 47 (.ext (.t 41) 2),
  ⟨some 12, none, .e (.box 2 (.c (.agg [.bool false, .nil])))⟩,
  ⟨some 13, none, .e (.box 2 (.c (.agg [.bool false, .nil])))⟩,
  ⟨none, none, .e (.store 2 (.t 12) (.t 45))⟩,
  ⟨none, none, .e (.store 2 (.t 13) (.t 46))⟩,
  mvI 14 47]
def b0V : List AIns := [mvI 48 9,
  opI 49 (.load (some 2) (.t 12)),
  ⟨some 50, none, .e (.bsl 2 [(.t 49)])⟩,
  ⟨some 51, none, .e (.app 2 32 false (.t 48) (.t 50))⟩,
  mvI 9 51]
def b0U : List AIns := [opI 52 (.bin .add (.t 37) (.c (.int .i64 1))),
  mvI 37 52]
def b3O : ACode := .seq (rgI a6m) (.seq (.cond (.t 38) (.skip) (.exit 2)) (.seq (.block 3 (.seq (rgI b0X) (.seq (rgI b0W) (rgI b0V)))) (rgI b0U)))
def a6l : List AIns := [opI 54 (.load (some 2) (.t 3)),
  opI 55 (.load (some 2) (.t 6)),
  ⟨some 56, none, .call a1S [(.t 54), (.t 55)]⟩,
  mvI 53 56,
  opI 57 (.ext (.t 53) 0),
  opI 58 (.ext (.t 53) 1),
  opI 59 (.ext (.t 53) 2),
  ⟨some 15, none, .e (.box 2 (.c (.agg [.bool false, .nil])))⟩,
  ⟨some 16, none, .e (.box 2 (.c (.agg [.bool false, .nil])))⟩,
  ⟨none, none, .e (.store 2 (.t 15) (.t 57))⟩,
  ⟨none, none, .e (.store 2 (.t 16) (.t 58))⟩,
  mvI 17 59]
def a6k : List AIns := [mvI 60 9,
  opI 61 (.load (some 2) (.t 15)),
  mvI 4 60,
  ⟨none, none, .e (.store 2 (.t 5) (.t 61))⟩]
def c5X : ACode := .seq (rgI b3N) (.seq (rgI b3M) (.seq (.seq (rgI b3L) (.block 0 (.loop c3Z))) (.seq (.seq (rgI b3H) (.cond (.t 32) (rgI b3G) (.skip))) (.seq (rgI a7K) (.seq (.seq (rgI a6n) (.block 2 (.loop b3O))) (.seq (rgI a6l) (.seq (.region a6k true) (.ret))))))))
theorem c3Y : fchk Pr (fun _ _ => false) Try.f67 = some (c5X, [.tmp 4, .cell 5 (some 2)], 62) := by kernel_rfl
theorem c4a : Pr.funcs[a6e]? = some Try.f67 := Try.func67
def a9k : List AIns := [opI 2 (.mv (.c (.int .i64 0))),
  opI 3 (.mv (.c (.int .i64 0))),
  opI 4 (.mv (.c (.int .i64 0)))]
def a9j : List AIns := [mvI 7 0,
  opI 8 (.len (.t 7)),
  opI 9 (.bin .eql (.t 8) (.c (.int .i64 0)))]
def b6C : List AIns := [opI 2 (.mv (.c (.int .i64 0))),
  opI 3 (.mv (.c (.int .i64 0))),
  opI 4 (.mv (.c (.int .i64 0)))]
def a9i : List AIns := [mvI 10 0,
  opI 11 (.len (.t 10)),
  opI 12 (.mv (.c (.int .i64 0)))]
def a4g : List AIns := [opI 13 (.bin .lss (.t 12) (.t 11))]
def a5U : List AIns := [opI 14 (.idxp 1 (.t 10) (.t 12)),
  opI 15 (.load none (.t 14)),
  mvI 6 15]
def a5T : List AIns := [mvI 16 6,
  opI 17 (.len (.t 16)),
  mvI 18 0,
  opI 19 (.idxp 1 (.t 18) (.c (.int .i64 0))),
  opI 20 (.load none (.t 19)),
  opI 21 (.len (.t 20)),
  opI 22 (.bin .neq (.t 17) (.t 21))]
def b6B : List AIns := [opI 2 (.mv (.c (.int .i64 0))),
  opI 3 (.mv (.c (.int .i64 0))),
  opI 4 (.mv (.c (.int .i64 8)))]
def a9h : List AIns := [opI 23 (.bin .add (.t 12) (.c (.int .i64 1))),
  mvI 12 23]
def c5A : ACode := .seq (rgI a4g) (.seq (.cond (.t 13) (.skip) (.exit 0)) (.seq (.block 1 (.seq (rgI a5U) (.seq (rgI a5T) (.cond (.t 22) (.seq (rgI b6B) (.ret)) (.skip))))) (rgI a9h)))
def b6A : List AIns := [mvI 24 0,
  opI 25 (.len (.t 24)),
  mvI 26 0,
  opI 27 (.idxp 1 (.t 26) (.c (.int .i64 0))),
  opI 28 (.load none (.t 27)),
  opI 29 (.len (.t 28)),
  mvI 2 25,
  mvI 3 29,
  opI 4 (.mv (.c (.int .i64 0)))]
def c7D : ACode := .seq (rgI a9k) (.seq (.seq (rgI a9j) (.cond (.t 9) (.seq (rgI b6C) (.ret)) (.skip))) (.seq (.seq (rgI a9i) (.block 0 (.loop c5A))) (.seq (.region b6A true) (.ret))))
theorem b6D : fchk Pr (fun _ _ => false) Try.f70 = some (c7D, [.tmp 2, .tmp 3, .tmp 4], 30) := by kernel_rfl
theorem b6E : Pr.funcs[a3O]? = some Try.f70 := Try.func70
def b5X : List AIns := [⟨some 1, none, .e (.box 2 (.t 0))⟩,
  ⟨some 2, none, .e (.box 2 (.c (.agg [.bool false, .nil])))⟩]
def b5W : List AIns := [opI 3 (.fldp (.t 1) 0),
  opI 4 (.load none (.t 3)),
  opI 5 (.fldp (.t 1) 1),
  opI 6 (.load none (.t 5)),
  ⟨some 7, none, .call a0T [(.t 4), (.t 6)]⟩,
  ⟨none, none, .e (.store 2 (.t 2) (.t 7))⟩]
def c6L : ACode := .seq (rgI b5X) (.seq (rgI b5W) (.ret))
theorem c4C : fchk Pr (fun _ _ => false) Try.f71 = some (c6L, [.cell 2 (some 2)], 8) := by kernel_rfl
theorem c4D : Pr.funcs[a8b]? = some Try.f71 := Try.func71
def b5O : List AIns := [⟨some 4, none, .e (.box 2 (.c (.agg [.bool false, .nil])))⟩]
def b5N : List AIns := [mvI 7 1,
  opI 8 (.len (.t 7)),
  mvI 5 8]
def a8s : List AIns := [mvI 9 5,
  opI 10 (.bin .gtr (.t 9) (.c (.int .i64 0))),
  mvI 11 10,
  ⟨some 12, some (11, true), .p (.mv (.t 1))⟩,
  ⟨some 13, some (11, true), .p (.mv (.t 5))⟩,
  ⟨some 14, some (11, true), .p (.bin .sub (.t 13) (.c (.int .i64 1)))⟩,
  ⟨some 15, some (11, true), .p (.idxp 1 (.t 12) (.t 14))⟩,
  ⟨some 16, some (11, true), .p (.load none (.t 15))⟩,
  ⟨some 17, some (11, true), .p (.bin .eql (.t 16) (.c (.int .u32 0)))⟩,
  opI 18 (.pick (.t 11) (.t 17) (.c (.bool false)))]
def b5M : List AIns := [mvI 19 5,
  opI 20 (.bin .sub (.t 19) (.c (.int .i64 1))),
  mvI 5 20]
def b5P : ACode := .seq (.seq (rgI a8s) (.cond (.t 18) (.skip) (.exit 0))) (.block 1 (rgI b5M))
def a5H : List AIns := [mvI 21 5,
  opI 22 (.bin .eql (.t 21) (.c (.int .i64 0)))]
def a5G : List AIns := [opI 23 (.bld [.bool false, .nil] []),
  ⟨none, none, .e (.store 2 (.t 4) (.t 23))⟩]
def a5F : List AIns := [mvI 24 5,
  ⟨some 25, none, .e (.mksl 1 4 (.int .u32 0) (.t 24) (.t 24))⟩,
  mvI 6 25]
def a5E : List AIns := [mvI 26 6,
  mvI 27 1,
  ⟨some 28, none, .e (.cpy 1 (.t 26) (.t 27))⟩]
def a5D : List AIns := [mvI 29 0,
  mvI 30 6,
  opI 31 (.bld [.bool false, .nil] [(0, 1, (.t 29)), (1, 1, (.t 30))]),
  ⟨none, none, .e (.store 2 (.t 4) (.t 31))⟩]
def c6B : ACode := .seq (rgI b5O) (.seq (rgI b5N) (.seq (.block 0 (.loop b5P)) (.seq (.seq (rgI a5H) (.cond (.t 22) (.seq (rgI a5G) (.ret)) (.skip))) (.seq (rgI a5F) (.seq (rgI a5E) (.seq (rgI a5D) (.ret)))))))
theorem c4y : fchk Pr (fun _ _ => false) Try.f73 = some (c6B, [.cell 4 (some 2)], 32) := by kernel_rfl
theorem c4z : Pr.funcs[a0T]? = some Try.f73 := Try.func73
def b0F : List AIns := [opI 4 (.mv (.c (.nil)))]
def b0E : List AIns := [mvI 10 1,
  opI 11 (.len (.t 10)),
  opI 12 (.bin .eql (.t 11) (.c (.int .i64 0)))]
def b0D : List AIns := [opI 4 (.mv (.c (.nil)))]
def b0C : List AIns := [mvI 13 1,
  opI 14 (.idxp 1 (.t 13) (.c (.int .i64 0))),
  opI 15 (.load none (.t 14)),
  opI 16 (.len (.t 15)),
  ⟨some 17, none, .e (.mksl 2 32 (.agg [.bool false, .nil]) (.t 16) (.t 16))⟩,
  mvI 5 17]
def b0B : List AIns := [mvI 18 1,
  opI 19 (.len (.t 18)),
  opI 20 (.mv (.c (.int .i64 0)))]
def a6i : List AIns := [opI 21 (.bin .lss (.t 20) (.t 19))]
def b0A : List AIns := [mvI 22 20,
  opI 23 (.idxp 1 (.t 18) (.t 20)),
  opI 24 (.load none (.t 23)),
  mvI 6 22,
  mvI 7 24]
def b0z : List AIns := [mvI 25 7,
  opI 26 (.len (.t 25)),
  opI 27 (.mv (.c (.int .i64 0)))]
def a6h : List AIns := [opI 28 (.bin .lss (.t 27) (.t 26))]
def b0y : List AIns := [mvI 29 27,
  opI 30 (.idxp 2 (.t 25) (.t 27)),
  opI 31 (.load (some 2) (.t 30)),
  ⟨some 9, none, .e (.box 2 (.c (.agg [.bool false, .nil])))⟩,
  mvI 8 29,
  ⟨none, none, .e (.store 2 (.t 9) (.t 31))⟩]
def a9a : List AIns := [mvI 32 5,
  mvI 33 8,
  mvI 34 5,
  mvI 35 8,
  opI 36 (.idxp 2 (.t 34) (.t 35)),
  opI 37 (.load (some 2) (.t 36)),
  mvI 38 0,
  mvI 39 6,
  opI 40 (.idxp 2 (.t 38) (.t 39)),
  opI 41 (.load (some 2) (.t 40)),
  opI 42 (.load (some 2) (.t 9)),
  ⟨some 43, none, .call a1f [(.t 41), (.t 42)]⟩,
  ⟨some 44, none, .call a4T [(.t 37), (.t 43)]⟩,
  opI 45 (.idxp 2 (.t 32) (.t 33)),
  ⟨none, none, .e (.store 2 (.t 45) (.t 44))⟩]
def a8Z : List AIns := [opI 46 (.bin .add (.t 27) (.c (.int .i64 1))),
  mvI 27 46]
def c0J : ACode := .seq (rgI a6h) (.seq (.cond (.t 28) (.skip) (.exit 2)) (.seq (.block 3 (.seq (rgI b0y) (.region a9a true))) (rgI a8Z)))
def a8Y : List AIns := [opI 47 (.bin .add (.t 20) (.c (.int .i64 1))),
  mvI 20 47]
def c0K : ACode := .seq (rgI a6i) (.seq (.cond (.t 21) (.skip) (.exit 0)) (.seq (.block 1 (.seq (rgI b0A) (.seq (rgI b0z) (.block 2 (.loop c0J))))) (rgI a8Y)))
def a8X : List AIns := [mvI 48 5,
  mvI 4 48]
def c3B : ACode := .seq (rgI b0F) (.seq (.seq (rgI b0E) (.cond (.t 12) (.seq (rgI b0D) (.ret)) (.skip))) (.seq (rgI b0C) (.seq (.seq (rgI b0B) (.block 0 (.loop c0K))) (.seq (rgI a8X) (.ret)))))
theorem c0I : fchk Pr (fun _ _ => false) Try.f76 = some (c3B, [.tmp 4], 49) := by kernel_rfl
theorem c0L : Pr.funcs[a8d]? = some Try.f76 := Try.func76
def c1V : List AIns := [opI 4 (.mv (.c (.nil)))]
def c1U : List AIns := [mvI 9 0,
  ⟨some 10, none, .call a0n [(.t 9)]⟩,
  mvI 11 1,
  ⟨some 12, none, .call a0n [(.t 11)]⟩,
  mvI 0 10,
  mvI 1 12]
def c1T : List AIns := [mvI 13 0,
  opI 14 (.len (.t 13)),
  mvI 15 1,
  opI 16 (.len (.t 15)),
  opI 17 (.bin .add (.t 14) (.t 16)),
  ⟨some 18, none, .e (.mksl 1 4 (.int .u32 0) (.t 17) (.t 17))⟩,
  mvI 5 18]
def c1S : List AIns := [mvI 19 0,
  opI 20 (.len (.t 19)),
  opI 21 (.mv (.c (.int .i64 0)))]
def b4T : List AIns := [opI 22 (.bin .lss (.t 21) (.t 20))]
def c1R : List AIns := [mvI 23 21,
  mvI 6 23]
def c1Q : List AIns := [opI 7 (.mv (.c (.int .u64 0)))]
def c1P : List AIns := [mvI 24 1,
  opI 25 (.len (.t 24)),
  opI 26 (.mv (.c (.int .i64 0)))]
def b4S : List AIns := [opI 27 (.bin .lss (.t 26) (.t 25))]
def c1O : List AIns := [mvI 28 26,
  mvI 8 28]
def b8X : List AIns := [mvI 29 7,
  mvI 30 0,
  mvI 31 6,
  opI 32 (.idxp 1 (.t 30) (.t 31)),
  opI 33 (.load none (.t 32)),
  opI 34 (.conv .u64 (.t 33)),
  mvI 35 1,
  mvI 36 8,
  opI 37 (.idxp 1 (.t 35) (.t 36)),
  opI 38 (.load none (.t 37)),
  opI 39 (.conv .u64 (.t 38)),
  opI 40 (.bin .mul (.t 34) (.t 39)),
  mvI 41 5,
  mvI 42 6,
  mvI 43 8,
  opI 44 (.bin .add (.t 42) (.t 43)),
  opI 45 (.idxp 1 (.t 41) (.t 44)),
  opI 46 (.load none (.t 45)),
  opI 47 (.conv .u64 (.t 46)),
  opI 48 (.bin .add (.t 40) (.t 47)),
  opI 49 (.bin .add (.t 29) (.t 48)),
  mvI 7 49]
def b8W : List AIns := [mvI 50 5,
  mvI 51 6,
  mvI 52 8,
  opI 53 (.bin .add (.t 51) (.t 52)),
  mvI 54 7,
  opI 55 (.conv .u32 (.t 54)),
  opI 56 (.idxp 1 (.t 50) (.t 53)),
  ⟨none, none, .e (.store 1 (.t 56) (.t 55))⟩]
def b8V : List AIns := [mvI 57 7,
  opI 58 (.bin .shr (.t 57) (.c (.int .u64 32))),
  mvI 7 58]
def b8U : List AIns := [opI 59 (.bin .add (.t 26) (.c (.int .i64 1))),
  mvI 26 59]
def c1W : ACode := .seq (rgI b4S) (.seq (.cond (.t 27) (.skip) (.exit 2)) (.seq (.block 3 (.seq (rgI c1O) (.seq (.region b8X true) (.seq (rgI b8W) (rgI b8V))))) (rgI b8U)))
def b8T : List AIns := [mvI 60 5,
  mvI 61 6,
  mvI 62 1,
  opI 63 (.len (.t 62)),
  opI 64 (.bin .add (.t 61) (.t 63)),
  mvI 65 7,
  opI 66 (.conv .u32 (.t 65)),
  opI 67 (.idxp 1 (.t 60) (.t 64)),
  ⟨none, none, .e (.store 1 (.t 67) (.t 66))⟩]
def b8S : List AIns := [opI 68 (.bin .add (.t 21) (.c (.int .i64 1))),
  mvI 21 68]
def c1X : ACode := .seq (rgI b4T) (.seq (.cond (.t 22) (.skip) (.exit 0)) (.seq (.block 1 (.seq (rgI c1R) (.seq (rgI c1Q) (.seq (.seq (rgI c1P) (.block 2 (.loop c1W))) (rgI b8T))))) (rgI b8S)))
def b2n : List AIns := [mvI 69 5,
  ⟨some 70, none, .call a0n [(.t 69)]⟩,
  mvI 4 70]
def d2V : ACode := .seq (rgI c1V) (.seq (rgI c1U) (.seq (rgI c1T) (.seq (.seq (rgI c1S) (.block 0 (.loop c1X))) (.seq (rgI b2n) (.ret)))))
theorem d0R : fchk Pr (fun _ _ => false) Try.f77 = some (d2V, [.tmp 4], 71) := by kernel_rfl
theorem d0S : Pr.funcs[a7b]? = some Try.f77 := Try.func77
def b2S : List AIns := [⟨some 2, none, .e (.box 2 (.t 0))⟩,
  ⟨some 3, none, .e (.box 2 (.t 1))⟩,
  ⟨some 4, none, .e (.box 2 (.c (.agg [.bool false, .nil])))⟩,
  ⟨some 5, none, .e (.box 2 (.c (.agg [.bool false, .nil])))⟩,
  opI 6 (.mv (.c (.int .i64 0)))]
def b2R : List AIns := [opI 13 (.fldp (.t 2) 1),
  opI 14 (.load none (.t 13)),
  opI 15 (.fldp (.t 3) 1),
  opI 16 (.load none (.t 15)),
  ⟨some 17, none, .call b4z [(.t 14), (.t 16)]⟩,
  mvI 12 17,
  opI 18 (.ext (.t 12) 0),
  opI 19 (.ext (.t 12) 1),
  opI 20 (.ext (.t 12) 2),
  mvI 7 18,
  mvI 8 19,
  mvI 9 20]
def b2Q : List AIns := [mvI 21 9,
  opI 22 (.bin .neq (.t 21) (.c (.int .i64 0)))]
def c2Z : List AIns := [opI 23 (.bld [.bool false, .nil] []),
  opI 24 (.bld [.bool false, .nil] []),
  ⟨none, none, .e (.store 2 (.t 4) (.t 23))⟩,
  ⟨none, none, .e (.store 2 (.t 5) (.t 24))⟩,
  opI 6 (.mv (.c (.int .i64 11)))]
def b2P : List AIns := [opI 25 (.fldp (.t 2) 0),
  opI 26 (.load none (.t 25)),
  opI 27 (.fldp (.t 3) 0),
  opI 28 (.load none (.t 27)),
  opI 29 (.beq true (.t 26) (.t 28)),
  mvI 30 7,
  ⟨some 31, none, .call a0T [(.t 29), (.t 30)]⟩,
  opI 32 (.fldp (.t 2) 0),
  opI 33 (.load none (.t 32)),
  mvI 34 8,
  ⟨some 35, none, .call a0T [(.t 33), (.t 34)]⟩]
def b0w : List AIns := [⟨some 10, none, .e (.box 2 (.c (.agg [.bool false, .nil])))⟩,
  ⟨some 11, none, .e (.box 2 (.c (.agg [.bool false, .nil])))⟩,
  ⟨none, none, .e (.store 2 (.t 10) (.t 31))⟩,
  ⟨none, none, .e (.store 2 (.t 11) (.t 35))⟩]
def b0v : List AIns := [⟨some 11, none, .e (.box 2 (.c (.agg [.bool false, .nil])))⟩,
  ⟨some 10, none, .e (.box 2 (.c (.agg [.bool false, .nil])))⟩,
  ⟨none, none, .e (.store 2 (.t 10) (.t 31))⟩,
  ⟨none, none, .e (.store 2 (.t 11) (.t 35))⟩]
def b2O : List AIns := [opI 36 (.load (some 2) (.t 11)),
  ⟨some 37, none, .call a0U [(.t 36)]⟩,
  opI 38 (.bin .neq (.t 37) (.c (.int .i64 0))),
  mvI 39 38,
  ⟨some 40, some (39, true), .p (.load (some 2) (.t 11))⟩,
  ⟨some 41, some (39, true), .call a0U [(.t 40)]⟩,
  ⟨some 42, some (39, true), .p (.load (some 2) (.t 3))⟩,
  ⟨some 43, some (39, true), .call a0U [(.t 42)]⟩,
  ⟨some 44, some (39, true), .p (.bin .neq (.t 41) (.t 43))⟩,
  opI 45 (.pick (.t 39) (.t 44) (.c (.bool false)))]
def c2Y : List AIns := [opI 46 (.load (some 2) (.t 10)),
  ⟨some 47, none, .call a2Q [(.c (.int .i64 1))]⟩,
  ⟨some 48, none, .call a4S [(.t 46), (.t 47)]⟩,
  opI 49 (.load (some 2) (.t 11)),
  opI 50 (.load (some 2) (.t 3)),
  ⟨some 51, none, .call a4T [(.t 49), (.t 50)]⟩,
  ⟨none, none, .e (.store 2 (.t 10) (.t 48))⟩,
  ⟨none, none, .e (.store 2 (.t 11) (.t 51))⟩]
def b2N : List AIns := [opI 52 (.load (some 2) (.t 10)),
  opI 53 (.load (some 2) (.t 11)),
  ⟨none, none, .e (.store 2 (.t 4) (.t 52))⟩,
  ⟨none, none, .e (.store 2 (.t 5) (.t 53))⟩,
  opI 6 (.mv (.c (.int .i64 0)))]
def b0u : List AIns := []
def b0t : List AIns := []
def c4E : ACode := .seq (rgI b2S) (.seq (rgI b2R) (.seq (.seq (rgI b2Q) (.cond (.t 22) (.seq (rgI c2Z) (.ret)) (.skip))) (.seq (.regionX b2P b0w b0v []) (.seq (.seq (.region b2O true) (.cond (.t 45) (.region c2Y true) (.skip))) (.seq (.regionX b2N b0u b0t [(11, 4)]) (.ret))))))
theorem c3a : fchk Pr (fun _ _ => false) Try.f78 = some (c4E, [.cell 4 (some 2), .cell 5 (some 2), .tmp 6], 54) := by kernel_rfl
theorem c3b : Pr.funcs[a1S]? = some Try.f78 := Try.func78
def b9m : List AIns := [opI 2 (.mv (.c (.int .i64 0)))]
def b9l : List AIns := [mvI 3 0,
  ⟨some 4, none, .call a0n [(.t 3)]⟩,
  mvI 0 4]
def b9k : List AIns := [mvI 5 0,
  opI 6 (.len (.t 5)),
  opI 7 (.bin .eql (.t 6) (.c (.int .i64 0)))]
def b9j : List AIns := [opI 2 (.mv (.c (.int .i64 0)))]
def b9i : List AIns := [mvI 8 0,
  opI 9 (.len (.t 8)),
  opI 10 (.bin .sub (.t 9) (.c (.int .i64 1))),
  opI 11 (.bin .mul (.c (.int .i64 32)) (.t 10)),
  mvI 12 0,
  mvI 13 0,
  opI 14 (.len (.t 13)),
  opI 15 (.bin .sub (.t 14) (.c (.int .i64 1))),
  opI 16 (.idxp 1 (.t 12) (.t 15)),
  opI 17 (.load none (.t 16)),
  ⟨some 18, none, .call a1n [(.t 17)]⟩,
  opI 19 (.bin .add (.t 11) (.t 18)),
  mvI 2 19]
def d1c : ACode := .seq (rgI b9m) (.seq (rgI b9l) (.seq (.seq (rgI b9k) (.cond (.t 7) (.seq (rgI b9j) (.ret)) (.skip))) (.seq (rgI b9i) (.ret))))
theorem c7r : fchk Pr (fun _ _ => false) Try.f82 = some (d1c, [.tmp 2], 20) := by kernel_rfl
theorem c7s : Pr.funcs[b5I]? = some Try.f82 := Try.func82
def a8W : List AIns := [opI 4 (.mv (.c (.nil)))]
def a8V : List AIns := [mvI 8 0,
  opI 9 (.len (.t 8)),
  ⟨some 10, none, .e (.mksl 2 32 (.agg [.bool false, .nil]) (.c (.int .i64 0)) (.t 9))⟩,
  mvI 5 10]
def a8U : List AIns := [mvI 11 0,
  opI 12 (.len (.t 11)),
  opI 13 (.mv (.c (.int .i64 0)))]
def a5e : List AIns := [opI 14 (.bin .lss (.t 13) (.t 12))]
def a8T : List AIns := [opI 15 (.idxp 2 (.t 11) (.t 13)),
  opI 16 (.load (some 2) (.t 15)),
  ⟨some 7, none, .e (.box 2 (.c (.agg [.bool false, .nil])))⟩,
  ⟨none, none, .e (.store 2 (.t 7) (.t 16))⟩]
def a8S : List AIns := [mvI 17 5,
  mvI 18 1,
  opI 19 (.load (some 2) (.t 7)),
  ⟨some 20, none, .callv (.t 18) [(.t 19)]⟩,
  ⟨some 21, none, .e (.bsl 2 [(.t 20)])⟩,
  ⟨some 22, none, .e (.app 2 32 false (.t 17) (.t 21))⟩,
  mvI 5 22]
def a8R : List AIns := [opI 23 (.bin .add (.t 13) (.c (.int .i64 1))),
  mvI 13 23]
def b9r : ACode := .seq (rgI a5e) (.seq (.cond (.t 14) (.skip) (.exit 0)) (.seq (.block 1 (.seq (rgI a8T) (rgI a8S))) (rgI a8R)))
def a8Q : List AIns := [mvI 24 5,
  mvI 4 24]
def c0H : ACode := .seq (rgI a8W) (.seq (rgI a8V) (.seq (.seq (rgI a8U) (.block 0 (.loop b9r))) (.seq (rgI a8Q) (.ret))))
theorem b9q : fchk Pr (fun _ _ => false) Try.f83 = some (c0H, [.tmp 4], 25) := by kernel_rfl
theorem b9s : Pr.funcs[a6H]? = some Try.f83 := Try.func83
def b0H : List AIns := [⟨some 2, none, .e (.box 2 (.t 0))⟩,
  ⟨some 3, none, .e (.box 2 (.c (.agg [.bool false, .nil])))⟩]
def b0G : List AIns := [opI 4 (.load (some 2) (.t 1)),
  opI 5 (.load (some 2) (.t 2)),
  ⟨some 6, none, .call a1f [(.t 4), (.t 5)]⟩,
  ⟨none, none, .e (.store 2 (.t 3) (.t 6))⟩]
def c3C : ACode := .seq (rgI b0H) (.seq (rgI b0G) (.ret))
theorem c0M : fchk Pr (fun _ _ => false) Try.f84 = some (c3C, [.cell 3 (some 2)], 7) := by kernel_rfl
theorem c0N : Pr.funcs[a4N]? = some Try.f84 := Try.func84
def b1D : List AIns := [opI 2 (.mv (.c (.nil)))]
def b1C : List AIns := [mvI 6 0,
  opI 7 (.len (.t 6)),
  ⟨some 8, none, .e (.mksl 1 24 (.nil) (.t 7) (.t 7))⟩,
  mvI 3 8]
def b1B : List AIns := [mvI 9 0,
  opI 10 (.len (.t 9)),
  opI 11 (.mv (.c (.int .i64 0)))]
def a6u : List AIns := [opI 12 (.bin .lss (.t 11) (.t 10))]
def b1A : List AIns := [mvI 13 11,
  opI 14 (.idxp 1 (.t 9) (.t 11)),
  opI 15 (.load none (.t 14)),
  mvI 4 13,
  mvI 5 15]
def b1z : List AIns := [mvI 16 3,
  mvI 17 4,
  mvI 18 5,
  opI 19 (.len (.t 18)),
  ⟨some 20, none, .e (.mksl 2 32 (.agg [.bool false, .nil]) (.t 19) (.t 19))⟩,
  opI 21 (.idxp 1 (.t 16) (.t 17)),
  ⟨none, none, .e (.store 1 (.t 21) (.t 20))⟩]
def b1y : List AIns := [mvI 22 3,
  mvI 23 4,
  opI 24 (.idxp 1 (.t 22) (.t 23)),
  opI 25 (.load none (.t 24)),
  mvI 26 5,
  ⟨some 27, none, .e (.cpy 2 (.t 25) (.t 26))⟩]
def b1x : List AIns := [opI 28 (.bin .add (.t 11) (.c (.int .i64 1))),
  mvI 11 28]
def c0Y : ACode := .seq (rgI a6u) (.seq (.cond (.t 12) (.skip) (.exit 0)) (.seq (.block 1 (.seq (rgI b1A) (.seq (rgI b1z) (rgI b1y)))) (rgI b1x)))
def b1w : List AIns := [mvI 29 3,
  mvI 2 29]
def c4j : ACode := .seq (rgI b1D) (.seq (rgI b1C) (.seq (.seq (rgI b1B) (.block 0 (.loop c0Y))) (.seq (rgI b1w) (.ret))))
theorem c0X : fchk Pr (fun _ _ => false) Try.f85 = some (c4j, [.tmp 2], 30) := by kernel_rfl
theorem c0Z : Pr.funcs[a8g]? = some Try.f85 := Try.func85
def b7O : List AIns := [⟨some 2, none, .e (.box 2 (.t 0))⟩,
  ⟨some 3, none, .e (.box 2 (.t 1))⟩,
  ⟨some 4, none, .e (.box 2 (.c (.agg [.bool false, .nil])))⟩]
def b7N : List AIns := [opI 5 (.load (some 2) (.t 2)),
  opI 6 (.load (some 2) (.t 3)),
  ⟨some 7, none, .call a3N [(.t 6)]⟩,
  ⟨some 8, none, .call a4T [(.t 5), (.t 7)]⟩,
  ⟨none, none, .e (.store 2 (.t 4) (.t 8))⟩]
def c9Q : ACode := .seq (rgI b7O) (.seq (.region b7N true) (.ret))
theorem c6C : fchk Pr (fun _ _ => false) Try.f86 = some (c9Q, [.cell 4 (some 2)], 9) := by kernel_rfl
theorem c6D : Pr.funcs[a4S]? = some Try.f86 := Try.func86
end Go.Abs
set_option maxRecDepth 100000
noncomputable section
namespace Go.Abs
open Go.Proofs
def c2t : List AIns := [opI 4 (.mv (.c (.int .i64 0)))]
def c2s : List AIns := [mvI 6 0,
  ⟨some 7, none, .call a0n [(.t 6)]⟩,
  mvI 8 1,
  ⟨some 9, none, .call a0n [(.t 8)]⟩,
  mvI 0 7,
  mvI 1 9]
def c2r : List AIns := [mvI 10 0,
  opI 11 (.len (.t 10)),
  mvI 12 1,
  opI 13 (.len (.t 12)),
  opI 14 (.bin .neq (.t 11) (.t 13))]
def c2q : List AIns := [mvI 15 0,
  opI 16 (.len (.t 15)),
  mvI 17 1,
  opI 18 (.len (.t 17)),
  opI 19 (.bin .lss (.t 16) (.t 18))]
def c2p : List AIns := [opI 4 (.mv (.c (.int .i64 (-1))))]
def c2o : List AIns := [opI 4 (.mv (.c (.int .i64 1)))]
def c2n : List AIns := [mvI 20 0,
  opI 21 (.len (.t 20)),
  opI 22 (.bin .sub (.t 21) (.c (.int .i64 1))),
  mvI 5 22]
def b4W : List AIns := [mvI 23 5,
  opI 24 (.bin .geq (.t 23) (.c (.int .i64 0)))]
def c2m : List AIns := [mvI 27 0,
  mvI 28 5,
  opI 29 (.idxp 1 (.t 27) (.t 28)),
  opI 30 (.load none (.t 29)),
  mvI 31 1,
  mvI 32 5,
  opI 33 (.idxp 1 (.t 31) (.t 32)),
  opI 34 (.load none (.t 33)),
  opI 35 (.bin .neq (.t 30) (.t 34))]
def c2l : List AIns := [mvI 36 0,
  mvI 37 5,
  opI 38 (.idxp 1 (.t 36) (.t 37)),
  opI 39 (.load none (.t 38)),
  mvI 40 1,
  mvI 41 5,
  opI 42 (.idxp 1 (.t 40) (.t 41)),
  opI 43 (.load none (.t 42)),
  opI 44 (.bin .lss (.t 39) (.t 43))]
def b9h : List AIns := [opI 4 (.mv (.c (.int .i64 (-1))))]
def b9g : List AIns := [opI 4 (.mv (.c (.int .i64 1)))]
def b9f : List AIns := [mvI 25 5,
  opI 26 (.bin .sub (.t 25) (.c (.int .i64 1))),
  mvI 5 26]
def c2u : ACode := .seq (.seq (rgI b4W) (.cond (.t 24) (.skip) (.exit 0))) (.seq (.block 1 (.seq (.region c2m true) (.cond (.t 35) (.seq (.seq (.region c2l true) (.cond (.t 44) (.seq (rgI b9h) (.ret)) (.skip))) (.seq (rgI b9g) (.ret))) (.skip)))) (rgI b9f))
def b2p : List AIns := [opI 4 (.mv (.c (.int .i64 0)))]
def d2Y : ACode := .seq (rgI c2t) (.seq (rgI c2s) (.seq (.seq (rgI c2r) (.cond (.t 14) (.seq (.seq (rgI c2q) (.cond (.t 19) (.seq (rgI c2p) (.ret)) (.skip))) (.seq (rgI c2o) (.ret))) (.skip))) (.seq (.seq (rgI c2n) (.block 0 (.loop c2u))) (.seq (rgI b2p) (.ret)))))
theorem d1a : fchk Pr (fun _ _ => false) Try.f92 = some (d2Y, [.tmp 4], 45) := by kernel_rfl
theorem d1b : Pr.funcs[a5y]? = some Try.f92 := Try.func92
def b1u : List AIns := [opI 2 (.mv (.c (.nil)))]
def b1t : List AIns := [⟨some 3, none, .e (.box 2 (.c (.agg [.bool false, .nil])))⟩]
def b1s : List AIns := [mvI 13 0,
  opI 14 (.len (.t 13)),
  opI 15 (.mv (.c (.int .i64 0)))]
def a6t : List AIns := [opI 16 (.bin .lss (.t 15) (.t 14))]
def b1r : List AIns := [opI 17 (.idxp 2 (.t 13) (.t 15)),
  opI 18 (.load (some 2) (.t 17)),
  ⟨some 5, none, .e (.box 2 (.c (.agg [.bool false, .nil])))⟩,
  ⟨none, none, .e (.store 2 (.t 5) (.t 18))⟩]
def b1q : List AIns := [opI 19 (.load (some 2) (.t 3)),
  opI 20 (.load (some 2) (.t 5)),
  ⟨some 21, none, .call b0p [(.t 19), (.t 20)]⟩,
  ⟨none, none, .e (.store 2 (.t 3) (.t 21))⟩]
def b1p : List AIns := [opI 22 (.bin .add (.t 15) (.c (.int .i64 1))),
  mvI 15 22]
def c0V : ACode := .seq (rgI a6t) (.seq (.cond (.t 16) (.skip) (.exit 0)) (.seq (.block 1 (.seq (rgI b1r) (rgI b1q))) (rgI b1p)))
def b1o : List AIns := [mvI 23 0,
  ⟨some 24, none, .call a4U [(.t 23)]⟩,
  mvI 6 24]
def b1n : List AIns := [mvI 25 6,
  opI 26 (.bin .geq (.t 25) (.c (.int .i64 0))),
  mvI 27 26,
  ⟨some 28, some (27, true), .p (.mv (.t 0))⟩,
  ⟨some 29, some (27, true), .p (.mv (.t 6))⟩,
  ⟨some 30, some (27, true), .p (.idxp 2 (.t 28) (.t 29))⟩,
  ⟨some 31, some (27, true), .p (.load (some 2) (.t 30))⟩,
  ⟨some 32, some (27, true), .call a0U [(.t 31)]⟩,
  ⟨some 33, some (27, true), .p (.bin .lss (.t 32) (.c (.int .i64 0)))⟩,
  opI 34 (.pick (.t 27) (.t 33) (.c (.bool false)))]
def b1m : List AIns := [opI 35 (.load (some 2) (.t 3)),
  ⟨some 36, none, .call a3N [(.t 35)]⟩,
  ⟨none, none, .e (.store 2 (.t 3) (.t 36))⟩]
def a5o : List AIns := [opI 7 (.mv (.c (.nil)))]
def a5n : List AIns := [mvI 37 0,
  opI 38 (.len (.t 37)),
  opI 39 (.mv (.c (.int .i64 0)))]
def a5m : List AIns := [opI 40 (.bin .lss (.t 39) (.t 38))]
def a9y : List AIns := [opI 41 (.idxp 2 (.t 37) (.t 39)),
  opI 42 (.load (some 2) (.t 41)),
  ⟨some 9, none, .e (.box 2 (.c (.agg [.bool false, .nil])))⟩,
  ⟨none, none, .e (.store 2 (.t 9) (.t 42))⟩]
def a9x : List AIns := [opI 44 (.load (some 2) (.t 9)),
  opI 45 (.load (some 2) (.t 3)),
  ⟨some 46, none, .call a1S [(.t 44), (.t 45)]⟩,
  mvI 43 46,
  opI 47 (.ext (.t 43) 0),
  opI 48 (.ext (.t 43) 1),
  opI 49 (.ext (.t 43) 2),
  ⟨some 10, none, .e (.box 2 (.c (.agg [.bool false, .nil])))⟩,
  ⟨some 11, none, .e (.box 2 (.c (.agg [.bool false, .nil])))⟩,
  ⟨none, none, .e (.store 2 (.t 10) (.t 47))⟩,
  ⟨none, none, .e (.store 2 (.t 11) (.t 48))⟩,
  mvI 12 49]
def a9w : List AIns := [mvI 50 7,
  opI 51 (.load (some 2) (.t 10)),
  ⟨some 52, none, .e (.bsl 2 [(.t 51)])⟩,
  ⟨some 53, none, .e (.app 2 32 false (.t 50) (.t 52))⟩,
  mvI 7 53]
def a9v : List AIns := [opI 54 (.bin .add (.t 39) (.c (.int .i64 1))),
  mvI 39 54]
def b1v : ACode := .seq (rgI a5m) (.seq (.cond (.t 40) (.skip) (.exit 2)) (.seq (.block 3 (.seq (rgI a9y) (.seq (rgI a9x) (rgI a9w)))) (rgI a9v)))
def a5l : List AIns := [mvI 55 7,
  mvI 2 55]
def c4i : ACode := .seq (rgI b1u) (.seq (rgI b1t) (.seq (.seq (rgI b1s) (.block 0 (.loop c0V))) (.seq (.seq (rgI b1o) (.seq (rgI b1n) (.cond (.t 34) (rgI b1m) (.skip)))) (.seq (rgI a5o) (.seq (.seq (rgI a5n) (.block 2 (.loop b1v))) (.seq (rgI a5l) (.ret)))))))
theorem c0U : fchk Pr (fun _ _ => false) Try.f96 = some (c4i, [.tmp 2], 56) := by kernel_rfl
theorem c0W : Pr.funcs[a2E]? = some Try.f96 := Try.func96
def b7U : List AIns := [⟨some 2, none, .e (.box 2 (.t 0))⟩,
  ⟨some 3, none, .e (.box 2 (.t 1))⟩,
  ⟨some 4, none, .e (.box 2 (.c (.agg [.bool false, .nil])))⟩]
def b7T : List AIns := [opI 5 (.fldp (.t 2) 1),
  opI 6 (.load none (.t 5)),
  opI 7 (.fldp (.t 3) 1),
  opI 8 (.load none (.t 7)),
  ⟨some 9, none, .call c0E [(.t 6), (.t 8)]⟩,
  ⟨some 10, none, .call a0T [(.c (.bool false)), (.t 9)]⟩,
  ⟨none, none, .e (.store 2 (.t 4) (.t 10))⟩]
def c9V : ACode := .seq (rgI b7U) (.seq (rgI b7T) (.ret))
theorem c6J : fchk Pr (fun _ _ => false) Try.f101 = some (c9V, [.cell 4 (some 2)], 11) := by kernel_rfl
theorem c6K : Pr.funcs[b0p]? = some Try.f101 := Try.func101
def b8b : List AIns := [⟨some 2, none, .e (.box 2 (.t 0))⟩,
  ⟨some 3, none, .e (.box 2 (.t 1))⟩,
  ⟨some 4, none, .e (.box 2 (.c (.agg [.bool false, .nil])))⟩]
def b8a : List AIns := [opI 7 (.fldp (.t 2) 0),
  opI 8 (.load none (.t 7)),
  opI 9 (.fldp (.t 3) 0),
  opI 10 (.load none (.t 9)),
  opI 11 (.beq false (.t 8) (.t 10))]
def b7Z : List AIns := [opI 12 (.fldp (.t 2) 0),
  opI 13 (.load none (.t 12)),
  opI 14 (.fldp (.t 2) 1),
  opI 15 (.load none (.t 14)),
  opI 16 (.fldp (.t 3) 1),
  opI 17 (.load none (.t 16)),
  ⟨some 18, none, .call a7c [(.t 15), (.t 17)]⟩,
  ⟨some 19, none, .call a0T [(.t 13), (.t 18)]⟩,
  ⟨none, none, .e (.store 2 (.t 4) (.t 19))⟩]
def b7Y : List AIns := [opI 20 (.fldp (.t 2) 1),
  opI 21 (.load none (.t 20)),
  opI 22 (.fldp (.t 3) 1),
  opI 23 (.load none (.t 22)),
  ⟨some 24, none, .call a5y [(.t 21), (.t 23)]⟩,
  opI 25 (.bin .lss (.t 24) (.c (.int .i64 0)))]
def b7X : List AIns := [opI 26 (.load (some 2) (.t 3)),
  opI 27 (.load (some 2) (.t 2)),
  ⟨none, none, .e (.store 2 (.t 2) (.t 26))⟩,
  ⟨none, none, .e (.store 2 (.t 3) (.t 27))⟩]
def b1W : List AIns := [opI 29 (.fldp (.t 2) 1),
  opI 30 (.load none (.t 29)),
  opI 31 (.fldp (.t 3) 1),
  opI 32 (.load none (.t 31)),
  ⟨some 33, none, .call c0D [(.t 30), (.t 32)]⟩,
  mvI 28 33,
  opI 34 (.ext (.t 28) 0),
  opI 35 (.ext (.t 28) 1),
  mvI 5 34,
  mvI 6 35]
def b1V : List AIns := [opI 36 (.fldp (.t 2) 0),
  opI 37 (.load none (.t 36)),
  mvI 38 5,
  ⟨some 39, none, .call a0T [(.t 37), (.t 38)]⟩,
  ⟨none, none, .e (.store 2 (.t 4) (.t 39))⟩]
def c9W : ACode := .seq (rgI b8b) (.seq (.seq (rgI b8a) (.cond (.t 11) (.seq (.region b7Z true) (.ret)) (.skip))) (.seq (.seq (rgI b7Y) (.cond (.t 25) (rgI b7X) (.skip))) (.seq (rgI b1W) (.seq (rgI b1V) (.ret)))))
theorem c6M : fchk Pr (fun _ _ => false) Try.f102 = some (c9W, [.cell 4 (some 2)], 40) := by kernel_rfl
theorem c6N : Pr.funcs[a4T]? = some Try.f102 := Try.func102
def b2f : List AIns := [opI 2 (.mv (.c (.nil)))]
def a4Z : List AIns := [mvI 3 0,
  opI 4 (.len (.t 3)),
  opI 5 (.bin .gtr (.t 4) (.c (.int .i64 0))),
  mvI 6 5,
  ⟨some 7, some (6, true), .p (.mv (.t 0))⟩,
  ⟨some 8, some (6, true), .p (.mv (.t 0))⟩,
  ⟨some 9, some (6, true), .p (.len (.t 8))⟩,
  ⟨some 10, some (6, true), .p (.bin .sub (.t 9) (.c (.int .i64 1)))⟩,
  ⟨some 11, some (6, true), .p (.idxp 1 (.t 7) (.t 10))⟩,
  ⟨some 12, some (6, true), .p (.load none (.t 11))⟩,
  ⟨some 13, some (6, true), .p (.bin .eql (.t 12) (.c (.int .u32 0)))⟩,
  opI 14 (.pick (.t 6) (.t 13) (.c (.bool false)))]
def b2e : List AIns := [mvI 15 0,
  mvI 16 0,
  opI 17 (.len (.t 16)),
  opI 18 (.bin .sub (.t 17) (.c (.int .i64 1))),
  opI 19 (.slc 1 (.t 15) none (some (.t 18)) none),
  mvI 0 19]
def b8B : ACode := .seq (.seq (rgI a4Z) (.cond (.t 14) (.skip) (.exit 0))) (.block 1 (rgI b2e))
def a3G : List AIns := [mvI 20 0,
  mvI 2 20]
def d0F : ACode := .seq (rgI b2f) (.seq (.block 0 (.loop b8B)) (.seq (rgI a3G) (.ret)))
theorem b8A : fchk Pr (fun _ _ => false) Try.f103 = some (d0F, [.tmp 2], 21) := by kernel_rfl
theorem b8C : Pr.funcs[a0n]? = some Try.f103 := Try.func103
def c2k : List AIns := [opI 4 (.mv (.c (.nil))),
  opI 5 (.mv (.c (.nil))),
  opI 6 (.mv (.c (.int .i64 0)))]
def c2j : List AIns := [mvI 14 0,
  ⟨some 15, none, .call a0n [(.t 14)]⟩,
  mvI 16 1,
  ⟨some 17, none, .call a0n [(.t 16)]⟩,
  mvI 0 15,
  mvI 1 17]
def c2i : List AIns := [mvI 19 1,
  opI 20 (.len (.t 19)),
  opI 21 (.bin .eql (.t 20) (.c (.int .i64 0))),
  mvI 18 21]
def d0W : List AIns := [opI 4 (.mv (.c (.nil))),
  opI 5 (.mv (.c (.nil))),
  opI 6 (.mv (.c (.int .i64 11)))]
def c2h : List AIns := [mvI 23 0,
  mvI 24 1,
  ⟨some 25, none, .call a5y [(.t 23), (.t 24)]⟩,
  opI 26 (.bin .lss (.t 25) (.c (.int .i64 0))),
  mvI 22 26]
def c2g : List AIns := [mvI 27 0,
  ⟨some 28, none, .call a7a [(.t 27)]⟩,
  opI 4 (.mv (.c (.nil))),
  mvI 5 28,
  opI 6 (.mv (.c (.int .i64 0)))]
def b4V : List AIns := [mvI 30 1,
  opI 31 (.len (.t 30)),
  opI 32 (.bin .eql (.t 31) (.c (.int .i64 1))),
  mvI 29 32]
def c2f : List AIns := [mvI 34 0,
  mvI 35 1,
  opI 36 (.idxp 1 (.t 35) (.c (.int .i64 0))),
  opI 37 (.load none (.t 36)),
  ⟨some 38, none, .call b2L [(.t 34), (.t 37)]⟩,
  mvI 33 38,
  opI 39 (.ext (.t 33) 0),
  opI 40 (.ext (.t 33) 1),
  mvI 7 39,
  mvI 8 40]
def c2e : List AIns := [mvI 41 7,
  mvI 42 8,
  ⟨some 43, none, .e (.bsl 1 [(.t 42)])⟩,
  ⟨some 44, none, .call a0n [(.t 43)]⟩,
  mvI 4 41,
  mvI 5 44,
  opI 6 (.mv (.c (.int .i64 0)))]
def c2d : List AIns := [mvI 45 1,
  mvI 46 1,
  opI 47 (.len (.t 46)),
  opI 48 (.bin .sub (.t 47) (.c (.int .i64 1))),
  opI 49 (.idxp 1 (.t 45) (.t 48)),
  opI 50 (.load none (.t 49)),
  ⟨some 51, none, .call a1v [(.t 50)]⟩,
  mvI 9 51]
def b9e : List AIns := [mvI 52 1,
  mvI 53 9,
  ⟨some 54, none, .call b4y [(.t 52), (.t 53)]⟩,
  mvI 10 54]
def b9d : List AIns := [mvI 55 0,
  mvI 56 9,
  ⟨some 57, none, .call b4y [(.t 55), (.t 56)]⟩,
  ⟨some 58, none, .e (.bsl 1 [(.c (.int .u32 0)), (.c (.int .u32 0))])⟩,
  ⟨some 59, none, .e (.app 1 4 false (.t 57) (.t 58))⟩,
  mvI 60 0,
  opI 61 (.len (.t 60)),
  opI 62 (.bin .add (.t 61) (.c (.int .i64 1))),
  opI 63 (.slc 1 (.t 59) none (some (.t 62)) none),
  mvI 11 63]
def b9c : List AIns := [mvI 64 0,
  opI 65 (.len (.t 64)),
  mvI 66 1,
  opI 67 (.len (.t 66)),
  opI 68 (.bin .sub (.t 65) (.t 67)),
  opI 69 (.bin .add (.t 68) (.c (.int .i64 1))),
  ⟨some 70, none, .e (.mksl 1 4 (.int .u32 0) (.t 69) (.t 69))⟩,
  mvI 12 70]
def b9b : List AIns := [mvI 71 0,
  opI 72 (.len (.t 71)),
  mvI 73 1,
  opI 74 (.len (.t 73)),
  opI 75 (.bin .sub (.t 72) (.t 74)),
  mvI 13 75]
def b2o : List AIns := [mvI 76 13,
  opI 77 (.bin .geq (.t 76) (.c (.int .i64 0)))]
def b9a : List AIns := [mvI 80 12,
  mvI 81 13,
  mvI 82 11,
  mvI 83 13,
  mvI 84 13,
  mvI 85 10,
  opI 86 (.len (.t 85)),
  opI 87 (.bin .add (.t 84) (.t 86)),
  opI 88 (.bin .add (.t 87) (.c (.int .i64 1))),
  opI 89 (.slc 1 (.t 82) (some (.t 83)) (some (.t 88)) none),
  mvI 90 10,
  ⟨some 91, none, .call a8c [(.t 89), (.t 90)]⟩,
  opI 92 (.idxp 1 (.t 80) (.t 81)),
  ⟨none, none, .e (.store 1 (.t 92) (.t 91))⟩]
def b8Z : List AIns := [mvI 78 13,
  opI 79 (.bin .sub (.t 78) (.c (.int .i64 1))),
  mvI 13 79]
def d0Y : ACode := .seq (.seq (rgI b2o) (.cond (.t 77) (.skip) (.exit 1))) (.seq (.block 2 (rgI b9a)) (rgI b8Z))
def b8Y : List AIns := [mvI 93 12,
  ⟨some 94, none, .call a0n [(.t 93)]⟩,
  mvI 95 11,
  ⟨some 96, none, .call a0n [(.t 95)]⟩,
  mvI 97 9,
  ⟨some 98, none, .call b4x [(.t 96), (.t 97)]⟩,
  mvI 4 94,
  mvI 5 98,
  opI 6 (.mv (.c (.int .i64 0)))]
def d2X : ACode := .seq (rgI c2k) (.seq (rgI c2j) (.seq (.block 0 (.seq (rgI c2i) (.cond (.t 18) (.seq (rgI d0W) (.ret)) (.seq (rgI c2h) (.cond (.t 22) (.seq (rgI c2g) (.ret)) (.seq (rgI b4V) (.cond (.t 29) (.seq (rgI c2f) (.seq (rgI c2e) (.ret))) (.skip)))))))) (.seq (rgI c2d) (.seq (rgI b9e) (.seq (rgI b9d) (.seq (rgI b9c) (.seq (.seq (rgI b9b) (.block 1 (.loop d0Y))) (.seq (rgI b8Y) (.ret)))))))))
theorem d0X : fchk Pr (fun _ _ => false) Try.f104 = some (d2X, [.tmp 4, .tmp 5, .tmp 6], 99) := by kernel_rfl
theorem d0Z : Pr.funcs[b4z]? = some Try.f104 := Try.func104
def a5R : List AIns := [opI 2 (.mv (.c (.int .i64 0)))]
def a5Q : List AIns := [mvI 3 0,
  opI 4 (.bin .geq (.t 3) (.c (.int .u32 65536)))]
def a5P : List AIns := [mvI 5 0,
  opI 6 (.bin .shr (.t 5) (.c (.int .u64 16))),
  mvI 0 6]
def a5O : List AIns := [opI 2 (.mv (.c (.int .i64 16)))]
def a3n : List AIns := [mvI 7 0,
  opI 8 (.bin .geq (.t 7) (.c (.int .u32 256)))]
def a3m : List AIns := [mvI 9 0,
  opI 10 (.bin .shr (.t 9) (.c (.int .u64 8))),
  mvI 0 10]
def a3l : List AIns := [mvI 11 2,
  opI 12 (.bin .add (.t 11) (.c (.int .i64 8))),
  mvI 2 12]
def a2j : List AIns := [mvI 13 2,
  mvI 14 0,
  opI 15 (.conv .u8 (.t 14)),
  opI 16 (.idxs (.c (.str d5o)) (.t 15)),
  opI 17 (.conv .i64 (.t 16)),
  opI 18 (.bin .add (.t 13) (.t 17)),
  mvI 2 18]
def b5c : ACode := .seq (rgI a5R) (.seq (.seq (rgI a5Q) (.cond (.t 4) (.seq (rgI a5P) (rgI a5O)) (.skip))) (.seq (.seq (rgI a3n) (.cond (.t 8) (.seq (rgI a3m) (rgI a3l)) (.skip))) (.seq (rgI a2j) (.ret))))
theorem b3o : fchk Pr (fun _ _ => false) Try.f109 = some (b5c, [.tmp 2], 19) := by kernel_rfl
theorem b3p : Pr.funcs[a1n]? = some Try.f109 := Try.func109
def c2c : List AIns := [opI 4 (.mv (.c (.nil)))]
def c2b : List AIns := [mvI 10 0,
  ⟨some 11, none, .call a7a [(.t 10)]⟩,
  mvI 12 1,
  ⟨some 13, none, .call a7a [(.t 12)]⟩,
  mvI 5 11,
  mvI 6 13]
def b4U : List AIns := [mvI 14 6,
  opI 15 (.len (.t 14)),
  opI 16 (.bin .gtr (.t 15) (.c (.int .i64 0)))]
def c2a : List AIns := [mvI 18 5,
  mvI 19 6,
  ⟨some 20, none, .call b4z [(.t 18), (.t 19)]⟩,
  mvI 17 20,
  opI 21 (.ext (.t 17) 0),
  opI 22 (.ext (.t 17) 1),
  opI 23 (.ext (.t 17) 2),
  mvI 7 21,
  mvI 8 22,
  mvI 9 23]
def c1Z : List AIns := [mvI 24 6,
  mvI 25 8,
  mvI 5 24,
  mvI 6 25]
def d0U : ACode := .seq (.seq (rgI b4U) (.cond (.t 16) (.skip) (.exit 0))) (.block 1 (.seq (rgI c2a) (rgI c1Z)))
def c1Y : List AIns := [mvI 26 5,
  mvI 4 26]
def d2W : ACode := .seq (rgI c2c) (.seq (rgI c2b) (.seq (.block 0 (.loop d0U)) (.seq (rgI c1Y) (.ret))))
theorem d0T : fchk Pr (fun _ _ => false) Try.f117 = some (d2W, [.tmp 4], 27) := by kernel_rfl
theorem d0V : Pr.funcs[c0E]? = some Try.f117 := Try.func117
def c2A : List AIns := [opI 4 (.mv (.c (.nil)))]
def c2z : List AIns := [mvI 8 0,
  opI 9 (.len (.t 8)),
  mvI 10 1,
  opI 11 (.len (.t 10)),
  opI 12 (.bin .lss (.t 9) (.t 11))]
def c2y : List AIns := [mvI 13 1,
  mvI 14 0,
  mvI 0 13,
  mvI 1 14]
def b5a : List AIns := [mvI 15 0,
  opI 16 (.len (.t 15)),
  opI 17 (.bin .add (.t 16) (.c (.int .i64 1))),
  ⟨some 18, none, .e (.mksl 1 4 (.int .u32 0) (.t 17) (.t 17))⟩,
  mvI 5 18]
def b4Z : List AIns := [opI 6 (.mv (.c (.int .u64 0)))]
def b4Y : List AIns := [mvI 19 0,
  opI 20 (.len (.t 19)),
  opI 21 (.mv (.c (.int .i64 0)))]
def b4X : List AIns := [opI 22 (.bin .lss (.t 21) (.t 20))]
def c2x : List AIns := [mvI 23 21,
  mvI 7 23]
def c2w : List AIns := [mvI 24 6,
  mvI 25 0,
  mvI 26 7,
  opI 27 (.idxp 1 (.t 25) (.t 26)),
  opI 28 (.load none (.t 27)),
  opI 29 (.conv .u64 (.t 28)),
  opI 30 (.bin .add (.t 24) (.t 29)),
  mvI 6 30]
def c2v : List AIns := [mvI 31 7,
  mvI 32 1,
  opI 33 (.len (.t 32)),
  opI 34 (.bin .lss (.t 31) (.t 33))]
def b9n : List AIns := [mvI 35 6,
  mvI 36 1,
  mvI 37 7,
  opI 38 (.idxp 1 (.t 36) (.t 37)),
  opI 39 (.load none (.t 38)),
  opI 40 (.conv .u64 (.t 39)),
  opI 41 (.bin .add (.t 35) (.t 40)),
  mvI 6 41]
def b2t : List AIns := [mvI 42 5,
  mvI 43 7,
  mvI 44 6,
  opI 45 (.conv .u32 (.t 44)),
  opI 46 (.idxp 1 (.t 42) (.t 43)),
  ⟨none, none, .e (.store 1 (.t 46) (.t 45))⟩]
def b2r : List AIns := [mvI 47 6,
  opI 48 (.bin .shr (.t 47) (.c (.int .u64 32))),
  mvI 6 48]
def b2q : List AIns := [opI 49 (.bin .add (.t 21) (.c (.int .i64 1))),
  mvI 21 49]
def b0f : ACode := .seq (rgI b4X) (.seq (.cond (.t 22) (.skip) (.exit 0)) (.seq (.block 1 (.seq (rgI c2x) (.seq (rgI c2w) (.seq (.seq (rgI c2v) (.cond (.t 34) (rgI b9n) (.skip))) (.seq (rgI b2t) (rgI b2r)))))) (rgI b2q)))
def a5b : List AIns := [mvI 50 5,
  mvI 51 0,
  opI 52 (.len (.t 51)),
  mvI 53 6,
  opI 54 (.conv .u32 (.t 53)),
  opI 55 (.idxp 1 (.t 50) (.t 52)),
  ⟨none, none, .e (.store 1 (.t 55) (.t 54))⟩]
def a5a : List AIns := [mvI 56 5,
  ⟨some 57, none, .call a0n [(.t 56)]⟩,
  mvI 4 57]
def d2Z : ACode := .seq (rgI c2A) (.seq (.seq (rgI c2z) (.cond (.t 12) (rgI c2y) (.skip))) (.seq (rgI b5a) (.seq (rgI b4Z) (.seq (.seq (rgI b4Y) (.block 0 (.loop b0f))) (.seq (rgI a5b) (.seq (rgI a5a) (.ret)))))))
theorem d1d : fchk Pr (fun _ _ => false) Try.f118 = some (d2Z, [.tmp 4], 58) := by kernel_rfl
theorem d1e : Pr.funcs[a7c]? = some Try.f118 := Try.func118
def c1N : List AIns := [opI 4 (.mv (.c (.nil))),
  opI 5 (.mv (.c (.int .i64 0)))]
def c1M : List AIns := [mvI 6 0,
  mvI 7 1,
  ⟨some 8, none, .call a5y [(.t 6), (.t 7)]⟩,
  opI 9 (.bin .lss (.t 8) (.c (.int .i64 0)))]
def d0N : List AIns := [opI 4 (.mv (.c (.nil))),
  opI 5 (.mv (.c (.int .i64 10)))]
def c1L : List AIns := [mvI 10 0,
  ⟨some 11, none, .call a0n [(.t 10)]⟩,
  mvI 12 1,
  ⟨some 13, none, .call a0n [(.t 12)]⟩,
  ⟨some 14, none, .call a6Z [(.t 11), (.t 13)]⟩,
  mvI 4 14,
  opI 5 (.mv (.c (.int .i64 0)))]
def d2U : ACode := .seq (rgI c1N) (.seq (.seq (rgI c1M) (.cond (.t 9) (.seq (rgI d0N) (.ret)) (.skip))) (.seq (rgI c1L) (.ret)))
theorem d0O : fchk Pr (fun _ _ => false) Try.f119 = some (d2U, [.tmp 4, .tmp 5], 15) := by kernel_rfl
theorem d0P : Pr.funcs[c0D]? = some Try.f119 := Try.func119
def b8R : List AIns := [opI 2 (.mv (.c (.nil)))]
def b8Q : List AIns := [mvI 3 0,
  ⟨some 4, none, .call a0n [(.t 3)]⟩,
  ⟨some 5, none, .e (.app 1 4 false (.c (.nil)) (.t 4))⟩,
  mvI 2 5]
def d0Q : ACode := .seq (rgI b8R) (.seq (rgI b8Q) (.ret))
theorem c7p : fchk Pr (fun _ _ => false) Try.f120 = some (d0Q, [.tmp 2], 6) := by kernel_rfl
theorem c7q : Pr.funcs[a7a]? = some Try.f120 := Try.func120
def b6k : List AIns := [opI 4 (.mv (.c (.nil))),
  opI 5 (.mv (.c (.int .u32 0)))]
def b6j : List AIns := [mvI 9 0,
  opI 10 (.len (.t 9)),
  ⟨some 11, none, .e (.mksl 1 4 (.int .u32 0) (.t 10) (.t 10))⟩,
  mvI 6 11]
def b6i : List AIns := [opI 7 (.mv (.c (.int .u64 0)))]
def b6h : List AIns := [mvI 12 0,
  opI 13 (.len (.t 12)),
  opI 14 (.bin .sub (.t 13) (.c (.int .i64 1))),
  mvI 8 14]
def a8K : List AIns := [mvI 15 8,
  opI 16 (.bin .geq (.t 15) (.c (.int .i64 0)))]
def b6g : List AIns := [mvI 19 7,
  opI 20 (.bin .shl (.t 19) (.c (.int .u64 32))),
  mvI 21 0,
  mvI 22 8,
  opI 23 (.idxp 1 (.t 21) (.t 22)),
  opI 24 (.load none (.t 23)),
  opI 25 (.conv .u64 (.t 24)),
  opI 26 (.bin .or (.t 20) (.t 25)),
  mvI 7 26]
def b6f : List AIns := [mvI 27 6,
  mvI 28 8,
  mvI 29 7,
  mvI 30 1,
  opI 31 (.conv .u64 (.t 30)),
  opI 32 (.bin .quo (.t 29) (.t 31)),
  opI 33 (.conv .u32 (.t 32)),
  opI 34 (.idxp 1 (.t 27) (.t 28)),
  ⟨none, none, .e (.store 1 (.t 34) (.t 33))⟩]
def b6e : List AIns := [mvI 35 7,
  mvI 36 1,
  opI 37 (.conv .u64 (.t 36)),
  opI 38 (.bin .rem (.t 35) (.t 37)),
  mvI 7 38]
def b6d : List AIns := [mvI 17 8,
  opI 18 (.bin .sub (.t 17) (.c (.int .i64 1))),
  mvI 8 18]
def c5s : ACode := .seq (.seq (rgI a8K) (.cond (.t 16) (.skip) (.exit 0))) (.seq (.block 1 (.seq (rgI b6g) (.seq (rgI b6f) (rgI b6e)))) (rgI b6d))
def b6c : List AIns := [mvI 39 6,
  ⟨some 40, none, .call a0n [(.t 39)]⟩,
  mvI 41 7,
  opI 42 (.conv .u32 (.t 41)),
  mvI 4 40,
  mvI 5 42]
def c7l : ACode := .seq (rgI b6k) (.seq (rgI b6j) (.seq (rgI b6i) (.seq (.seq (rgI b6h) (.block 0 (.loop c5s))) (.seq (rgI b6c) (.ret)))))
theorem c5r : fchk Pr (fun _ _ => false) Try.f121 = some (c7l, [.tmp 4, .tmp 5], 43) := by kernel_rfl
theorem c5t : Pr.funcs[b2L]? = some Try.f121 := Try.func121
def a2s : List AIns := [opI 2 (.mv (.c (.int .i64 0)))]
def a2r : List AIns := [mvI 3 0,
  ⟨some 4, none, .call a1n [(.t 3)]⟩,
  opI 5 (.bin .sub (.c (.int .i64 32)) (.t 4)),
  mvI 2 5]
def a5B : ACode := .seq (rgI a2s) (.seq (rgI a2r) (.ret))
theorem a5c : fchk Pr (fun _ _ => false) Try.f122 = some (a5B, [.tmp 2], 6) := by kernel_rfl
theorem a5d : Pr.funcs[a1v]? = some Try.f122 := Try.func122
def c1K : List AIns := [opI 4 (.mv (.c (.nil)))]
def c1J : List AIns := [mvI 10 0,
  ⟨some 11, none, .call a0n [(.t 10)]⟩,
  mvI 0 11]
def c1I : List AIns := [mvI 12 0,
  opI 13 (.len (.t 12)),
  opI 14 (.bin .eql (.t 13) (.c (.int .i64 0)))]
def d0I : List AIns := [opI 4 (.mv (.c (.nil)))]
def c1H : List AIns := [mvI 15 1,
  opI 16 (.bin .quo (.t 15) (.c (.int .i64 32))),
  mvI 17 1,
  opI 18 (.bin .rem (.t 17) (.c (.int .i64 32))),
  opI 19 (.conv .u64 (.t 18)),
  mvI 5 16,
  mvI 6 19]
def c1G : List AIns := [mvI 20 0,
  opI 21 (.len (.t 20)),
  mvI 22 5,
  opI 23 (.bin .add (.t 21) (.t 22)),
  opI 24 (.bin .add (.t 23) (.c (.int .i64 1))),
  ⟨some 25, none, .e (.mksl 1 4 (.int .u32 0) (.t 24) (.t 24))⟩,
  mvI 7 25]
def c1F : List AIns := [mvI 26 0,
  opI 27 (.len (.t 26)),
  opI 28 (.mv (.c (.int .i64 0)))]
def b4R : List AIns := [opI 29 (.bin .lss (.t 28) (.t 27))]
def c1E : List AIns := [mvI 30 28,
  mvI 8 30]
def c1D : List AIns := [mvI 31 0,
  mvI 32 8,
  opI 33 (.idxp 1 (.t 31) (.t 32)),
  opI 34 (.load none (.t 33)),
  opI 35 (.conv .u64 (.t 34)),
  mvI 36 6,
  opI 37 (.bin .shl (.t 35) (.t 36)),
  mvI 9 37]
def b8H : List AIns := [mvI 38 7,
  mvI 39 8,
  mvI 40 5,
  opI 41 (.bin .add (.t 39) (.t 40)),
  opI 42 (.idxp 1 (.t 38) (.t 41)),
  opI 43 (.load none (.t 42)),
  mvI 44 9,
  opI 45 (.conv .u32 (.t 44)),
  opI 46 (.bin .or (.t 43) (.t 45)),
  opI 47 (.idxp 1 (.t 38) (.t 41)),
  ⟨none, none, .e (.store 1 (.t 47) (.t 46))⟩]
def b8G : List AIns := [mvI 48 7,
  mvI 49 8,
  mvI 50 5,
  opI 51 (.bin .add (.t 49) (.t 50)),
  opI 52 (.bin .add (.t 51) (.c (.int .i64 1))),
  mvI 53 9,
  opI 54 (.bin .shr (.t 53) (.c (.int .u64 32))),
  opI 55 (.conv .u32 (.t 54)),
  opI 56 (.idxp 1 (.t 48) (.t 52)),
  ⟨none, none, .e (.store 1 (.t 56) (.t 55))⟩]
def b8F : List AIns := [opI 57 (.bin .add (.t 28) (.c (.int .i64 1))),
  mvI 28 57]
def d0K : ACode := .seq (rgI b4R) (.seq (.cond (.t 29) (.skip) (.exit 0)) (.seq (.block 1 (.seq (rgI c1E) (.seq (rgI c1D) (.seq (rgI b8H) (rgI b8G))))) (rgI b8F)))
def b8E : List AIns := [mvI 58 7,
  ⟨some 59, none, .call a0n [(.t 58)]⟩,
  mvI 4 59]
def d2T : ACode := .seq (rgI c1K) (.seq (rgI c1J) (.seq (.seq (rgI c1I) (.cond (.t 14) (.seq (rgI d0I) (.ret)) (.skip))) (.seq (rgI c1H) (.seq (rgI c1G) (.seq (.seq (rgI c1F) (.block 0 (.loop d0K))) (.seq (rgI b8E) (.ret)))))))
theorem d0J : fchk Pr (fun _ _ => false) Try.f123 = some (d2T, [.tmp 4], 60) := by kernel_rfl
theorem d0L : Pr.funcs[b4y]? = some Try.f123 := Try.func123
def b6s : List AIns := [opI 4 (.mv (.c (.int .u32 0)))]
def b6r : List AIns := [mvI 15 1,
  opI 16 (.len (.t 15)),
  mvI 5 16]
def b6q : List AIns := [mvI 17 0,
  mvI 18 5,
  opI 19 (.idxp 1 (.t 17) (.t 18)),
  opI 20 (.load none (.t 19)),
  opI 21 (.conv .u64 (.t 20)),
  opI 22 (.bin .shl (.t 21) (.c (.int .u64 32))),
  mvI 23 0,
  mvI 24 5,
  opI 25 (.bin .sub (.t 24) (.c (.int .i64 1))),
  opI 26 (.idxp 1 (.t 23) (.t 25)),
  opI 27 (.load none (.t 26)),
  opI 28 (.conv .u64 (.t 27)),
  opI 29 (.bin .or (.t 22) (.t 28)),
  mvI 6 29]
def b6p : List AIns := [mvI 30 6,
  mvI 31 1,
  mvI 32 5,
  opI 33 (.bin .sub (.t 32) (.c (.int .i64 1))),
  opI 34 (.idxp 1 (.t 31) (.t 33)),
  opI 35 (.load none (.t 34)),
  opI 36 (.conv .u64 (.t 35)),
  opI 37 (.bin .quo (.t 30) (.t 36)),
  opI 38 (.mnx false (.t 37) (.c (.int .u64 4294967295))),
  mvI 7 38]
def b6o : List AIns := [opI 8 (.mv (.c (.int .u64 0))),
  opI 9 (.mv (.c (.int .u64 0)))]
def b6n : List AIns := [mvI 39 5,
  opI 40 (.bin .add (.t 39) (.c (.int .i64 1))),
  opI 41 (.mv (.c (.int .i64 0)))]
def a8O : List AIns := [opI 42 (.bin .lss (.t 41) (.t 40))]
def b6m : List AIns := [mvI 43 41,
  mvI 10 43]
def b6l : List AIns := [mvI 44 8,
  mvI 11 44]
def a8N : List AIns := [mvI 45 10,
  mvI 46 5,
  opI 47 (.bin .lss (.t 45) (.t 46))]
def b3l : List AIns := [mvI 48 11,
  mvI 49 7,
  mvI 50 1,
  mvI 51 10,
  opI 52 (.idxp 1 (.t 50) (.t 51)),
  opI 53 (.load none (.t 52)),
  opI 54 (.conv .u64 (.t 53)),
  opI 55 (.bin .mul (.t 49) (.t 54)),
  opI 56 (.bin .add (.t 48) (.t 55)),
  mvI 11 56]
def a7y : List AIns := [mvI 57 11,
  opI 58 (.bin .shr (.t 57) (.c (.int .u64 32))),
  mvI 8 58]
def a7x : List AIns := [mvI 59 0,
  mvI 60 10,
  opI 61 (.idxp 1 (.t 59) (.t 60)),
  opI 62 (.load none (.t 61)),
  opI 63 (.conv .u64 (.t 62)),
  mvI 64 11,
  opI 65 (.conv .u32 (.t 64)),
  opI 66 (.conv .u64 (.t 65)),
  opI 67 (.bin .sub (.t 63) (.t 66)),
  mvI 68 9,
  opI 69 (.bin .sub (.t 67) (.t 68)),
  mvI 12 69]
def a7w : List AIns := [mvI 70 0,
  mvI 71 10,
  mvI 72 12,
  opI 73 (.conv .u32 (.t 72)),
  opI 74 (.idxp 1 (.t 70) (.t 71)),
  ⟨none, none, .e (.store 1 (.t 74) (.t 73))⟩]
def a7v : List AIns := [mvI 75 12,
  opI 76 (.bin .shr (.t 75) (.c (.int .u64 63))),
  mvI 9 76]
def a7u : List AIns := [opI 77 (.bin .add (.t 41) (.c (.int .i64 1))),
  mvI 41 77]
def a5L : ACode := .seq (rgI a8O) (.seq (.cond (.t 42) (.skip) (.exit 0)) (.seq (.block 1 (.seq (rgI b6m) (.seq (rgI b6l) (.seq (.seq (rgI a8N) (.cond (.t 47) (rgI b3l) (.skip))) (.seq (rgI a7y) (.seq (rgI a7x) (.seq (rgI a7w) (rgI a7v)))))))) (rgI a7u)))
def a4D : List AIns := [mvI 78 9,
  opI 79 (.bin .gtr (.t 78) (.c (.int .u64 0)))]
def b3k : List AIns := [mvI 80 7,
  opI 81 (.bin .sub (.t 80) (.c (.int .u64 1))),
  mvI 7 81]
def b3j : List AIns := [opI 13 (.mv (.c (.int .u64 0)))]
def b3i : List AIns := [mvI 82 5,
  opI 83 (.bin .add (.t 82) (.c (.int .i64 1))),
  opI 84 (.mv (.c (.int .i64 0)))]
def a7t : List AIns := [opI 85 (.bin .lss (.t 84) (.t 83))]
def b3h : List AIns := [mvI 86 84,
  mvI 14 86]
def b3g : List AIns := [mvI 87 13,
  mvI 88 0,
  mvI 89 14,
  opI 90 (.idxp 1 (.t 88) (.t 89)),
  opI 91 (.load none (.t 90)),
  opI 92 (.conv .u64 (.t 91)),
  opI 93 (.bin .add (.t 87) (.t 92)),
  mvI 13 93]
def a7s : List AIns := [mvI 94 14,
  mvI 95 5,
  opI 96 (.bin .lss (.t 94) (.t 95))]
def b3f : List AIns := [mvI 97 13,
  mvI 98 1,
  mvI 99 14,
  opI 100 (.idxp 1 (.t 98) (.t 99)),
  opI 101 (.load none (.t 100)),
  opI 102 (.conv .u64 (.t 101)),
  opI 103 (.bin .add (.t 97) (.t 102)),
  mvI 13 103]
def a7r : List AIns := [mvI 104 0,
  mvI 105 14,
  mvI 106 13,
  opI 107 (.conv .u32 (.t 106)),
  opI 108 (.idxp 1 (.t 104) (.t 105)),
  ⟨none, none, .e (.store 1 (.t 108) (.t 107))⟩]
def a7q : List AIns := [mvI 109 13,
  opI 110 (.bin .shr (.t 109) (.c (.int .u64 32))),
  mvI 13 110]
def a7p : List AIns := [opI 111 (.bin .add (.t 84) (.c (.int .i64 1))),
  mvI 84 111]
def a5K : ACode := .seq (rgI a7t) (.seq (.cond (.t 85) (.skip) (.exit 4)) (.seq (.block 5 (.seq (rgI b3h) (.seq (rgI b3g) (.seq (.seq (rgI a7s) (.cond (.t 96) (rgI b3f) (.skip))) (.seq (rgI a7r) (rgI a7q)))))) (rgI a7p)))
def b3e : List AIns := [mvI 112 9,
  mvI 113 13,
  opI 114 (.bin .sub (.t 112) (.t 113)),
  mvI 9 114]
def b6t : ACode := .seq (.seq (rgI a4D) (.cond (.t 79) (.skip) (.exit 2))) (.block 3 (.seq (rgI b3k) (.seq (rgI b3j) (.seq (.seq (rgI b3i) (.block 4 (.loop a5K))) (rgI b3e)))))
def a4C : List AIns := [mvI 115 7,
  opI 116 (.conv .u32 (.t 115)),
  mvI 4 116]
def c7o : ACode := .seq (rgI b6s) (.seq (rgI b6r) (.seq (.region b6q true) (.seq (rgI b6p) (.seq (rgI b6o) (.seq (.seq (rgI b6n) (.block 0 (.loop a5L))) (.seq (.block 2 (.loop b6t)) (.seq (rgI a4C) (.ret))))))))
theorem c5u : fchk Pr (fun _ _ => false) Try.f124 = some (c7o, [.tmp 4], 117) := by kernel_rfl
theorem c5v : Pr.funcs[a8c]? = some Try.f124 := Try.func124
def c1B : List AIns := [opI 4 (.mv (.c (.nil)))]
def c1A : List AIns := [mvI 10 0,
  ⟨some 11, none, .call a0n [(.t 10)]⟩,
  mvI 0 11]
def c1z : List AIns := [mvI 12 1,
  opI 13 (.bin .quo (.t 12) (.c (.int .i64 32))),
  mvI 14 1,
  opI 15 (.bin .rem (.t 14) (.c (.int .i64 32))),
  opI 16 (.conv .u64 (.t 15)),
  mvI 5 13,
  mvI 6 16]
def b4Q : List AIns := [mvI 17 5,
  mvI 18 0,
  opI 19 (.len (.t 18)),
  opI 20 (.bin .geq (.t 17) (.t 19))]
def c1y : List AIns := [opI 4 (.mv (.c (.nil)))]
def c1x : List AIns := [mvI 21 0,
  opI 22 (.len (.t 21)),
  mvI 23 5,
  opI 24 (.bin .sub (.t 22) (.t 23)),
  ⟨some 25, none, .e (.mksl 1 4 (.int .u32 0) (.t 24) (.t 24))⟩,
  mvI 7 25]
def c1w : List AIns := [mvI 26 7,
  opI 27 (.len (.t 26)),
  opI 28 (.mv (.c (.int .i64 0)))]
def b4P : List AIns := [opI 29 (.bin .lss (.t 28) (.t 27))]
def c1v : List AIns := [mvI 30 28,
  mvI 8 30]
def c1u : List AIns := [mvI 31 0,
  mvI 32 8,
  mvI 33 5,
  opI 34 (.bin .add (.t 32) (.t 33)),
  opI 35 (.idxp 1 (.t 31) (.t 34)),
  opI 36 (.load none (.t 35)),
  opI 37 (.conv .u64 (.t 36)),
  mvI 9 37]
def b2j : List AIns := [mvI 38 8,
  mvI 39 5,
  opI 40 (.bin .add (.t 38) (.t 39)),
  opI 41 (.bin .add (.t 40) (.c (.int .i64 1))),
  mvI 42 0,
  opI 43 (.len (.t 42)),
  opI 44 (.bin .lss (.t 41) (.t 43))]
def b8D : List AIns := [mvI 45 9,
  mvI 46 0,
  mvI 47 8,
  mvI 48 5,
  opI 49 (.bin .add (.t 47) (.t 48)),
  opI 50 (.bin .add (.t 49) (.c (.int .i64 1))),
  opI 51 (.idxp 1 (.t 46) (.t 50)),
  opI 52 (.load none (.t 51)),
  opI 53 (.conv .u64 (.t 52)),
  opI 54 (.bin .shl (.t 53) (.c (.int .u64 32))),
  opI 55 (.bin .or (.t 45) (.t 54)),
  mvI 9 55]
def b2i : List AIns := [mvI 56 7,
  mvI 57 8,
  mvI 58 9,
  mvI 59 6,
  opI 60 (.bin .shr (.t 58) (.t 59)),
  opI 61 (.conv .u32 (.t 60)),
  opI 62 (.idxp 1 (.t 56) (.t 57)),
  ⟨none, none, .e (.store 1 (.t 62) (.t 61))⟩]
def b2h : List AIns := [opI 63 (.bin .add (.t 28) (.c (.int .i64 1))),
  mvI 28 63]
def c1C : ACode := .seq (rgI b4P) (.seq (.cond (.t 29) (.skip) (.exit 0)) (.seq (.block 1 (.seq (rgI c1v) (.seq (rgI c1u) (.seq (.seq (rgI b2j) (.cond (.t 44) (rgI b8D) (.skip))) (rgI b2i))))) (rgI b2h)))
def b2g : List AIns := [mvI 64 7,
  ⟨some 65, none, .call a0n [(.t 64)]⟩,
  mvI 4 65]
def d2S : ACode := .seq (rgI c1B) (.seq (rgI c1A) (.seq (rgI c1z) (.seq (.seq (rgI b4Q) (.cond (.t 20) (.seq (rgI c1y) (.ret)) (.skip))) (.seq (rgI c1x) (.seq (.seq (rgI c1w) (.block 0 (.loop c1C))) (.seq (rgI b2g) (.ret)))))))
theorem d0G : fchk Pr (fun _ _ => false) Try.f125 = some (d2S, [.tmp 4], 66) := by kernel_rfl
theorem d0H : Pr.funcs[b4x]? = some Try.f125 := Try.func125
def b8P : List AIns := [opI 4 (.mv (.c (.nil)))]
def b8O : List AIns := [mvI 9 0,
  opI 10 (.len (.t 9)),
  ⟨some 11, none, .e (.mksl 1 4 (.int .u32 0) (.t 10) (.t 10))⟩,
  mvI 5 11]
def b8N : List AIns := [opI 6 (.mv (.c (.int .u64 0)))]
def b8M : List AIns := [mvI 12 0,
  opI 13 (.len (.t 12)),
  opI 14 (.mv (.c (.int .i64 0)))]
def b2l : List AIns := [opI 15 (.bin .lss (.t 14) (.t 13))]
def b8L : List AIns := [mvI 16 14,
  mvI 7 16]
def b8K : List AIns := [mvI 17 0,
  mvI 18 7,
  opI 19 (.idxp 1 (.t 17) (.t 18)),
  opI 20 (.load none (.t 19)),
  opI 21 (.conv .u64 (.t 20)),
  mvI 22 6,
  opI 23 (.bin .sub (.t 21) (.t 22)),
  mvI 8 23]
def b8J : List AIns := [mvI 24 7,
  mvI 25 1,
  opI 26 (.len (.t 25)),
  opI 27 (.bin .lss (.t 24) (.t 26))]
def b8I : List AIns := [mvI 28 8,
  mvI 29 1,
  mvI 30 7,
  opI 31 (.idxp 1 (.t 29) (.t 30)),
  opI 32 (.load none (.t 31)),
  opI 33 (.conv .u64 (.t 32)),
  opI 34 (.bin .sub (.t 28) (.t 33)),
  mvI 8 34]
def b2k : List AIns := [mvI 35 5,
  mvI 36 7,
  mvI 37 8,
  opI 38 (.conv .u32 (.t 37)),
  opI 39 (.idxp 1 (.t 35) (.t 36)),
  ⟨none, none, .e (.store 1 (.t 39) (.t 38))⟩]
def a8M : List AIns := [mvI 40 8,
  opI 41 (.bin .shr (.t 40) (.c (.int .u64 63))),
  mvI 6 41]
def a8L : List AIns := [opI 42 (.bin .add (.t 14) (.c (.int .i64 1))),
  mvI 14 42]
def b2m : ACode := .seq (rgI b2l) (.seq (.cond (.t 15) (.skip) (.exit 0)) (.seq (.block 1 (.seq (rgI b8L) (.seq (rgI b8K) (.seq (.seq (rgI b8J) (.cond (.t 27) (rgI b8I) (.skip))) (.seq (rgI b2k) (rgI a8M)))))) (rgI a8L)))
def a5J : List AIns := [mvI 43 5,
  ⟨some 44, none, .call a0n [(.t 43)]⟩,
  mvI 4 44]
def d0M : ACode := .seq (rgI b8P) (.seq (rgI b8O) (.seq (rgI b8N) (.seq (.seq (rgI b8M) (.block 0 (.loop b2m))) (.seq (rgI a5J) (.ret)))))
theorem c7m : fchk Pr (fun _ _ => false) Try.f136 = some (d0M, [.tmp 4], 45) := by kernel_rfl
theorem c7n : Pr.funcs[a6Z]? = some Try.f136 := Try.func136
end Go.Abs

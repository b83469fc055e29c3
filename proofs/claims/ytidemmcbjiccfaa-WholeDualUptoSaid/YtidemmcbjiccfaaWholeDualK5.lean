/- Part 5 of the proof of WholeDual: Code0, Code1. -/
import Derived.Test.YtidemmcbjiccfaaWholeDualK4
set_option maxRecDepth 100000
noncomputable section
namespace Go.Abs
abbrev mvI (d s : Nat) : AIns := ⟨some d, none, .p (.mv (.t s))⟩
abbrev opI (d : Nat) (o : POp) : AIns := ⟨some d, none, .p o⟩
abbrev rgI (l : List AIns) : ACode := .region l false
open Go.Proofs
def a2d : List AIns := [opI 2 (.mv (.c (.bool false)))]
def a2c : List AIns := [mvI 14 0,
 ⟨some 15, none, .call a5w [(.t 14)]⟩,
 mvI 13 15,
 opI 16 (.ext (.t 13) 0),
 opI 17 (.ext (.t 13) 1),
 opI 18 (.ext (.t 13) 2),
 ⟨some 4, none, .e (.box 2 (.c (.agg [.bool false, .nil])))⟩,
 mvI 3 16,
 ⟨none, none, .e (.store 2 (.t 4) (.t 17))⟩,
 mvI 5 18]
def a2b : List AIns := [mvI 19 0,
 ⟨some 20, none, .call a5t [(.t 19)]⟩,
 opI 21 (.bin .neq (.t 20) (.c (.int .i64 0)))]
def a3G : List AIns := [mvI 22 5,
 opI 23 (.bin .neq (.t 22) (.c (.int .i64 0))),
 mvI 2 23]
def a3F : List AIns := [mvI 24 5,
 opI 25 (.bin .neq (.t 24) (.c (.int .i64 0))),
 mvI 26 25,
 ⟨some 27, some (26, false), .p (.load (some 2) (.t 4))⟩,
 ⟨some 28, some (26, false), .call a3w [(.t 27)]⟩,
 ⟨some 29, some (26, false), .p (.bin .leq (.t 28) (.c (.int .i64 0)))⟩,
 opI 30 (.pick (.t 26) (.c (.bool true)) (.t 29))]
def a8p : List AIns := [opI 2 (.mv (.c (.bool false)))]
def a3E : List AIns := [mvI 32 0,
 mvI 33 3,
 ⟨some 34, none, .call c3x [(.t 32), (.t 33)]⟩,
 mvI 31 34,
 opI 35 (.ext (.t 31) 0),
 opI 36 (.ext (.t 31) 1),
 mvI 6 35,
 mvI 7 36]
def a3D : List AIns := [mvI 37 7,
 opI 38 (.bin .neq (.t 37) (.c (.int .i64 0))),
 mvI 39 38,
 ⟨some 40, some (39, false), .p (.mv (.t 6))⟩,
 ⟨some 41, some (39, false), .p (.len (.t 40))⟩,
 ⟨some 42, some (39, false), .p (.mv (.t 0))⟩,
 ⟨some 43, some (39, false), .p (.len (.t 42))⟩,
 ⟨some 44, some (39, false), .p (.bin .neq (.t 41) (.t 43))⟩,
 opI 45 (.pick (.t 39) (.c (.bool true)) (.t 44))]
def a8o : List AIns := [opI 2 (.mv (.c (.bool false)))]
def a3C : List AIns := [mvI 46 3,
 ⟨some 47, none, .call a5t [(.t 46)]⟩,
 opI 48 (.bin .neq (.t 47) (.c (.int .i64 0)))]
def a3r : List AIns := [opI 2 (.mv (.c (.bool true)))]
def a3q : List AIns := [mvI 50 3,
 ⟨some 51, none, .call a5w [(.t 50)]⟩,
 mvI 49 51,
 opI 52 (.ext (.t 49) 0),
 opI 53 (.ext (.t 49) 1),
 opI 54 (.ext (.t 49) 2),
 ⟨some 9, none, .e (.box 2 (.c (.agg [.bool false, .nil])))⟩,
 mvI 8 52,
 ⟨none, none, .e (.store 2 (.t 9) (.t 53))⟩,
 mvI 10 54]
def a3p : List AIns := [mvI 55 10,
 opI 56 (.bin .neq (.t 55) (.c (.int .i64 0))),
 mvI 57 56,
 ⟨some 58, some (57, false), .p (.mv (.t 8))⟩,
 ⟨some 59, some (57, false), .p (.len (.t 58))⟩,
 ⟨some 60, some (57, false), .p (.mv (.t 0))⟩,
 ⟨some 61, some (57, false), .p (.len (.t 60))⟩,
 ⟨some 62, some (57, false), .p (.bin .neq (.t 59) (.t 61))⟩,
 opI 63 (.pick (.t 57) (.c (.bool true)) (.t 62))]
def a7M : List AIns := [opI 2 (.mv (.c (.bool false)))]
def a3o : List AIns := [opI 11 (.mv (.c (.int .i64 0)))]
def a1P : List AIns := [mvI 64 11,
 mvI 65 0,
 opI 66 (.len (.t 65)),
 opI 67 (.bin .lss (.t 64) (.t 66))]
def a3n : List AIns := [opI 12 (.mv (.c (.int .i64 0)))]
def a1O : List AIns := [mvI 70 12,
 mvI 71 0,
 mvI 72 11,
 opI 73 (.idxp 1 (.t 71) (.t 72)),
 opI 74 (.load none (.t 73)),
 opI 75 (.len (.t 74)),
 opI 76 (.bin .lss (.t 70) (.t 75))]
def a3m : List AIns := [mvI 79 8,
 mvI 80 11,
 opI 81 (.idxp 1 (.t 79) (.t 80)),
 opI 82 (.load none (.t 81)),
 opI 83 (.len (.t 82)),
 mvI 84 0,
 mvI 85 11,
 opI 86 (.idxp 1 (.t 84) (.t 85)),
 opI 87 (.load none (.t 86)),
 opI 88 (.len (.t 87)),
 opI 89 (.bin .neq (.t 83) (.t 88)),
 mvI 90 89,
 ⟨some 91, some (90, false), .p (.mv (.t 8))⟩,
 ⟨some 92, some (90, false), .p (.mv (.t 11))⟩,
 ⟨some 93, some (90, false), .p (.idxp 1 (.t 91) (.t 92))⟩,
 ⟨some 94, some (90, false), .p (.load none (.t 93))⟩,
 ⟨some 95, some (90, false), .p (.mv (.t 12))⟩,
 ⟨some 96, some (90, false), .p (.idxp 2 (.t 94) (.t 95))⟩,
 ⟨some 97, some (90, false), .p (.load (some 2) (.t 96))⟩,
 ⟨some 98, some (90, false), .p (.load (some 2) (.t 4))⟩,
 ⟨some 99, some (90, false), .call a1b [(.t 97), (.t 98)]⟩,
 ⟨some 100, some (90, false), .p (.mv (.t 0))⟩,
 ⟨some 101, some (90, false), .p (.mv (.t 11))⟩,
 ⟨some 102, some (90, false), .p (.idxp 1 (.t 100) (.t 101))⟩,
 ⟨some 103, some (90, false), .p (.load none (.t 102))⟩,
 ⟨some 104, some (90, false), .p (.mv (.t 12))⟩,
 ⟨some 105, some (90, false), .p (.idxp 2 (.t 103) (.t 104))⟩,
 ⟨some 106, some (90, false), .p (.load (some 2) (.t 105))⟩,
 ⟨some 107, some (90, false), .p (.load (some 2) (.t 9))⟩,
 ⟨some 108, some (90, false), .call a1b [(.t 106), (.t 107)]⟩,
 ⟨some 109, some (90, false), .call b5y [(.t 99), (.t 108)]⟩,
 ⟨some 110, some (90, false), .p (.bin .neq (.t 109) (.c (.int .i64 0)))⟩,
 opI 111 (.pick (.t 90) (.c (.bool true)) (.t 110))]
def a7L : List AIns := [opI 2 (.mv (.c (.bool false)))]
def a3l : List AIns := [mvI 77 12,
 opI 78 (.bin .add (.t 77) (.c (.int .i64 1))),
 mvI 12 78]
def a8q : ACode := .seq (.seq (rgI a1O) (.cond (.t 76) (.skip) (.exit 2))) (.seq (.block 3 (.seq (.region a3m true) (.cond (.t 111) (.seq (rgI a7L) (.ret)) (.skip)))) (rgI a3l))
def a3k : List AIns := [mvI 68 11,
 opI 69 (.bin .add (.t 68) (.c (.int .i64 1))),
 mvI 11 69]
def a8r : ACode := .seq (.seq (rgI a1P) (.cond (.t 67) (.skip) (.exit 0))) (.seq (.block 1 (.seq (rgI a3n) (.block 2 (.loop a8q)))) (rgI a3k))
def a3j : List AIns := [opI 2 (.mv (.c (.bool true)))]
def b0D : ACode := .seq (rgI a2d) (.seq (rgI a2c) (.seq (.seq (rgI a2b) (.cond (.t 21) (.seq (rgI a3G) (.ret)) (.skip))) (.seq (.seq (rgI a3F) (.cond (.t 30) (.seq (rgI a8p) (.ret)) (.skip))) (.seq (rgI a3E) (.seq (.seq (rgI a3D) (.cond (.t 45) (.seq (rgI a8o) (.ret)) (.skip))) (.seq (.seq (rgI a3C) (.cond (.t 48) (.seq (rgI a3r) (.ret)) (.skip))) (.seq (rgI a3q) (.seq (.seq (rgI a3p) (.cond (.t 63) (.seq (rgI a7M) (.ret)) (.skip))) (.seq (.seq (rgI a3o) (.block 0 (.loop a8r))) (.seq (rgI a3j) (.ret)))))))))))
theorem a3H : fchk Pr (fun _ _ => false) Try.f3 = some (b0D, [.tmp 2], 112) := by kernel_rfl
theorem a3I : Pr.funcs[a3Z]? = some Try.f3 := Try.func3
def a7C : List AIns := [opI 2 (.mv (.c (.nil))),
 ⟨some 3, none, .e (.box 2 (.c (.agg [.bool false, .nil])))⟩,
 opI 4 (.mv (.c (.int .i64 0)))]
def a7B : List AIns := [mvI 8 0,
 ⟨some 9, none, .call a9T [(.t 8)]⟩,
 mvI 5 9]
def a7A : List AIns := [mvI 10 5,
 opI 11 (.bin .neq (.t 10) (.c (.int .i64 0)))]
def b4C : List AIns := [opI 12 (.bld [.bool false, .nil] []),
 mvI 13 5,
 opI 2 (.mv (.c (.nil))),
 ⟨none, none, .e (.store 2 (.t 3) (.t 12))⟩,
 mvI 4 13]
def b4B : List AIns := [mvI 15 0,
 ⟨some 16, none, .call a9V [(.t 15)]⟩,
 mvI 14 16,
 opI 17 (.ext (.t 14) 0),
 opI 18 (.ext (.t 14) 1),
 ⟨some 7, none, .e (.box 2 (.c (.agg [.bool false, .nil])))⟩,
 mvI 6 17,
 ⟨none, none, .e (.store 2 (.t 7) (.t 18))⟩]
def b4A : List AIns := [mvI 19 6,
 opI 20 (.load (some 2) (.t 7)),
 mvI 2 19,
 ⟨none, none, .e (.store 2 (.t 3) (.t 20))⟩,
 opI 4 (.mv (.c (.int .i64 0)))]
def d2r : ACode := .seq (rgI a7C) (.seq (.seq (rgI a7B) (.seq (rgI a7A) (.cond (.t 11) (.seq (rgI b4C) (.ret)) (.skip)))) (.seq (rgI b4B) (.seq (.region b4A true) (.ret))))
theorem b4D : fchk Pr (fun _ _ => false) Try.f4 = some (d2r, [.tmp 2, .cell 3 (some 2), .tmp 4], 21) := by kernel_rfl
theorem b4E : Pr.funcs[a5w]? = some Try.f4 := Try.func4
def b3p : List AIns := [opI 2 (.mv (.c (.int .i64 0)))]
def b3o : List AIns := [mvI 6 0,
 ⟨some 7, none, .call a9K [(.t 6), (.c (.bool true))]⟩,
 mvI 5 7,
 opI 8 (.ext (.t 5) 0),
 opI 9 (.ext (.t 5) 1),
 ⟨some 3, none, .e (.box 2 (.c (.agg [.nil, .nil])))⟩,
 ⟨none, none, .e (.store 2 (.t 3) (.t 8))⟩,
 mvI 4 9]
def b3n : List AIns := [mvI 10 4,
 mvI 2 10]
def d1k : ACode := .seq (rgI b3p) (.seq (rgI b3o) (.seq (rgI b3n) (.ret)))
theorem c8e : fchk Pr (fun _ _ => false) Try.f5 = some (d1k, [.tmp 2], 11) := by kernel_rfl
theorem c8f : Pr.funcs[a5t]? = some Try.f5 := Try.func5
def b6y : List AIns := [⟨some 1, none, .e (.box 2 (.t 0))⟩,
 opI 2 (.mv (.c (.int .i64 0)))]
def b6x : List AIns := [opI 4 (.fldp (.t 1) 1),
 opI 5 (.load none (.t 4)),
 ⟨some 6, none, .call a0A [(.t 5)]⟩,
 mvI 3 6]
def b6w : List AIns := [mvI 8 3,
 opI 9 (.len (.t 8)),
 opI 10 (.bin .eql (.t 9) (.c (.int .i64 0))),
 mvI 7 10]
def b6v : List AIns := [opI 2 (.mv (.c (.int .i64 0)))]
def b6u : List AIns := [opI 12 (.fldp (.t 1) 0),
 opI 13 (.load none (.t 12)),
 mvI 11 13]
def b6t : List AIns := [opI 2 (.mv (.c (.int .i64 (-1))))]
def b6s : List AIns := [opI 2 (.mv (.c (.int .i64 1)))]
def d3O : ACode := .seq (rgI b6y) (.seq (rgI b6x) (.seq (.block 0 (.seq (rgI b6w) (.cond (.t 7) (.seq (rgI b6v) (.ret)) (.seq (rgI b6u) (.cond (.t 11) (.seq (rgI b6t) (.ret)) (.skip)))))) (.seq (rgI b6s) (.ret))))
theorem d1s : fchk Pr (fun _ _ => false) Try.f6 = some (d3O, [.tmp 2], 14) := by kernel_rfl
theorem d1t : Pr.funcs[a3w]? = some Try.f6 := Try.func6
def c1g : List AIns := [⟨some 2, none, .e (.box 2 (.t 0))⟩,
 ⟨some 3, none, .e (.box 2 (.t 1))⟩,
 opI 4 (.mv (.c (.int .i64 0)))]
def c1f : List AIns := [opI 5 (.load (some 2) (.t 2)),
 opI 6 (.load (some 2) (.t 3)),
 ⟨some 7, none, .call b5x [(.t 5), (.t 6)]⟩,
 ⟨some 8, none, .call a3w [(.t 7)]⟩,
 mvI 4 8]
def d6V : ACode := .seq (rgI c1g) (.seq (rgI c1f) (.ret))
theorem d3U : fchk Pr (fun _ _ => false) Try.f8 = some (d6V, [.tmp 4], 9) := by kernel_rfl
theorem d3V : Pr.funcs[b5y]? = some Try.f8 := Try.func8
def c1e : List AIns := [⟨some 2, none, .e (.box 2 (.t 0))⟩,
 ⟨some 3, none, .e (.box 2 (.t 1))⟩,
 ⟨some 4, none, .e (.box 2 (.c (.agg [.bool false, .nil])))⟩]
def c1d : List AIns := [opI 5 (.fldp (.t 2) 0),
 opI 6 (.load none (.t 5)),
 opI 7 (.fldp (.t 3) 0),
 opI 8 (.load none (.t 7)),
 opI 9 (.beq true (.t 6) (.t 8)),
 opI 10 (.fldp (.t 2) 1),
 opI 11 (.load none (.t 10)),
 opI 12 (.fldp (.t 3) 1),
 opI 13 (.load none (.t 12)),
 ⟨some 14, none, .call a2h [(.t 11), (.t 13)]⟩,
 ⟨some 15, none, .call a1I [(.t 9), (.t 14)]⟩,
 ⟨none, none, .e (.store 2 (.t 4) (.t 15))⟩]
def d6U : ACode := .seq (rgI c1e) (.seq (.region c1d true) (.ret))
theorem d3S : fchk Pr (fun _ _ => false) Try.f9 = some (d6U, [.cell 4 (some 2)], 16) := by kernel_rfl
theorem d3T : Pr.funcs[a1b]? = some Try.f9 := Try.func9
def c3q : List AIns := [opI 2 (.mv (.c (.int .i64 0)))]
def c3p : List AIns := [mvI 6 0,
 ⟨some 7, none, .call d2L [(.t 6), (.c (.bool true))]⟩,
 mvI 5 7,
 opI 8 (.ext (.t 5) 0),
 opI 9 (.ext (.t 5) 1),
 ⟨some 3, none, .e (.box 2 (.c (.agg [.nil, .nil])))⟩,
 ⟨none, none, .e (.store 2 (.t 3) (.t 8))⟩,
 mvI 4 9]
def b1W : List AIns := [mvI 10 4,
 mvI 2 10]
def d7M : ACode := .seq (rgI c3q) (.seq (rgI c3p) (.seq (rgI b1W) (.ret)))
theorem d5l : fchk Pr (fun _ _ => false) Try.f10 = some (d7M, [.tmp 2], 11) := by kernel_rfl
theorem d5m : Pr.funcs[a9T]? = some Try.f10 := Try.func10
def b4z : List AIns := [opI 2 (.mv (.c (.nil))),
 ⟨some 3, none, .e (.box 2 (.c (.agg [.bool false, .nil])))⟩]
def b4y : List AIns := [mvI 17 0,
 ⟨some 18, none, .call c0k [(.t 17)]⟩,
 mvI 16 18,
 opI 19 (.ext (.t 16) 0),
 opI 20 (.ext (.t 16) 1),
 mvI 4 19,
 mvI 5 20]
def b4x : List AIns := [mvI 22 4,
 ⟨some 23, none, .call c0m [(.t 22)]⟩,
 mvI 21 23,
 opI 24 (.ext (.t 21) 0),
 opI 25 (.ext (.t 21) 1),
 ⟨some 6, none, .e (.box 2 (.c (.agg [.bool false, .nil])))⟩,
 ⟨none, none, .e (.store 2 (.t 6) (.t 24))⟩,
 mvI 7 25]
def b4w : List AIns := [mvI 27 4,
 ⟨some 28, none, .call a7I [(.t 27)]⟩,
 mvI 26 28,
 opI 29 (.ext (.t 26) 0),
 opI 30 (.ext (.t 26) 1),
 opI 31 (.ext (.t 26) 2),
 ⟨some 9, none, .e (.box 2 (.c (.agg [.bool false, .nil])))⟩,
 mvI 8 29,
 ⟨none, none, .e (.store 2 (.t 9) (.t 30))⟩,
 mvI 10 31]
def b4v : List AIns := [opI 33 (.load (some 2) (.t 6)),
 opI 34 (.load (some 2) (.t 9)),
 ⟨some 35, none, .call b2x [(.t 33), (.t 34)]⟩,
 mvI 32 35,
 opI 36 (.ext (.t 32) 0),
 opI 37 (.ext (.t 32) 1),
 ⟨some 11, none, .e (.box 2 (.c (.agg [.bool false, .nil])))⟩,
 ⟨none, none, .e (.store 2 (.t 11) (.t 36))⟩,
 mvI 12 37]
def b4u : List AIns := [mvI 39 8,
 mvI 40 0,
 ⟨some 41, none, .call a9S [(.t 39), (.t 40)]⟩,
 mvI 38 41,
 opI 42 (.ext (.t 38) 0),
 opI 43 (.ext (.t 38) 1),
 mvI 13 42,
 mvI 14 43]
def b4t : List AIns := [mvI 44 13,
 opI 45 (.len (.t 44)),
 opI 46 (.mv (.c (.int .i64 0)))]
def a7z : List AIns := [opI 47 (.bin .lss (.t 46) (.t 45))]
def b4s : List AIns := [mvI 48 46,
 mvI 15 48]
def b4r : List AIns := [mvI 49 13,
 mvI 50 15,
 opI 51 (.load (some 2) (.t 11)),
 mvI 52 13,
 mvI 53 15,
 opI 54 (.idxp 1 (.t 52) (.t 53)),
 opI 55 (.load none (.t 54)),
 ⟨some 56, none, .call b5D [(.t 51), (.t 55)]⟩,
 opI 57 (.idxp 1 (.t 49) (.t 50)),
 ⟨none, none, .e (.store 1 (.t 57) (.t 56))⟩]
def b2o : List AIns := [opI 58 (.bin .add (.t 46) (.c (.int .i64 1))),
 mvI 46 58]
def c8C : ACode := .seq (rgI a7z) (.seq (.cond (.t 47) (.skip) (.exit 0)) (.seq (.block 1 (.seq (rgI b4s) (.region b4r true))) (rgI b2o)))
def b2n : List AIns := [mvI 59 13,
 opI 60 (.load (some 2) (.t 6)),
 mvI 2 59,
 ⟨none, none, .e (.store 2 (.t 3) (.t 60))⟩]
def d2q : ACode := .seq (rgI b4z) (.seq (rgI b4y) (.seq (rgI b4x) (.seq (rgI b4w) (.seq (rgI b4v) (.seq (rgI b4u) (.seq (.seq (rgI b4t) (.block 0 (.loop c8C))) (.seq (.region b2n true) (.ret))))))))
theorem c8B : fchk Pr (fun _ _ => false) Try.f11 = some (d2q, [.tmp 2, .cell 3 (some 2)], 61) := by kernel_rfl
theorem c8D : Pr.funcs[a9V]? = some Try.f11 := Try.func11
def b3m : List AIns := [⟨some 4, none, .e (.box 2 (.c (.agg [.nil, .nil])))⟩,
 opI 5 (.mv (.c (.int .i64 0)))]
def b3l : List AIns := [mvI 9 0,
 mvI 10 1,
 ⟨some 11, none, .call a9J [(.t 9), (.t 10)]⟩,
 mvI 6 11]
def a6Z : List AIns := [mvI 12 6,
 opI 13 (.bin .neq (.t 12) (.c (.int .i64 0)))]
def b3k : List AIns := [opI 14 (.bld [.nil, .nil] []),
 mvI 15 6,
 ⟨none, none, .e (.store 2 (.t 4) (.t 14))⟩,
 mvI 5 15]
def b3j : List AIns := [mvI 17 0,
 ⟨some 18, none, .call b2y [(.t 17)]⟩,
 mvI 16 18,
 opI 19 (.ext (.t 16) 0),
 opI 20 (.ext (.t 16) 1),
 ⟨some 7, none, .e (.box 2 (.c (.agg [.nil, .nil])))⟩,
 ⟨none, none, .e (.store 2 (.t 7) (.t 19))⟩,
 mvI 8 20]
def a6Y : List AIns := [mvI 21 8,
 opI 22 (.un .not (.t 21))]
def b3i : List AIns := [opI 23 (.bld [.nil, .nil] []),
 ⟨none, none, .e (.store 2 (.t 4) (.t 23))⟩,
 opI 5 (.mv (.c (.int .i64 50)))]
def b3h : List AIns := [opI 24 (.load (some 2) (.t 7)),
 ⟨none, none, .e (.store 2 (.t 4) (.t 24))⟩,
 opI 5 (.mv (.c (.int .i64 0)))]
def d1j : ACode := .seq (rgI b3m) (.seq (rgI b3l) (.seq (.seq (rgI a6Z) (.cond (.t 13) (.seq (rgI b3k) (.ret)) (.skip))) (.seq (rgI b3j) (.seq (.seq (rgI a6Y) (.cond (.t 22) (.seq (rgI b3i) (.ret)) (.skip))) (.seq (rgI b3h) (.ret))))))
theorem c8c : fchk Pr (fun _ _ => false) Try.f12 = some (d1j, [.cell 4 (some 2), .tmp 5], 25) := by kernel_rfl
theorem c8d : Pr.funcs[a9K]? = some Try.f12 := Try.func12
def b6Y : List AIns := [opI 2 (.mv (.c (.nil)))]
def b6X : List AIns := [mvI 6 0,
 opI 7 (.len (.t 6)),
 mvI 3 7]
def a8J : List AIns := [mvI 8 3,
 opI 9 (.bin .gtr (.t 8) (.c (.int .i64 0))),
 mvI 10 9,
 ⟨some 11, some (10, true), .p (.mv (.t 0))⟩,
 ⟨some 12, some (10, true), .p (.mv (.t 3))⟩,
 ⟨some 13, some (10, true), .p (.bin .sub (.t 12) (.c (.int .i64 1)))⟩,
 ⟨some 14, some (10, true), .p (.idxp 1 (.t 11) (.t 13))⟩,
 ⟨some 15, some (10, true), .p (.load none (.t 14))⟩,
 ⟨some 16, some (10, true), .p (.bin .eql (.t 15) (.c (.int .u32 0)))⟩,
 opI 17 (.pick (.t 10) (.t 16) (.c (.bool false)))]
def b6W : List AIns := [mvI 18 3,
 opI 19 (.bin .sub (.t 18) (.c (.int .i64 1))),
 mvI 3 19]
def b6Z : ACode := .seq (.seq (rgI a8J) (.cond (.t 17) (.skip) (.exit 0))) (.block 1 (rgI b6W))
def a5d : List AIns := [opI 4 (.mv (.c (.nil)))]
def a5c : List AIns := [opI 5 (.mv (.c (.int .i64 0)))]
def a8I : List AIns := [mvI 20 5,
 mvI 21 3,
 opI 22 (.bin .lss (.t 20) (.t 21))]
def b6V : List AIns := [mvI 25 4,
 mvI 26 0,
 mvI 27 5,
 opI 28 (.idxp 1 (.t 26) (.t 27)),
 opI 29 (.load none (.t 28)),
 ⟨some 30, none, .e (.bsl 1 [(.t 29)])⟩,
 ⟨some 31, none, .e (.app 1 4 false (.t 25) (.t 30))⟩,
 mvI 4 31]
def b6U : List AIns := [mvI 23 5,
 opI 24 (.bin .add (.t 23) (.c (.int .i64 1))),
 mvI 5 24]
def a5e : ACode := .seq (.seq (rgI a8I) (.cond (.t 22) (.skip) (.exit 2))) (.seq (.block 3 (rgI b6V)) (rgI b6U))
def a3L : List AIns := [mvI 32 4,
 mvI 2 32]
def d4n : ACode := .seq (rgI b6Y) (.seq (rgI b6X) (.seq (.block 0 (.loop b6Z)) (.seq (rgI a5d) (.seq (.seq (rgI a5c) (.block 2 (.loop a5e))) (.seq (rgI a3L) (.ret))))))
theorem d1D : fchk Pr (fun _ _ => false) Try.f13 = some (d4n, [.tmp 2], 33) := by kernel_rfl
theorem d1E : Pr.funcs[a0A]? = some Try.f13 := Try.func13
def c3t : List AIns := [⟨some 1, none, .e (.box 1 (.t 0))⟩,
 opI 2 (.mv (.c (.lit .nilFunc)))]
def c3s : List AIns := [opI 3 (.mkfn a0w [(.t 1)]),
 mvI 2 3]
def d8c : ACode := .seq (rgI c3t) (.seq (rgI c3s) (.ret))
theorem d5G : fchk Pr (fun _ _ => false) Try.f14 = some (d8c, [.tmp 2], 4) := by kernel_rfl
theorem d5H : Pr.funcs[a6m]? = some Try.f14 := Try.func14
def d0q : List AIns := [⟨some 4, none, .e (.box 2 (.c (.agg [.bool false, .nil])))⟩,
 opI 5 (.mv (.c (.int .i64 0)))]
def d0p : List AIns := [mvI 6 0,
 opI 7 (.len (.t 6)),
 mvI 8 1,
 opI 9 (.len (.t 8)),
 opI 10 (.bin .neq (.t 7) (.t 9))]
def e1b : List AIns := [opI 11 (.bld [.bool false, .nil] []),
 ⟨none, none, .e (.store 2 (.t 4) (.t 11))⟩,
 opI 5 (.mv (.c (.int .i64 8)))]
def d0o : List AIns := [mvI 12 0,
 mvI 13 1,
 ⟨some 14, none, .call b8S [(.t 12), (.t 13)]⟩,
 ⟨none, none, .e (.store 2 (.t 4) (.t 14))⟩,
 opI 5 (.mv (.c (.int .i64 0)))]
def e3g : ACode := .seq (rgI d0q) (.seq (.seq (rgI d0p) (.cond (.t 10) (.seq (rgI e1b) (.ret)) (.skip))) (.seq (rgI d0o) (.ret)))
theorem e1c : fchk Pr (fun _ _ => false) Try.f15 = some (e3g, [.cell 4 (some 2), .tmp 5], 15) := by kernel_rfl
theorem e1d : Pr.funcs[b8T]? = some Try.f15 := Try.func15
def c1a : List AIns := [⟨some 2, none, .e (.box 2 (.t 0))⟩,
 ⟨some 3, none, .e (.box 2 (.t 1))⟩,
 ⟨some 4, none, .e (.box 2 (.c (.agg [.bool false, .nil])))⟩]
def c0Z : List AIns := [opI 5 (.load (some 2) (.t 2)),
 opI 6 (.load (some 2) (.t 3)),
 ⟨some 7, none, .call a4k [(.t 6)]⟩,
 ⟨some 8, none, .call a4l [(.t 5), (.t 7)]⟩,
 ⟨none, none, .e (.store 2 (.t 4) (.t 8))⟩]
def d6Q : ACode := .seq (rgI c1a) (.seq (.region c0Z true) (.ret))
theorem d3M : fchk Pr (fun _ _ => false) Try.f16 = some (d6Q, [.cell 4 (some 2)], 9) := by kernel_rfl
theorem d3N : Pr.funcs[b5x]? = some Try.f16 := Try.func16
def b6r : List AIns := [⟨some 4, none, .e (.box 2 (.c (.agg [.bool false, .nil])))⟩]
def b6q : List AIns := [mvI 6 1,
 ⟨some 7, none, .call a0A [(.t 6)]⟩,
 mvI 5 7]
def a8F : List AIns := [mvI 8 0,
 mvI 9 8,
 ⟨some 10, some (9, true), .p (.mv (.t 5))⟩,
 ⟨some 11, some (9, true), .p (.len (.t 10))⟩,
 ⟨some 12, some (9, true), .p (.bin .gtr (.t 11) (.c (.int .i64 0)))⟩,
 opI 13 (.pick (.t 9) (.t 12) (.c (.bool false))),
 mvI 14 5,
 opI 15 (.bld [.bool false, .nil] [(0, 1, (.t 13)), (1, 1, (.t 14))]),
 ⟨none, none, .e (.store 2 (.t 4) (.t 15))⟩]
def d3L : ACode := .seq (rgI b6r) (.seq (rgI b6q) (.seq (rgI a8F) (.ret)))
theorem d1q : fchk Pr (fun _ _ => false) Try.f17 = some (d3L, [.cell 4 (some 2)], 16) := by kernel_rfl
theorem d1r : Pr.funcs[a1I]? = some Try.f17 := Try.func17
def c1M : List AIns := [opI 4 (.mv (.c (.nil)))]
def c1L : List AIns := [mvI 9 0,
 opI 10 (.len (.t 9)),
 mvI 11 1,
 opI 12 (.len (.t 11)),
 opI 13 (.bin .add (.t 10) (.t 12)),
 ⟨some 14, none, .e (.mksl 1 4 (.int .u32 0) (.t 13) (.t 13))⟩,
 mvI 5 14]
def c1K : List AIns := [opI 6 (.mv (.c (.int .i64 0)))]
def b1b : List AIns := [mvI 15 6,
 mvI 16 0,
 opI 17 (.len (.t 16)),
 opI 18 (.bin .lss (.t 15) (.t 17))]
def c1J : List AIns := [opI 7 (.mv (.c (.int .u64 0)))]
def c1I : List AIns := [opI 8 (.mv (.c (.int .i64 0)))]
def b1a : List AIns := [mvI 21 8,
 mvI 22 1,
 opI 23 (.len (.t 22)),
 opI 24 (.bin .lss (.t 21) (.t 23))]
def c1H : List AIns := [mvI 27 7,
 mvI 28 5,
 mvI 29 6,
 mvI 30 8,
 opI 31 (.bin .add (.t 29) (.t 30)),
 opI 32 (.idxp 1 (.t 28) (.t 31)),
 opI 33 (.load none (.t 32)),
 opI 34 (.conv .u64 (.t 33)),
 opI 35 (.bin .add (.t 27) (.t 34)),
 mvI 36 0,
 mvI 37 6,
 opI 38 (.idxp 1 (.t 36) (.t 37)),
 opI 39 (.load none (.t 38)),
 opI 40 (.conv .u64 (.t 39)),
 mvI 41 1,
 mvI 42 8,
 opI 43 (.idxp 1 (.t 41) (.t 42)),
 opI 44 (.load none (.t 43)),
 opI 45 (.conv .u64 (.t 44)),
 opI 46 (.bin .mul (.t 40) (.t 45)),
 opI 47 (.bin .add (.t 35) (.t 46)),
 mvI 7 47]
def c1G : List AIns := [mvI 48 5,
 mvI 49 6,
 mvI 50 8,
 opI 51 (.bin .add (.t 49) (.t 50)),
 mvI 52 7,
 opI 53 (.bin .rem (.t 52) (.c (.int .u64 4294967296))),
 opI 54 (.conv .u32 (.t 53)),
 opI 55 (.idxp 1 (.t 48) (.t 51)),
 ⟨none, none, .e (.store 1 (.t 55) (.t 54))⟩]
def c1F : List AIns := [mvI 56 7,
 opI 57 (.bin .quo (.t 56) (.c (.int .u64 4294967296))),
 mvI 7 57]
def b7c : List AIns := [mvI 25 8,
 opI 26 (.bin .add (.t 25) (.c (.int .i64 1))),
 mvI 8 26]
def c1N : ACode := .seq (.seq (rgI b1a) (.cond (.t 24) (.skip) (.exit 2))) (.seq (.block 3 (.seq (.region c1H true) (.seq (rgI c1G) (rgI c1F)))) (rgI b7c))
def b7b : List AIns := [mvI 58 5,
 mvI 59 6,
 mvI 60 1,
 opI 61 (.len (.t 60)),
 opI 62 (.bin .add (.t 59) (.t 61)),
 mvI 63 7,
 opI 64 (.conv .u32 (.t 63)),
 opI 65 (.idxp 1 (.t 58) (.t 62)),
 ⟨none, none, .e (.store 1 (.t 65) (.t 64))⟩]
def b7a : List AIns := [mvI 19 6,
 opI 20 (.bin .add (.t 19) (.c (.int .i64 1))),
 mvI 6 20]
def c1O : ACode := .seq (.seq (rgI b1b) (.cond (.t 18) (.skip) (.exit 0))) (.seq (.block 1 (.seq (rgI c1J) (.seq (.seq (rgI c1I) (.block 2 (.loop c1N))) (rgI b7b)))) (rgI b7a))
def a8K : List AIns := [mvI 66 5,
 ⟨some 67, none, .call a0A [(.t 66)]⟩,
 mvI 4 67]
def d7a : ACode := .seq (rgI c1M) (.seq (rgI c1L) (.seq (.seq (rgI c1K) (.block 0 (.loop c1O))) (.seq (rgI a8K) (.ret))))
theorem d4o : fchk Pr (fun _ _ => false) Try.f18 = some (d7a, [.tmp 4], 68) := by kernel_rfl
theorem d4p : Pr.funcs[a2h]? = some Try.f18 := Try.func18
def d5h : List AIns := [⟨some 4, none, .e (.box 2 (.c (.agg [.nil, .nil])))⟩,
 opI 5 (.mv (.c (.int .i64 0)))]
def d5g : List AIns := [mvI 9 0,
 mvI 10 1,
 ⟨some 11, none, .call a6Q [(.t 9), (.t 10)]⟩,
 mvI 6 11]
def c6K : List AIns := [mvI 12 6,
 opI 13 (.bin .neq (.t 12) (.c (.int .i64 0)))]
def d5f : List AIns := [opI 14 (.bld [.nil, .nil] []),
 mvI 15 6,
 ⟨none, none, .e (.store 2 (.t 4) (.t 14))⟩,
 mvI 5 15]
def d5e : List AIns := [mvI 17 0,
 ⟨some 18, none, .call b5E [(.t 17)]⟩,
 mvI 16 18,
 opI 19 (.ext (.t 16) 0),
 opI 20 (.ext (.t 16) 1),
 ⟨some 7, none, .e (.box 2 (.c (.agg [.nil, .nil])))⟩,
 ⟨none, none, .e (.store 2 (.t 7) (.t 19))⟩,
 mvI 8 20]
def c6J : List AIns := [mvI 21 8,
 opI 22 (.un .not (.t 21))]
def d5d : List AIns := [opI 23 (.bld [.nil, .nil] []),
 ⟨none, none, .e (.store 2 (.t 4) (.t 23))⟩,
 opI 5 (.mv (.c (.int .i64 50)))]
def d5c : List AIns := [opI 24 (.load (some 2) (.t 7)),
 ⟨none, none, .e (.store 2 (.t 4) (.t 24))⟩,
 opI 5 (.mv (.c (.int .i64 0)))]
def e6v : ACode := .seq (rgI d5h) (.seq (.seq (rgI d5g) (.seq (rgI c6K) (.cond (.t 13) (.seq (rgI d5f) (.ret)) (.skip)))) (.seq (rgI d5e) (.seq (.seq (rgI c6J) (.cond (.t 22) (.seq (rgI d5d) (.ret)) (.skip))) (.seq (rgI d5c) (.ret)))))
theorem e3J : fchk Pr (fun _ _ => false) Try.f19 = some (e6v, [.cell 4 (some 2), .tmp 5], 25) := by kernel_rfl
theorem e3K : Pr.funcs[d2L]? = some Try.f19 := Try.func19
def c6o : List AIns := [⟨some 1, none, .e (.box 1 (.t 0))⟩,
 opI 2 (.mv (.c (.nil))),
 opI 3 (.mv (.c (.int .i64 0)))]
def c6n : List AIns := [opI 8 (.load none (.t 1)),
 ⟨some 9, none, .call a2G [(.t 8)]⟩,
 mvI 7 9,
 opI 10 (.ext (.t 7) 0),
 opI 11 (.ext (.t 7) 1),
 opI 12 (.ext (.t 7) 2),
 mvI 4 10,
 mvI 5 11,
 mvI 6 12]
def c6m : List AIns := [mvI 13 6,
 opI 14 (.bin .neq (.t 13) (.c (.int .i64 0)))]
def d7y : List AIns := [mvI 15 6,
 opI 2 (.mv (.c (.nil))),
 mvI 3 15]
def c6l : List AIns := [opI 16 (.load none (.t 1)),
 opI 17 (.mkfn a6P [(.t 1)]),
 ⟨some 18, none, .call a2W [(.t 16), (.t 17)]⟩,
 mvI 2 18,
 opI 3 (.mv (.c (.int .i64 0)))]
def e1a : ACode := .seq (rgI c6o) (.seq (.seq (rgI c6n) (.seq (rgI c6m) (.cond (.t 14) (.seq (rgI d7y) (.ret)) (.skip)))) (.seq (rgI c6l) (.ret)))
theorem d7z : fchk Pr (fun _ _ => false) Try.f20 = some (e1a, [.tmp 2, .tmp 3], 19) := by kernel_rfl
theorem d7A : Pr.funcs[c0k]? = some Try.f20 := Try.func20
def c7s : List AIns := [⟨some 2, none, .e (.box 2 (.c (.agg [.bool false, .nil])))⟩,
 opI 3 (.mv (.c (.int .i64 0)))]
def c7r : List AIns := [mvI 7 0,
 ⟨some 8, none, .call a5v [(.t 7)]⟩,
 mvI 6 8,
 opI 9 (.ext (.t 6) 0),
 opI 10 (.ext (.t 6) 1),
 mvI 4 9,
 mvI 5 10]
def c7q : List AIns := [mvI 11 5,
 opI 12 (.bin .neq (.t 11) (.c (.int .i64 0)))]
def d7Y : List AIns := [opI 13 (.bld [.bool false, .nil] []),
 mvI 14 5,
 ⟨none, none, .e (.store 2 (.t 2) (.t 13))⟩,
 mvI 3 14]
def c7p : List AIns := [mvI 15 0,
 ⟨some 16, none, .call a8m [(.t 15)]⟩,
 ⟨none, none, .e (.store 2 (.t 2) (.t 16))⟩,
 opI 3 (.mv (.c (.int .i64 0)))]
def e1s : ACode := .seq (rgI c7s) (.seq (.seq (rgI c7r) (.seq (rgI c7q) (.cond (.t 12) (.seq (rgI d7Y) (.ret)) (.skip)))) (.seq (rgI c7p) (.ret)))
theorem d7Z : fchk Pr (fun _ _ => false) Try.f21 = some (e1s, [.cell 2 (some 2), .tmp 3], 17) := by kernel_rfl
theorem d8a : Pr.funcs[c0m]? = some Try.f21 := Try.func21
def b2m : List AIns := [opI 2 (.mv (.c (.nil))),
 ⟨some 3, none, .e (.box 2 (.c (.agg [.bool false, .nil])))⟩,
 opI 4 (.mv (.c (.int .i64 0)))]
def b2l : List AIns := [mvI 14 0,
 ⟨some 15, none, .call a5v [(.t 14)]⟩,
 mvI 13 15,
 opI 16 (.ext (.t 13) 0),
 opI 17 (.ext (.t 13) 1),
 mvI 5 16,
 mvI 6 17]
def b2k : List AIns := [mvI 18 6,
 opI 19 (.bin .neq (.t 18) (.c (.int .i64 0)))]
def c7j : List AIns := [opI 20 (.bld [.bool false, .nil] []),
 mvI 21 6,
 opI 2 (.mv (.c (.nil))),
 ⟨none, none, .e (.store 2 (.t 3) (.t 20))⟩,
 mvI 4 21]
def b2j : List AIns := [mvI 22 0,
 ⟨some 23, none, .call a8m [(.t 22)]⟩,
 ⟨some 7, none, .e (.box 2 (.c (.agg [.bool false, .nil])))⟩,
 ⟨none, none, .e (.store 2 (.t 7) (.t 23))⟩]
def b2i : List AIns := [opI 24 (.load (some 2) (.t 7)),
 ⟨some 25, none, .call a1L [(.t 24)]⟩,
 opI 26 (.bin .eql (.t 25) (.c (.int .i64 0)))]
def c7i : List AIns := [opI 27 (.bld [.bool false, .nil] []),
 opI 2 (.mv (.c (.nil))),
 ⟨none, none, .e (.store 2 (.t 3) (.t 27))⟩,
 opI 4 (.mv (.c (.int .i64 50)))]
def b2h : List AIns := [opI 8 (.mv (.c (.nil)))]
def b2g : List AIns := [mvI 28 5,
 opI 29 (.mv (.c (.int .i64 0)))]
def a6h : List AIns := [opI 30 (.bin .lss (.t 29) (.t 28))]
def b0B : List AIns := [mvI 31 29,
 mvI 9 31]
def b0A : List AIns := [mvI 32 5,
 opI 33 (.mv (.c (.int .i64 0)))]
def a4V : List AIns := [opI 34 (.bin .lss (.t 33) (.t 32))]
def b0z : List AIns := [mvI 35 33,
 mvI 10 35]
def b0y : List AIns := [mvI 36 8,
 mvI 37 0,
 mvI 38 10,
 mvI 39 9,
 ⟨some 40, none, .call a6l [(.t 37), (.t 38), (.t 39)]⟩,
 ⟨some 41, none, .e (.bsl 2 [(.t 40)])⟩,
 ⟨some 42, none, .e (.app 2 32 false (.t 36) (.t 41))⟩,
 mvI 8 42]
def b0x : List AIns := [opI 43 (.bin .add (.t 33) (.c (.int .i64 1))),
 mvI 33 43]
def c7m : ACode := .seq (rgI a4V) (.seq (.cond (.t 34) (.skip) (.exit 2)) (.seq (.block 3 (.seq (rgI b0z) (rgI b0y))) (rgI b0x)))
def b0w : List AIns := [opI 44 (.bin .add (.t 29) (.c (.int .i64 1))),
 mvI 29 44]
def c7n : ACode := .seq (rgI a6h) (.seq (.cond (.t 30) (.skip) (.exit 0)) (.seq (.block 1 (.seq (rgI b0B) (.seq (rgI b0A) (.block 2 (.loop c7m))))) (rgI b0w)))
def b0v : List AIns := [mvI 46 8,
 opI 47 (.load (some 2) (.t 7)),
 ⟨some 48, none, .call a6R [(.t 46), (.t 47)]⟩,
 mvI 45 48,
 opI 49 (.ext (.t 45) 0),
 opI 50 (.ext (.t 45) 1),
 mvI 8 49,
 ⟨none, none, .e (.store 2 (.t 7) (.t 50))⟩]
def b0u : List AIns := [opI 11 (.mv (.c (.nil)))]
def b0t : List AIns := [mvI 51 5,
 opI 52 (.mv (.c (.int .i64 0)))]
def a4U : List AIns := [opI 53 (.bin .lss (.t 52) (.t 51))]
def b0s : List AIns := [mvI 54 52,
 mvI 12 54]
def b0r : List AIns := [mvI 55 11,
 mvI 56 8,
 mvI 57 12,
 mvI 58 5,
 opI 59 (.bin .mul (.t 57) (.t 58)),
 mvI 60 12,
 opI 61 (.bin .add (.t 60) (.c (.int .i64 1))),
 mvI 62 5,
 opI 63 (.bin .mul (.t 61) (.t 62)),
 mvI 64 12,
 opI 65 (.bin .add (.t 64) (.c (.int .i64 1))),
 mvI 66 5,
 opI 67 (.bin .mul (.t 65) (.t 66)),
 opI 68 (.slc 2 (.t 56) (some (.t 59)) (some (.t 63)) (some (.t 67))),
 ⟨some 69, none, .e (.bsl 1 [(.t 68)])⟩,
 ⟨some 70, none, .e (.app 1 24 false (.t 55) (.t 69))⟩,
 mvI 11 70]
def b0q : List AIns := [opI 71 (.bin .add (.t 52) (.c (.int .i64 1))),
 mvI 52 71]
def c7l : ACode := .seq (rgI a4U) (.seq (.cond (.t 53) (.skip) (.exit 4)) (.seq (.block 5 (.seq (rgI b0s) (rgI b0r))) (rgI b0q)))
def b0p : List AIns := [mvI 72 11,
 opI 73 (.load (some 2) (.t 7)),
 mvI 2 72,
 ⟨none, none, .e (.store 2 (.t 3) (.t 73))⟩,
 opI 4 (.mv (.c (.int .i64 0)))]
def c8A : ACode := .seq (rgI b2m) (.seq (rgI b2l) (.seq (.seq (rgI b2k) (.cond (.t 19) (.seq (rgI c7j) (.ret)) (.skip))) (.seq (rgI b2j) (.seq (.seq (rgI b2i) (.cond (.t 26) (.seq (rgI c7i) (.ret)) (.skip))) (.seq (rgI b2h) (.seq (.seq (rgI b2g) (.block 0 (.loop c7n))) (.seq (rgI b0v) (.seq (rgI b0u) (.seq (.seq (rgI b0t) (.block 4 (.loop c7l))) (.seq (.region b0p true) (.ret)))))))))))
theorem c7k : fchk Pr (fun _ _ => false) Try.f22 = some (c8A, [.tmp 2, .cell 3 (some 2), .tmp 4], 74) := by kernel_rfl
theorem c7o : Pr.funcs[a7I]? = some Try.f22 := Try.func22
def b5Q : List AIns := [⟨some 2, none, .e (.box 2 (.t 0))⟩,
 ⟨some 3, none, .e (.box 2 (.t 1))⟩,
 ⟨some 4, none, .e (.box 2 (.c (.agg [.bool false, .nil])))⟩,
 opI 5 (.mv (.c (.int .i64 0)))]
def b5P : List AIns := [opI 10 (.load (some 2) (.t 2)),
 opI 11 (.load (some 2) (.t 3)),
 ⟨some 12, none, .call a1Z [(.t 10), (.t 11)]⟩,
 mvI 9 12,
 opI 13 (.ext (.t 9) 0),
 opI 14 (.ext (.t 9) 1),
 opI 15 (.ext (.t 9) 2),
 ⟨some 6, none, .e (.box 2 (.c (.agg [.bool false, .nil])))⟩,
 ⟨some 7, none, .e (.box 2 (.c (.agg [.bool false, .nil])))⟩,
 ⟨none, none, .e (.store 2 (.t 6) (.t 13))⟩,
 ⟨none, none, .e (.store 2 (.t 7) (.t 14))⟩,
 mvI 8 15]
def b5O : List AIns := [mvI 17 8,
 opI 18 (.bin .neq (.t 17) (.c (.int .i64 0))),
 mvI 16 18]
def d0O : List AIns := [opI 19 (.bld [.bool false, .nil] []),
 mvI 20 8,
 ⟨none, none, .e (.store 2 (.t 4) (.t 19))⟩,
 mvI 5 20]
def b5N : List AIns := [opI 22 (.load (some 2) (.t 7)),
 ⟨some 23, none, .call a1L [(.t 22)]⟩,
 opI 24 (.bin .neq (.t 23) (.c (.int .i64 0))),
 mvI 21 24]
def d0N : List AIns := [opI 25 (.bld [.bool false, .nil] []),
 ⟨none, none, .e (.store 2 (.t 4) (.t 25))⟩,
 opI 5 (.mv (.c (.int .i64 20)))]
def b5M : List AIns := [opI 26 (.load (some 2) (.t 6)),
 ⟨none, none, .e (.store 2 (.t 4) (.t 26))⟩,
 opI 5 (.mv (.c (.int .i64 0)))]
def d2T : ACode := .seq (rgI b5Q) (.seq (rgI b5P) (.seq (.block 0 (.seq (rgI b5O) (.cond (.t 16) (.seq (rgI d0O) (.ret)) (.seq (rgI b5N) (.cond (.t 21) (.seq (rgI d0N) (.ret)) (.skip)))))) (.seq (rgI b5M) (.ret))))
theorem d0P : fchk Pr (fun _ _ => false) Try.f23 = some (d2T, [.cell 4 (some 2), .tmp 5], 27) := by kernel_rfl
theorem d0Q : Pr.funcs[b2x]? = some Try.f23 := Try.func23
def b3Y : List AIns := [⟨some 3, none, .e (.box 1 (.t 1))⟩,
 opI 4 (.mv (.c (.nil))),
 opI 5 (.mv (.c (.int .i64 0)))]
def b3X : List AIns := [mvI 13 0,
 ⟨some 14, none, .call a2G [(.t 13)]⟩,
 mvI 12 14,
 opI 15 (.ext (.t 12) 0),
 opI 16 (.ext (.t 12) 1),
 opI 17 (.ext (.t 12) 2),
 mvI 6 15,
 mvI 7 16,
 mvI 8 17]
def b3W : List AIns := [opI 19 (.load none (.t 3)),
 ⟨some 20, none, .call a2G [(.t 19)]⟩,
 mvI 18 20,
 opI 21 (.ext (.t 18) 0),
 opI 22 (.ext (.t 18) 1),
 opI 23 (.ext (.t 18) 2),
 mvI 9 21,
 mvI 10 22,
 mvI 11 23]
def b3V : List AIns := [mvI 24 8,
 opI 25 (.bin .neq (.t 24) (.c (.int .i64 0))),
 mvI 26 25,
 ⟨some 27, some (26, false), .p (.mv (.t 11))⟩,
 ⟨some 28, some (26, false), .p (.bin .neq (.t 27) (.c (.int .i64 0)))⟩,
 opI 29 (.pick (.t 26) (.c (.bool true)) (.t 28)),
 mvI 30 29,
 ⟨some 31, some (30, false), .p (.mv (.t 6))⟩,
 ⟨some 32, some (30, false), .p (.bin .gtr (.t 31) (.c (.int .i64 0)))⟩,
 ⟨some 33, some (30, false), .p (.mv (.t 32))⟩,
 ⟨some 34, some (33, true), .p (.mv (.t 7))⟩,
 ⟨some 35, some (33, true), .p (.mv (.t 9))⟩,
 ⟨some 36, some (33, true), .p (.bin .neq (.t 34) (.t 35))⟩,
 ⟨some 37, some (30, false), .p (.pick (.t 33) (.t 36) (.c (.bool false)))⟩,
 opI 38 (.pick (.t 30) (.c (.bool true)) (.t 37))]
def c8s : List AIns := [opI 4 (.mv (.c (.nil))),
 opI 5 (.mv (.c (.int .i64 8)))]
def b3U : List AIns := [mvI 39 0,
 opI 40 (.mkfn a3X [(.t 3)]),
 ⟨some 41, none, .call a2W [(.t 39), (.t 40)]⟩,
 mvI 4 41,
 opI 5 (.mv (.c (.int .i64 0)))]
def d1T : ACode := .seq (rgI b3Y) (.seq (rgI b3X) (.seq (rgI b3W) (.seq (.seq (rgI b3V) (.cond (.t 38) (.seq (rgI c8s) (.ret)) (.skip))) (.seq (rgI b3U) (.ret)))))
theorem c8t : fchk Pr (fun _ _ => false) Try.f24 = some (d1T, [.tmp 4, .tmp 5], 42) := by kernel_rfl
theorem c8u : Pr.funcs[a9S]? = some Try.f24 := Try.func24
def c2X : List AIns := [⟨some 2, none, .e (.box 2 (.t 0))⟩,
 opI 4 (.mv (.c (.nil)))]
def c2W : List AIns := [mvI 5 1,
 opI 6 (.mkfn a5u [(.t 2)]),
 ⟨some 7, none, .call a7H [(.t 5), (.t 6)]⟩,
 mvI 4 7]
def d7w : ACode := .seq (rgI c2X) (.seq (rgI c2W) (.ret))
theorem d4P : fchk Pr (fun _ _ => false) Try.f25 = some (d7w, [.tmp 4], 8) := by kernel_rfl
theorem d4Q : Pr.funcs[b5D]? = some Try.f25 := Try.func25
def b3g : List AIns := [opI 4 (.mv (.c (.int .i64 0)))]
def a6X : List AIns := [mvI 8 0,
 opI 9 (.len (.t 8)),
 opI 10 (.bin .gtr (.t 9) (.c (.int .i64 12)))]
def b3f : List AIns := [opI 4 (.mv (.c (.int .i64 40)))]
def b3e : List AIns := [opI 5 (.mv (.c (.int .i64 0)))]
def a6W : List AIns := [mvI 11 5,
 mvI 12 0,
 opI 13 (.len (.t 12)),
 opI 14 (.bin .lss (.t 11) (.t 13))]
def a6V : List AIns := [mvI 17 0,
 mvI 18 5,
 opI 19 (.idxp 1 (.t 17) (.t 18)),
 opI 20 (.load none (.t 19)),
 opI 21 (.len (.t 20)),
 opI 22 (.bin .gtr (.t 21) (.c (.int .i64 12)))]
def b3d : List AIns := [opI 4 (.mv (.c (.int .i64 40)))]
def b3c : List AIns := [opI 6 (.mv (.c (.int .i64 0)))]
def a6U : List AIns := [mvI 23 6,
 mvI 24 0,
 mvI 25 5,
 opI 26 (.idxp 1 (.t 24) (.t 25)),
 opI 27 (.load none (.t 26)),
 opI 28 (.len (.t 27)),
 opI 29 (.bin .lss (.t 23) (.t 28))]
def a6T : List AIns := [mvI 32 1,
 mvI 33 32,
 ⟨some 34, some (33, true), .p (.mv (.t 0))⟩,
 ⟨some 35, some (33, true), .p (.mv (.t 5))⟩,
 ⟨some 36, some (33, true), .p (.idxp 1 (.t 34) (.t 35))⟩,
 ⟨some 37, some (33, true), .p (.load none (.t 36))⟩,
 ⟨some 38, some (33, true), .p (.mv (.t 6))⟩,
 ⟨some 39, some (33, true), .p (.idxp 2 (.t 37) (.t 38))⟩,
 ⟨some 40, some (33, true), .p (.fldp (.t 39) 1)⟩,
 ⟨some 41, some (33, true), .p (.load none (.t 40))⟩,
 ⟨some 42, some (33, true), .call a2a [(.t 41)]⟩,
 ⟨some 43, some (33, true), .p (.bin .gtr (.t 42) (.c (.int .i64 256)))⟩,
 opI 44 (.pick (.t 33) (.t 43) (.c (.bool false)))]
def b0X : List AIns := [opI 4 (.mv (.c (.int .i64 40)))]
def a5J : List AIns := [mvI 30 6,
 opI 31 (.bin .add (.t 30) (.c (.int .i64 1))),
 mvI 6 31]
def c7Z : ACode := .seq (.seq (rgI a6U) (.cond (.t 29) (.skip) (.exit 2))) (.seq (.block 3 (.seq (rgI a6T) (.cond (.t 44) (.seq (rgI b0X) (.ret)) (.skip)))) (rgI a5J))
def b0W : List AIns := [mvI 15 5,
 opI 16 (.bin .add (.t 15) (.c (.int .i64 1))),
 mvI 5 16]
def c8a : ACode := .seq (.seq (rgI a6W) (.cond (.t 14) (.skip) (.exit 0))) (.seq (.block 1 (.seq (.seq (rgI a6V) (.cond (.t 22) (.seq (rgI b3d) (.ret)) (.skip))) (.seq (rgI b3c) (.block 2 (.loop c7Z))))) (rgI b0W))
def a5I : List AIns := [mvI 45 0,
 opI 46 (.len (.t 45)),
 opI 47 (.bin .eql (.t 46) (.c (.int .i64 0)))]
def b0V : List AIns := [opI 4 (.mv (.c (.int .i64 41)))]
def b0U : List AIns := [opI 7 (.mv (.c (.int .i64 0)))]
def a5H : List AIns := [mvI 48 7,
 mvI 49 0,
 opI 50 (.len (.t 49)),
 opI 51 (.bin .lss (.t 48) (.t 50))]
def a5G : List AIns := [mvI 54 0,
 mvI 55 7,
 opI 56 (.idxp 1 (.t 54) (.t 55)),
 opI 57 (.load none (.t 56)),
 opI 58 (.len (.t 57)),
 mvI 59 0,
 opI 60 (.idxp 1 (.t 59) (.c (.int .i64 0))),
 opI 61 (.load none (.t 60)),
 opI 62 (.len (.t 61)),
 opI 63 (.bin .neq (.t 58) (.t 62))]
def b0T : List AIns := [opI 4 (.mv (.c (.int .i64 8)))]
def b0S : List AIns := [mvI 52 7,
 opI 53 (.bin .add (.t 52) (.c (.int .i64 1))),
 mvI 7 53]
def c7Y : ACode := .seq (.seq (rgI a5H) (.cond (.t 51) (.skip) (.exit 4))) (.seq (.block 5 (.seq (.region a5G true) (.cond (.t 63) (.seq (rgI b0T) (.ret)) (.skip)))) (rgI b0S))
def b0R : List AIns := [opI 4 (.mv (.c (.int .i64 0)))]
def d1i : ACode := .seq (rgI b3g) (.seq (.seq (rgI a6X) (.cond (.t 10) (.seq (rgI b3f) (.ret)) (.skip))) (.seq (.seq (rgI b3e) (.block 0 (.loop c8a))) (.seq (.seq (rgI a5I) (.cond (.t 47) (.seq (rgI b0V) (.ret)) (.skip))) (.seq (.seq (rgI b0U) (.block 4 (.loop c7Y))) (.seq (rgI b0R) (.ret))))))
theorem c7X : fchk Pr (fun _ _ => false) Try.f26 = some (d1i, [.tmp 4], 64) := by kernel_rfl
theorem c8b : Pr.funcs[a9J]? = some Try.f26 := Try.func26
def b6g : List AIns := [⟨some 2, none, .e (.box 2 (.c (.agg [.nil, .nil])))⟩,
 opI 3 (.mv (.c (.bool false)))]
def b6f : List AIns := [⟨some 4, none, .e (.box 2 (.c (.agg [.nil, .nil])))⟩]
def b6e : List AIns := [opI 5 (.mv (.c (.int .i64 0)))]
def a5b : List AIns := [mvI 12 5,
 mvI 13 0,
 opI 14 (.len (.t 13)),
 opI 15 (.bin .lss (.t 12) (.t 14))]
def b6d : List AIns := [opI 6 (.mv (.c (.nil)))]
def b6c : List AIns := [opI 7 (.mv (.c (.int .i64 0)))]
def a5a : List AIns := [mvI 18 7,
 mvI 19 5,
 opI 20 (.bin .lss (.t 18) (.t 19))]
def a8A : List AIns := [mvI 23 0,
 mvI 24 5,
 opI 25 (.idxp 1 (.t 23) (.t 24)),
 opI 26 (.load none (.t 25)),
 mvI 27 0,
 mvI 28 7,
 opI 29 (.idxp 1 (.t 27) (.t 28)),
 opI 30 (.load none (.t 29)),
 ⟨some 31, none, .call a9L [(.t 26), (.t 30)]⟩,
 ⟨some 32, none, .call b2S [(.t 31)]⟩,
 ⟨some 8, none, .e (.box 4 (.c (.agg [.bool false, .nil, .bool false, .nil])))⟩,
 ⟨none, none, .e (.store 4 (.t 8) (.t 32))⟩]
def a8z : List AIns := [opI 9 (.mv (.c (.int .i64 0)))]
def a8y : List AIns := [mvI 33 9,
 mvI 34 7,
 opI 35 (.bin .lss (.t 33) (.t 34))]
def b3w : List AIns := [opI 38 (.load (some 4) (.t 8)),
 opI 39 (.fldp (.t 4) 0),
 opI 40 (.load none (.t 39)),
 mvI 41 7,
 opI 42 (.idxp 1 (.t 40) (.t 41)),
 opI 43 (.load none (.t 42)),
 mvI 44 9,
 opI 45 (.idxp 4 (.t 43) (.t 44)),
 opI 46 (.load (some 4) (.t 45)),
 mvI 47 6,
 mvI 48 9,
 opI 49 (.idxp 4 (.t 47) (.t 48)),
 opI 50 (.load (some 4) (.t 49)),
 ⟨some 51, none, .call a4j [(.t 46), (.t 50)]⟩,
 opI 52 (.fldp (.t 4) 1),
 opI 53 (.load none (.t 52)),
 mvI 54 9,
 opI 55 (.idxp 4 (.t 53) (.t 54)),
 opI 56 (.load (some 4) (.t 55)),
 ⟨some 57, none, .call a4j [(.t 51), (.t 56)]⟩,
 ⟨some 58, none, .call a9M [(.t 38), (.t 57)]⟩,
 ⟨none, none, .e (.store 4 (.t 8) (.t 58))⟩]
def b3v : List AIns := [mvI 36 9,
 opI 37 (.bin .add (.t 36) (.c (.int .i64 1))),
 mvI 9 37]
def b6i : ACode := .seq (.seq (rgI a8y) (.cond (.t 35) (.skip) (.exit 4))) (.seq (.block 5 (.region b3w true)) (rgI b3v))
def a7h : List AIns := [mvI 59 6,
 opI 60 (.load (some 4) (.t 8)),
 opI 61 (.fldp (.t 4) 1),
 opI 62 (.load none (.t 61)),
 mvI 63 7,
 opI 64 (.idxp 4 (.t 62) (.t 63)),
 opI 65 (.load (some 4) (.t 64)),
 ⟨some 66, none, .call b5v [(.t 60), (.t 65)]⟩,
 ⟨some 67, none, .e (.bsl 4 [(.t 66)])⟩,
 ⟨some 68, none, .e (.app 4 64 false (.t 59) (.t 67))⟩,
 mvI 6 68]
def a7g : List AIns := [mvI 21 7,
 opI 22 (.bin .add (.t 21) (.c (.int .i64 1))),
 mvI 7 22]
def b6j : ACode := .seq (.seq (rgI a5a) (.cond (.t 20) (.skip) (.exit 2))) (.seq (.block 3 (.seq (.region a8A true) (.seq (.seq (rgI a8z) (.block 4 (.loop b6i))) (.region a7h true)))) (rgI a7g))
def b3u : List AIns := [mvI 69 0,
 mvI 70 5,
 opI 71 (.idxp 1 (.t 69) (.t 70)),
 opI 72 (.load none (.t 71)),
 mvI 73 0,
 mvI 74 5,
 opI 75 (.idxp 1 (.t 73) (.t 74)),
 opI 76 (.load none (.t 75)),
 ⟨some 77, none, .call a9L [(.t 72), (.t 76)]⟩,
 ⟨some 78, none, .call b2S [(.t 77)]⟩,
 ⟨some 10, none, .e (.box 4 (.c (.agg [.bool false, .nil, .bool false, .nil])))⟩,
 ⟨none, none, .e (.store 4 (.t 10) (.t 78))⟩]
def b3t : List AIns := [opI 11 (.mv (.c (.int .i64 0)))]
def a7f : List AIns := [mvI 79 11,
 mvI 80 5,
 opI 81 (.bin .lss (.t 79) (.t 80))]
def b3s : List AIns := [opI 84 (.load (some 4) (.t 10)),
 mvI 85 6,
 mvI 86 11,
 opI 87 (.idxp 4 (.t 85) (.t 86)),
 opI 88 (.load (some 4) (.t 87)),
 ⟨some 89, none, .call a7F [(.t 88)]⟩,
 opI 90 (.fldp (.t 4) 1),
 opI 91 (.load none (.t 90)),
 mvI 92 11,
 opI 93 (.idxp 4 (.t 91) (.t 92)),
 opI 94 (.load (some 4) (.t 93)),
 ⟨some 95, none, .call a4j [(.t 89), (.t 94)]⟩,
 ⟨some 96, none, .call a9M [(.t 84), (.t 95)]⟩,
 ⟨none, none, .e (.store 4 (.t 10) (.t 96))⟩]
def b3r : List AIns := [mvI 82 11,
 opI 83 (.bin .add (.t 82) (.c (.int .i64 1))),
 mvI 11 83]
def b6h : ACode := .seq (.seq (rgI a7f) (.cond (.t 81) (.skip) (.exit 6))) (.seq (.block 7 (.region b3s true)) (rgI b3r))
def b3q : List AIns := [opI 97 (.fldp (.t 10) 0),
 opI 98 (.load (some 2) (.t 97)),
 ⟨some 99, none, .call a3w [(.t 98)]⟩,
 opI 100 (.bin .leq (.t 99) (.c (.int .i64 0)))]
def a7e : List AIns := [opI 101 (.load (some 2) (.t 4)),
 ⟨none, none, .e (.store 2 (.t 2) (.t 101))⟩,
 opI 3 (.mv (.c (.bool false)))]
def a7d : List AIns := [opI 102 (.fldp (.t 4) 0),
 opI 103 (.load none (.t 102)),
 mvI 104 6,
 ⟨some 105, none, .e (.bsl 1 [(.t 104)])⟩,
 ⟨some 106, none, .e (.app 1 24 false (.t 103) (.t 105))⟩,
 opI 107 (.fldp (.t 4) 0),
 ⟨none, none, .e (.store 1 (.t 107) (.t 106))⟩]
def a7c : List AIns := [opI 108 (.fldp (.t 4) 1),
 opI 109 (.load none (.t 108)),
 opI 110 (.load (some 4) (.t 10)),
 ⟨some 111, none, .e (.bsl 4 [(.t 110)])⟩,
 ⟨some 112, none, .e (.app 4 64 false (.t 109) (.t 111))⟩,
 opI 113 (.fldp (.t 4) 1),
 ⟨none, none, .e (.store 1 (.t 113) (.t 112))⟩]
def a7b : List AIns := [mvI 16 5,
 opI 17 (.bin .add (.t 16) (.c (.int .i64 1))),
 mvI 5 17]
def d1m : ACode := .seq (.seq (rgI a5b) (.cond (.t 15) (.skip) (.exit 0))) (.seq (.block 1 (.seq (rgI b6d) (.seq (.seq (rgI b6c) (.block 2 (.loop b6j))) (.seq (.region b3u true) (.seq (.seq (rgI b3t) (.block 6 (.loop b6h))) (.seq (.seq (rgI b3q) (.cond (.t 100) (.seq (rgI a7e) (.ret)) (.skip))) (.seq (rgI a7d) (rgI a7c)))))))) (rgI a7b))
def a7a : List AIns := [opI 114 (.load (some 2) (.t 4)),
 ⟨none, none, .e (.store 2 (.t 2) (.t 114))⟩,
 opI 3 (.mv (.c (.bool true)))]
def d3u : ACode := .seq (rgI b6g) (.seq (rgI b6f) (.seq (.seq (rgI b6e) (.block 0 (.loop d1m))) (.seq (rgI a7a) (.ret))))
theorem d1l : fchk Pr (fun _ _ => false) Try.f27 = some (d3u, [.cell 2 (some 2), .tmp 3], 115) := by kernel_rfl
theorem d1n : Pr.funcs[b2y]? = some Try.f27 := Try.func27
def d0n : List AIns := [⟨some 4, none, .e (.box 2 (.c (.agg [.bool false, .nil])))⟩]
def d0m : List AIns := [⟨some 5, none, .e (.box 2 (.c (.agg [.bool false, .nil])))⟩]
def d0l : List AIns := [mvI 7 0,
 opI 8 (.len (.t 7)),
 opI 9 (.mv (.c (.int .i64 0)))]
def b9G : List AIns := [opI 10 (.bin .lss (.t 9) (.t 8))]
def d0k : List AIns := [mvI 11 9,
 mvI 6 11]
def d0j : List AIns := [opI 12 (.load (some 2) (.t 5)),
 mvI 13 0,
 mvI 14 6,
 opI 15 (.idxp 2 (.t 13) (.t 14)),
 opI 16 (.load (some 2) (.t 15)),
 mvI 17 1,
 mvI 18 6,
 opI 19 (.idxp 2 (.t 17) (.t 18)),
 opI 20 (.load (some 2) (.t 19)),
 ⟨some 21, none, .call a1V [(.t 16), (.t 20)]⟩,
 ⟨some 22, none, .call a4i [(.t 12), (.t 21)]⟩,
 ⟨none, none, .e (.store 2 (.t 5) (.t 22))⟩]
def d0i : List AIns := [opI 23 (.bin .add (.t 9) (.c (.int .i64 1))),
 mvI 9 23]
def e0Y : ACode := .seq (rgI b9G) (.seq (.cond (.t 10) (.skip) (.exit 0)) (.seq (.block 1 (.seq (rgI d0k) (.region d0j true))) (rgI d0i)))
def d0h : List AIns := [opI 24 (.load (some 2) (.t 5)),
 ⟨none, none, .e (.store 2 (.t 4) (.t 24))⟩]
def e3f : ACode := .seq (rgI d0n) (.seq (rgI d0m) (.seq (.seq (rgI d0l) (.block 0 (.loop e0Y))) (.seq (rgI d0h) (.ret))))
theorem e0X : fchk Pr (fun _ _ => false) Try.f29 = some (e3f, [.cell 4 (some 2)], 25) := by kernel_rfl
theorem e0Z : Pr.funcs[b8S]? = some Try.f29 := Try.func29
def c1o : List AIns := [⟨some 2, none, .e (.box 2 (.t 0))⟩,
 ⟨some 3, none, .e (.box 2 (.t 1))⟩,
 ⟨some 4, none, .e (.box 2 (.c (.agg [.bool false, .nil])))⟩]
def c1n : List AIns := [opI 9 (.fldp (.t 2) 0),
 opI 10 (.load none (.t 9)),
 opI 11 (.fldp (.t 3) 0),
 opI 12 (.load none (.t 11)),
 opI 13 (.beq false (.t 10) (.t 12))]
def c1m : List AIns := [opI 14 (.fldp (.t 2) 0),
 opI 15 (.load none (.t 14)),
 opI 16 (.fldp (.t 2) 1),
 opI 17 (.load none (.t 16)),
 opI 18 (.fldp (.t 3) 1),
 opI 19 (.load none (.t 18)),
 ⟨some 20, none, .call a9P [(.t 17), (.t 19)]⟩,
 ⟨some 21, none, .call a1I [(.t 15), (.t 20)]⟩,
 ⟨none, none, .e (.store 2 (.t 4) (.t 21))⟩]
def c1l : List AIns := [opI 22 (.fldp (.t 2) 1),
 opI 23 (.load none (.t 22)),
 opI 24 (.fldp (.t 3) 1),
 opI 25 (.load none (.t 24)),
 ⟨some 26, none, .call a3g [(.t 23), (.t 25)]⟩,
 opI 27 (.bin .geq (.t 26) (.c (.int .i64 0)))]
def c1k : List AIns := [opI 29 (.fldp (.t 2) 1),
 opI 30 (.load none (.t 29)),
 opI 31 (.fldp (.t 3) 1),
 opI 32 (.load none (.t 31)),
 ⟨some 33, none, .call a9O [(.t 30), (.t 32)]⟩,
 mvI 28 33,
 opI 34 (.ext (.t 28) 0),
 opI 35 (.ext (.t 28) 1),
 mvI 5 34,
 mvI 6 35]
def c1j : List AIns := [opI 36 (.fldp (.t 2) 0),
 opI 37 (.load none (.t 36)),
 mvI 38 5,
 ⟨some 39, none, .call a1I [(.t 37), (.t 38)]⟩,
 ⟨none, none, .e (.store 2 (.t 4) (.t 39))⟩]
def c1i : List AIns := [opI 41 (.fldp (.t 3) 1),
 opI 42 (.load none (.t 41)),
 opI 43 (.fldp (.t 2) 1),
 opI 44 (.load none (.t 43)),
 ⟨some 45, none, .call a9O [(.t 42), (.t 44)]⟩,
 mvI 40 45,
 opI 46 (.ext (.t 40) 0),
 opI 47 (.ext (.t 40) 1),
 mvI 7 46,
 mvI 8 47]
def c1h : List AIns := [opI 48 (.fldp (.t 3) 0),
 opI 49 (.load none (.t 48)),
 mvI 50 7,
 ⟨some 51, none, .call a1I [(.t 49), (.t 50)]⟩,
 ⟨none, none, .e (.store 2 (.t 4) (.t 51))⟩]
def d6W : ACode := .seq (rgI c1o) (.seq (.seq (rgI c1n) (.cond (.t 13) (.seq (.region c1m true) (.ret)) (.skip))) (.seq (.seq (rgI c1l) (.cond (.t 27) (.seq (rgI c1k) (.seq (rgI c1j) (.ret))) (.skip))) (.seq (rgI c1i) (.seq (rgI c1h) (.ret)))))
theorem d3W : fchk Pr (fun _ _ => false) Try.f30 = some (d6W, [.cell 4 (some 2)], 52) := by kernel_rfl
theorem d3X : Pr.funcs[a4l]? = some Try.f30 := Try.func30
def c1c : List AIns := [⟨some 1, none, .e (.box 2 (.t 0))⟩,
 ⟨some 2, none, .e (.box 2 (.c (.agg [.bool false, .nil])))⟩]
def c1b : List AIns := [opI 3 (.fldp (.t 1) 0),
 opI 4 (.load none (.t 3)),
 opI 5 (.un .not (.t 4)),
 opI 6 (.fldp (.t 1) 1),
 opI 7 (.load none (.t 6)),
 ⟨some 8, none, .call a1I [(.t 5), (.t 7)]⟩,
 ⟨none, none, .e (.store 2 (.t 2) (.t 8))⟩]
def d6T : ACode := .seq (rgI c1c) (.seq (rgI c1b) (.ret))
theorem d3Q : fchk Pr (fun _ _ => false) Try.f31 = some (d6T, [.cell 2 (some 2)], 9) := by kernel_rfl
theorem d3R : Pr.funcs[a4k]? = some Try.f31 := Try.func31
def b7V : List AIns := [opI 4 (.mv (.c (.int .i64 0)))]
def a5o : List AIns := [mvI 11 0,
 opI 12 (.len (.t 11)),
 opI 13 (.bin .gtr (.t 12) (.c (.int .i64 12))),
 mvI 14 13,
 ⟨some 15, some (14, false), .p (.mv (.t 1))⟩,
 ⟨some 16, some (14, false), .p (.mv (.t 15))⟩,
 ⟨some 17, some (16, true), .p (.mv (.t 0))⟩,
 ⟨some 18, some (16, true), .call c0l [(.t 17)]⟩,
 ⟨some 19, some (16, true), .p (.bin .gtr (.t 18) (.c (.int .i64 256)))⟩,
 ⟨some 20, some (14, false), .p (.pick (.t 16) (.t 19) (.c (.bool false)))⟩,
 opI 21 (.pick (.t 14) (.c (.bool true)) (.t 20)),
 mvI 5 21]
def a9p : List AIns := [mvI 22 0,
 opI 23 (.len (.t 22)),
 opI 24 (.mv (.c (.int .i64 0)))]
def a9o : List AIns := [opI 25 (.bin .lss (.t 24) (.t 23))]
def b7U : List AIns := [opI 26 (.idxp 1 (.t 22) (.t 24)),
 opI 27 (.load none (.t 26)),
 mvI 7 27]
def a5n : List AIns := [mvI 28 5,
 mvI 29 28,
 ⟨some 30, some (29, false), .p (.mv (.t 7))⟩,
 ⟨some 31, some (29, false), .p (.len (.t 30))⟩,
 ⟨some 32, some (29, false), .p (.bin .gtr (.t 31) (.c (.int .i64 12)))⟩,
 opI 33 (.pick (.t 29) (.c (.bool true)) (.t 32)),
 mvI 5 33]
def a5m : List AIns := [opI 34 (.bin .add (.t 24) (.c (.int .i64 1))),
 mvI 24 34]
def b7W : ACode := .seq (rgI a9o) (.seq (.cond (.t 25) (.skip) (.exit 0)) (.seq (.block 1 (.seq (rgI b7U) (rgI a5n))) (rgI a5m)))
def a5l : List AIns := [mvI 35 5]
def a9n : List AIns := [opI 4 (.mv (.c (.int .i64 40)))]
def a5k : List AIns := [mvI 36 0,
 opI 37 (.len (.t 36)),
 opI 38 (.bin .eql (.t 37) (.c (.int .i64 0)))]
def a7r : List AIns := [opI 4 (.mv (.c (.int .i64 41)))]
def a4t : List AIns := [mvI 40 0,
 ⟨some 41, none, .call a2G [(.t 40)]⟩,
 mvI 39 41,
 opI 42 (.ext (.t 39) 0),
 opI 43 (.ext (.t 39) 1),
 opI 44 (.ext (.t 39) 2),
 mvI 8 42,
 mvI 9 43,
 mvI 10 44]
def a4s : List AIns := [mvI 45 10,
 mvI 4 45]
def d5b : ACode := .seq (rgI b7V) (.seq (rgI a5o) (.seq (.seq (rgI a9p) (.block 0 (.loop b7W))) (.seq (.seq (rgI a5l) (.cond (.t 35) (.seq (rgI a9n) (.ret)) (.skip))) (.seq (.seq (rgI a5k) (.cond (.t 38) (.seq (rgI a7r) (.ret)) (.skip))) (.seq (rgI a4t) (.seq (rgI a4s) (.ret)))))))
theorem d2e : fchk Pr (fun _ _ => false) Try.f32 = some (d5b, [.tmp 4], 46) := by kernel_rfl
theorem d2f : Pr.funcs[a6Q]? = some Try.f32 := Try.func32
def c3m : List AIns := [⟨some 2, none, .e (.box 2 (.c (.agg [.nil, .nil])))⟩,
 opI 3 (.mv (.c (.bool false)))]
def c3l : List AIns := [⟨some 12, none, .call a8g [(.c (.int .i64 1))]⟩,
 ⟨some 13, none, .e (.bslm 2 [(.t 12)])⟩,
 opI 14 (.bld [.nil, .nil] [(0, 1, (.t 13))]),
 ⟨some 4, none, .e (.box 2 (.c (.agg [.nil, .nil])))⟩,
 ⟨none, none, .e (.store 2 (.t 4) (.t 14))⟩]
def c3k : List AIns := [mvI 15 0,
 opI 16 (.len (.t 15)),
 opI 17 (.mv (.c (.int .i64 0)))]
def b1V : List AIns := [opI 18 (.bin .lss (.t 17) (.t 16))]
def c3j : List AIns := [mvI 19 17,
 mvI 5 19]
def c3i : List AIns := [mvI 20 5,
 opI 21 (.bin .add (.t 20) (.c (.int .i64 1))),
 ⟨some 22, none, .e (.mksl 2 32 (.agg [.bool false, .nil]) (.c (.int .i64 0)) (.t 21))⟩,
 mvI 6 22]
def c3h : List AIns := [opI 7 (.mv (.c (.int .i64 0)))]
def b1U : List AIns := [mvI 23 7,
 mvI 24 5,
 opI 25 (.bin .leq (.t 23) (.t 24))]
def c3g : List AIns := [mvI 29 0,
 mvI 30 5,
 opI 31 (.idxp 1 (.t 29) (.t 30)),
 opI 32 (.load none (.t 31)),
 mvI 33 0,
 mvI 34 7,
 opI 35 (.idxp 1 (.t 33) (.t 34)),
 opI 36 (.load none (.t 35)),
 ⟨some 37, none, .call b8T [(.t 32), (.t 36)]⟩,
 mvI 28 37,
 opI 38 (.ext (.t 28) 0),
 opI 39 (.ext (.t 28) 1),
 ⟨some 8, none, .e (.box 2 (.c (.agg [.bool false, .nil])))⟩,
 ⟨none, none, .e (.store 2 (.t 8) (.t 38))⟩,
 mvI 9 39]
def c3f : List AIns := [opI 10 (.mv (.c (.int .i64 0)))]
def a9x : List AIns := [mvI 40 10,
 mvI 41 7,
 opI 42 (.bin .lss (.t 40) (.t 41))]
def b8d : List AIns := [mvI 45 6,
 mvI 11 45]
def a9w : List AIns := [mvI 46 7,
 mvI 47 5,
 opI 48 (.bin .lss (.t 46) (.t 47))]
def b8c : List AIns := [opI 49 (.fldp (.t 4) 1),
 opI 50 (.load none (.t 49)),
 mvI 51 7,
 opI 52 (.idxp 1 (.t 50) (.t 51)),
 opI 53 (.load none (.t 52)),
 mvI 11 53]
def a9v : List AIns := [opI 54 (.fldp (.t 4) 0),
 opI 55 (.load none (.t 54)),
 mvI 56 10,
 opI 57 (.bin .add (.t 56) (.c (.int .i64 1))),
 opI 58 (.idxp 2 (.t 55) (.t 57)),
 opI 59 (.load (some 2) (.t 58)),
 opI 60 (.load (some 2) (.t 8)),
 ⟨some 61, none, .call a1V [(.t 59), (.t 60)]⟩,
 mvI 62 6,
 mvI 63 10,
 opI 64 (.idxp 2 (.t 62) (.t 63)),
 opI 65 (.load (some 2) (.t 64)),
 mvI 66 11,
 mvI 67 10,
 opI 68 (.idxp 2 (.t 66) (.t 67)),
 opI 69 (.load (some 2) (.t 68)),
 ⟨some 70, none, .call a1V [(.t 65), (.t 69)]⟩,
 ⟨some 71, none, .call a5A [(.t 61), (.t 70)]⟩,
 ⟨none, none, .e (.store 2 (.t 8) (.t 71))⟩]
def a9u : List AIns := [opI 73 (.load (some 2) (.t 8)),
 opI 74 (.fldp (.t 4) 0),
 opI 75 (.load none (.t 74)),
 mvI 76 10,
 opI 77 (.idxp 2 (.t 75) (.t 76)),
 opI 78 (.load (some 2) (.t 77)),
 ⟨some 79, none, .call a1Z [(.t 73), (.t 78)]⟩,
 mvI 72 79,
 opI 80 (.ext (.t 72) 0),
 opI 81 (.ext (.t 72) 1),
 opI 82 (.ext (.t 72) 2),
 ⟨none, none, .e (.store 2 (.t 8) (.t 80))⟩]
def a9t : List AIns := [mvI 43 10,
 opI 44 (.bin .add (.t 43) (.c (.int .i64 1))),
 mvI 10 44]
def c3n : ACode := .seq (.seq (rgI a9x) (.cond (.t 42) (.skip) (.exit 4))) (.seq (.block 5 (.seq (rgI b8d) (.seq (.seq (rgI a9w) (.cond (.t 48) (rgI b8c) (.skip))) (.seq (.region a9v true) (.region a9u true))))) (rgI a9t))
def b8b : List AIns := [mvI 83 6,
 opI 84 (.load (some 2) (.t 8)),
 ⟨some 85, none, .e (.bsl 2 [(.t 84)])⟩,
 ⟨some 86, none, .e (.app 2 32 false (.t 83) (.t 85))⟩,
 mvI 6 86]
def b8a : List AIns := [mvI 26 7,
 opI 27 (.bin .add (.t 26) (.c (.int .i64 1))),
 mvI 7 27]
def c3o : ACode := .seq (.seq (rgI b1U) (.cond (.t 25) (.skip) (.exit 2))) (.seq (.block 3 (.seq (.region c3g true) (.seq (.seq (rgI c3f) (.block 4 (.loop c3n))) (rgI b8b)))) (rgI b8a))
def b7Z : List AIns := [mvI 87 6,
 mvI 88 5,
 opI 89 (.idxp 2 (.t 87) (.t 88)),
 opI 90 (.load (some 2) (.t 89)),
 ⟨some 91, none, .call a1L [(.t 90)]⟩,
 opI 92 (.bin .leq (.t 91) (.c (.int .i64 0)))]
def b7Y : List AIns := [opI 93 (.bld [.nil, .nil] []),
 ⟨none, none, .e (.store 2 (.t 2) (.t 93))⟩,
 opI 3 (.mv (.c (.bool false)))]
def a9s : List AIns := [opI 94 (.fldp (.t 4) 0),
 opI 95 (.load none (.t 94)),
 mvI 96 6,
 mvI 97 5,
 opI 98 (.idxp 2 (.t 96) (.t 97)),
 opI 99 (.load (some 2) (.t 98)),
 ⟨some 100, none, .e (.bsl 2 [(.t 99)])⟩,
 ⟨some 101, none, .e (.app 2 32 false (.t 95) (.t 100))⟩,
 opI 102 (.fldp (.t 4) 0),
 ⟨none, none, .e (.store 1 (.t 102) (.t 101))⟩]
def a9r : List AIns := [opI 103 (.fldp (.t 4) 1),
 opI 104 (.load none (.t 103)),
 mvI 105 6,
 mvI 106 5,
 mvI 107 5,
 opI 108 (.slc 2 (.t 105) none (some (.t 106)) (some (.t 107))),
 ⟨some 109, none, .e (.bsl 1 [(.t 108)])⟩,
 ⟨some 110, none, .e (.app 1 24 false (.t 104) (.t 109))⟩,
 opI 111 (.fldp (.t 4) 1),
 ⟨none, none, .e (.store 1 (.t 111) (.t 110))⟩]
def a9q : List AIns := [opI 112 (.bin .add (.t 17) (.c (.int .i64 1))),
 mvI 17 112]
def d5j : ACode := .seq (rgI b1V) (.seq (.cond (.t 18) (.skip) (.exit 0)) (.seq (.block 1 (.seq (rgI c3j) (.seq (rgI c3i) (.seq (.seq (rgI c3h) (.block 2 (.loop c3o))) (.seq (.seq (rgI b7Z) (.cond (.t 92) (.seq (rgI b7Y) (.ret)) (.skip))) (.seq (.region a9s true) (.region a9r true))))))) (rgI a9q)))
def b7X : List AIns := [opI 113 (.load (some 2) (.t 4)),
 ⟨none, none, .e (.store 2 (.t 2) (.t 113))⟩,
 opI 3 (.mv (.c (.bool true)))]
def d7L : ACode := .seq (rgI c3m) (.seq (rgI c3l) (.seq (.seq (rgI c3k) (.block 0 (.loop d5j))) (.seq (rgI b7X) (.ret))))
theorem d5i : fchk Pr (fun r k => (r == 1 && k == 1)) Try.f33 = some (d7L, [.cell 2 (some 2), .tmp 3], 114) := by kernel_rfl
theorem d5k : Pr.funcs[b5E]? = some Try.f33 := Try.func33
def b1N : List AIns := [opI 2 (.mv (.c (.int .i64 0))),
 opI 3 (.mv (.c (.int .i64 0))),
 opI 4 (.mv (.c (.int .i64 0)))]
def b1M : List AIns := [mvI 7 0,
 opI 8 (.len (.t 7)),
 opI 9 (.bin .eql (.t 8) (.c (.int .i64 0)))]
def c3a : List AIns := [opI 2 (.mv (.c (.int .i64 0))),
 opI 3 (.mv (.c (.int .i64 0))),
 opI 4 (.mv (.c (.int .i64 0)))]
def b1L : List AIns := [mvI 10 0,
 opI 11 (.len (.t 10)),
 opI 12 (.mv (.c (.int .i64 0)))]
def a4B : List AIns := [opI 13 (.bin .lss (.t 12) (.t 11))]
def a6I : List AIns := [opI 14 (.idxp 1 (.t 10) (.t 12)),
 opI 15 (.load none (.t 14)),
 mvI 6 15]
def a6H : List AIns := [mvI 16 6,
 opI 17 (.len (.t 16)),
 mvI 18 0,
 opI 19 (.idxp 1 (.t 18) (.c (.int .i64 0))),
 opI 20 (.load none (.t 19)),
 opI 21 (.len (.t 20)),
 opI 22 (.bin .neq (.t 17) (.t 21))]
def c2Z : List AIns := [opI 2 (.mv (.c (.int .i64 0))),
 opI 3 (.mv (.c (.int .i64 0))),
 opI 4 (.mv (.c (.int .i64 8)))]
def b1K : List AIns := [opI 23 (.bin .add (.t 12) (.c (.int .i64 1))),
 mvI 12 23]
def d4R : ACode := .seq (rgI a4B) (.seq (.cond (.t 13) (.skip) (.exit 0)) (.seq (.block 1 (.seq (rgI a6I) (.seq (rgI a6H) (.cond (.t 22) (.seq (rgI c2Z) (.ret)) (.skip))))) (rgI b1K)))
def c2Y : List AIns := [mvI 24 0,
 opI 25 (.len (.t 24)),
 mvI 26 0,
 opI 27 (.idxp 1 (.t 26) (.c (.int .i64 0))),
 opI 28 (.load none (.t 27)),
 opI 29 (.len (.t 28)),
 mvI 2 25,
 mvI 3 29,
 opI 4 (.mv (.c (.int .i64 0)))]
def d7x : ACode := .seq (rgI b1N) (.seq (.seq (rgI b1M) (.cond (.t 9) (.seq (rgI c3a) (.ret)) (.skip))) (.seq (.seq (rgI b1L) (.block 0 (.loop d4R))) (.seq (.region c2Y true) (.ret))))
theorem c3b : fchk Pr (fun _ _ => false) Try.f34 = some (d7x, [.tmp 2, .tmp 3, .tmp 4], 30) := by kernel_rfl
theorem c3c : Pr.funcs[a2G]? = some Try.f34 := Try.func34
def a5V : List AIns := [opI 4 (.mv (.c (.nil)))]
def a5U : List AIns := [mvI 8 0,
 opI 9 (.len (.t 8)),
 ⟨some 10, none, .e (.mksl 1 24 (.nil) (.c (.int .i64 0)) (.t 9))⟩,
 mvI 5 10]
def a5T : List AIns := [mvI 11 0,
 opI 12 (.len (.t 11)),
 opI 13 (.mv (.c (.int .i64 0)))]
def a2z : List AIns := [opI 14 (.bin .lss (.t 13) (.t 12))]
def a5S : List AIns := [opI 15 (.idxp 1 (.t 11) (.t 13)),
 opI 16 (.load none (.t 15)),
 mvI 7 16]
def a5R : List AIns := [mvI 17 5,
 mvI 18 1,
 mvI 19 7,
 ⟨some 20, none, .callv (.t 18) [(.t 19)]⟩,
 ⟨some 21, none, .e (.bsl 1 [(.t 20)])⟩,
 ⟨some 22, none, .e (.app 1 24 false (.t 17) (.t 21))⟩,
 mvI 5 22]
def a5Q : List AIns := [opI 23 (.bin .add (.t 13) (.c (.int .i64 1))),
 mvI 13 23]
def c6d : ACode := .seq (rgI a2z) (.seq (.cond (.t 14) (.skip) (.exit 0)) (.seq (.block 1 (.seq (rgI a5S) (rgI a5R))) (rgI a5Q)))
def a5P : List AIns := [mvI 24 5,
 mvI 4 24]
def c8j : ACode := .seq (rgI a5V) (.seq (rgI a5U) (.seq (.seq (rgI a5T) (.block 0 (.loop c6d))) (.seq (rgI a5P) (.ret))))
theorem b1q : fchk Pr (fun _ _ => false) Try.f35 = some (c8j, [.tmp 4], 25) := by kernel_rfl
theorem b1r : Pr.funcs[a2W]? = some Try.f35 := Try.func35
def b7N : List AIns := [⟨some 2, none, .e (.box 1 (.t 0))⟩,
 opI 3 (.mv (.c (.nil)))]
def b7M : List AIns := [opI 4 (.load none (.t 1)),
 opI 5 (.mkfn a4z [(.t 2)]),
 ⟨some 6, none, .call a7G [(.t 4), (.t 5)]⟩,
 mvI 3 6]
def d4S : ACode := .seq (rgI b7N) (.seq (rgI b7M) (.ret))
theorem d1U : fchk Pr (fun _ _ => false) Try.f36 = some (d4S, [.tmp 3], 7) := by kernel_rfl
theorem d1V : Pr.funcs[a6P]? = some Try.f36 := Try.func36
def b1y : List AIns := [opI 4 (.mv (.c (.nil)))]
def b1x : List AIns := [mvI 8 0,
 opI 9 (.len (.t 8)),
 ⟨some 10, none, .e (.mksl 2 32 (.agg [.bool false, .nil]) (.c (.int .i64 0)) (.t 9))⟩,
 mvI 5 10]
def b1w : List AIns := [mvI 11 0,
 opI 12 (.len (.t 11)),
 opI 13 (.mv (.c (.int .i64 0)))]
def a5W : List AIns := [opI 14 (.bin .lss (.t 13) (.t 12))]
def b1v : List AIns := [opI 15 (.idxp 1 (.t 11) (.t 13)),
 opI 16 (.load none (.t 15)),
 mvI 7 16]
def b1u : List AIns := [mvI 17 5,
 mvI 18 1,
 mvI 19 7,
 ⟨some 20, none, .callv (.t 18) [(.t 19)]⟩,
 ⟨some 21, none, .e (.bsl 2 [(.t 20)])⟩,
 ⟨some 22, none, .e (.app 2 32 false (.t 17) (.t 21))⟩,
 mvI 5 22]
def b1t : List AIns := [opI 23 (.bin .add (.t 13) (.c (.int .i64 1))),
 mvI 13 23]
def c6f : ACode := .seq (rgI a5W) (.seq (.cond (.t 14) (.skip) (.exit 0)) (.seq (.block 1 (.seq (rgI b1v) (rgI b1u))) (rgI b1t)))
def b1s : List AIns := [mvI 24 5,
 mvI 4 24]
def c8k : ACode := .seq (rgI b1y) (.seq (rgI b1x) (.seq (.seq (rgI b1w) (.block 0 (.loop c6f))) (.seq (rgI b1s) (.ret))))
theorem c6e : fchk Pr (fun _ _ => false) Try.f37 = some (c8k, [.tmp 4], 25) := by kernel_rfl
theorem c6g : Pr.funcs[a7G]? = some Try.f37 := Try.func37
def b1P : List AIns := [⟨some 3, none, .e (.box 2 (.c (.agg [.bool false, .nil])))⟩]
def b1O : List AIns := [opI 4 (.load none (.t 1)),
 mvI 5 0,
 ⟨some 6, none, .call b8S [(.t 4), (.t 5)]⟩,
 ⟨none, none, .e (.store 2 (.t 3) (.t 6))⟩]
def c8v : ACode := .seq (rgI b1P) (.seq (rgI b1O) (.ret))
theorem c6p : fchk Pr (fun _ _ => false) Try.f38 = some (c8v, [.cell 3 (some 2)], 7) := by kernel_rfl
theorem c6q : Pr.funcs[a4z]? = some Try.f38 := Try.func38
def a4y : List AIns := [opI 2 (.mv (.c (.int .i64 0))),
 opI 3 (.mv (.c (.int .i64 0)))]
def a4x : List AIns := [mvI 8 0,
 ⟨some 9, none, .call b2z [(.t 8)]⟩,
 mvI 7 9,
 opI 10 (.ext (.t 7) 0),
 opI 11 (.ext (.t 7) 1),
 opI 12 (.ext (.t 7) 2),
 mvI 4 10,
 mvI 5 11,
 mvI 6 12]
def a4w : List AIns := [mvI 13 6,
 opI 14 (.bin .eql (.t 13) (.c (.int .i64 0))),
 mvI 15 14,
 ⟨some 16, some (15, true), .p (.mv (.t 4))⟩,
 ⟨some 17, some (15, true), .p (.mv (.t 5))⟩,
 ⟨some 18, some (15, true), .p (.bin .neq (.t 16) (.t 17))⟩,
 opI 19 (.pick (.t 15) (.t 18) (.c (.bool false)))]
def b4i : List AIns := [opI 6 (.mv (.c (.int .i64 8)))]
def a4v : List AIns := [mvI 20 4,
 mvI 21 6,
 mvI 2 20,
 mvI 3 21]
def d2o : ACode := .seq (rgI a4y) (.seq (rgI a4x) (.seq (.seq (rgI a4w) (.cond (.t 19) (rgI b4i) (.skip))) (.seq (rgI a4v) (.ret))))
theorem a7w : fchk Pr (fun _ _ => false) Try.f39 = some (d2o, [.tmp 2, .tmp 3], 22) := by kernel_rfl
theorem a7x : Pr.funcs[a5v]? = some Try.f39 := Try.func39
def c7c : List AIns := [⟨some 2, none, .e (.box 2 (.c (.agg [.bool false, .nil])))⟩]
def c7b : List AIns := [mvI 8 0,
 opI 9 (.len (.t 8)),
 mvI 3 9]
def c7a : List AIns := [mvI 11 0,
 mvI 12 3,
 ⟨some 13, none, .call a4A [(.t 11), (.t 12)]⟩,
 mvI 10 13,
 opI 14 (.ext (.t 10) 0),
 opI 15 (.ext (.t 10) 1),
 opI 16 (.ext (.t 10) 2),
 opI 17 (.ext (.t 10) 3),
 ⟨some 6, none, .e (.box 2 (.c (.agg [.bool false, .nil])))⟩,
 mvI 4 14,
 mvI 5 15,
 ⟨none, none, .e (.store 2 (.t 6) (.t 16))⟩,
 mvI 7 17]
def c6Z : List AIns := [mvI 19 5,
 opI 20 (.len (.t 19)),
 mvI 21 3,
 opI 22 (.bin .lss (.t 20) (.t 21)),
 mvI 18 22]
def c6Y : List AIns := [opI 23 (.bld [.bool false, .nil] []),
 ⟨none, none, .e (.store 2 (.t 2) (.t 23))⟩]
def c6X : List AIns := [mvI 25 7,
 mvI 24 25]
def c6W : List AIns := [opI 26 (.load (some 2) (.t 6)),
 ⟨some 27, none, .call a5B [(.t 26)]⟩,
 ⟨none, none, .e (.store 2 (.t 2) (.t 27))⟩]
def c6V : List AIns := [opI 28 (.load (some 2) (.t 6)),
 ⟨some 29, none, .call b5r [(.t 28)]⟩,
 ⟨none, none, .e (.store 2 (.t 2) (.t 29))⟩]
def e1r : ACode := .seq (rgI c7c) (.seq (rgI c7b) (.seq (rgI c7a) (.seq (.block 0 (.seq (rgI c6Z) (.cond (.t 18) (.seq (rgI c6Y) (.ret)) (.seq (rgI c6X) (.cond (.t 24) (.seq (rgI c6W) (.ret)) (.skip)))))) (.seq (rgI c6V) (.ret)))))
theorem d7W : fchk Pr (fun _ _ => false) Try.f40 = some (e1r, [.cell 2 (some 2)], 30) := by kernel_rfl
theorem d7X : Pr.funcs[a8m]? = some Try.f40 := Try.func40
def c0w : List AIns := [⟨some 1, none, .e (.box 2 (.t 0))⟩,
 opI 2 (.mv (.c (.int .i64 0)))]
def c0v : List AIns := [opI 4 (.fldp (.t 1) 1),
 opI 5 (.load none (.t 4)),
 ⟨some 6, none, .call b2U [(.t 5)]⟩,
 opI 7 (.bin .eql (.t 6) (.c (.int .i64 0))),
 mvI 3 7]
def c0u : List AIns := [opI 2 (.mv (.c (.int .i64 0)))]
def c0t : List AIns := [opI 9 (.fldp (.t 1) 0),
 opI 10 (.load none (.t 9)),
 mvI 8 10]
def c0s : List AIns := [opI 2 (.mv (.c (.int .i64 (-1))))]
def c0r : List AIns := [opI 2 (.mv (.c (.int .i64 1)))]
def d6h : ACode := .seq (rgI c0w) (.seq (.block 0 (.seq (rgI c0v) (.cond (.t 3) (.seq (rgI c0u) (.ret)) (.seq (rgI c0t) (.cond (.t 8) (.seq (rgI c0s) (.ret)) (.skip)))))) (.seq (rgI c0r) (.ret)))
theorem d2O : fchk Pr (fun _ _ => false) Try.f41 = some (d6h, [.tmp 2], 11) := by kernel_rfl
theorem d2P : Pr.funcs[a1L]? = some Try.f41 := Try.func41
def b0h : List AIns := [⟨some 6, none, .e (.box 2 (.c (.agg [.bool false, .nil])))⟩]
def b0g : List AIns := [opI 7 (.mv (.c (.nil)))]
def b0f : List AIns := [mvI 10 0,
 opI 11 (.len (.t 10)),
 opI 12 (.mv (.c (.int .i64 0)))]
def a4L : List AIns := [opI 13 (.bin .lss (.t 12) (.t 11))]
def b0e : List AIns := [mvI 14 12,
 mvI 8 14]
def a4K : List AIns := [mvI 15 8,
 mvI 16 1,
 opI 17 (.bin .neq (.t 15) (.t 16))]
def b0d : List AIns := [mvI 18 7,
 mvI 19 0,
 mvI 20 8,
 opI 21 (.idxp 1 (.t 19) (.t 20)),
 opI 22 (.load none (.t 21)),
 mvI 23 2,
 opI 24 (.slc 2 (.t 22) none (some (.t 23)) none),
 ⟨some 25, none, .e (.app 2 32 false (.c (.nil)) (.t 24))⟩,
 mvI 26 0,
 mvI 27 8,
 opI 28 (.idxp 1 (.t 26) (.t 27)),
 opI 29 (.load none (.t 28)),
 mvI 30 2,
 opI 31 (.bin .add (.t 30) (.c (.int .i64 1))),
 opI 32 (.slc 2 (.t 29) (some (.t 31)) none none),
 ⟨some 33, none, .e (.app 2 32 false (.t 25) (.t 32))⟩,
 ⟨some 34, none, .e (.bslm 1 [(.t 33)])⟩,
 ⟨some 35, none, .e (.app 1 24 false (.t 18) (.t 34))⟩,
 mvI 7 35]
def a8c : List AIns := []
def a8b : List AIns := []
def a4J : List AIns := [opI 36 (.bin .add (.t 12) (.c (.int .i64 1))),
 mvI 12 36]
def c3D : ACode := .seq (rgI a4L) (.seq (.cond (.t 13) (.skip) (.exit 0)) (.seq (.block 1 (.seq (rgI b0e) (.seq (rgI a4K) (.cond (.t 17) (.regionX b0d a8c a8b [(0, 0), (8, 8), (26, 26), (27, 27), (28, 28), (2, 2), (30, 30), (29, 29), (31, 31)]) (.skip))))) (rgI a4J)))
def b0c : List AIns := [mvI 37 7,
 ⟨some 38, none, .call a8m [(.t 37)]⟩,
 ⟨some 9, none, .e (.box 2 (.c (.agg [.bool false, .nil])))⟩,
 ⟨none, none, .e (.store 2 (.t 9) (.t 38))⟩]
def a4I : List AIns := [mvI 39 1,
 mvI 40 2,
 opI 41 (.bin .add (.t 39) (.t 40)),
 opI 42 (.bin .rem (.t 41) (.c (.int .i64 2))),
 opI 43 (.bin .eql (.t 42) (.c (.int .i64 1)))]
def a8e : List AIns := [opI 44 (.load (some 2) (.t 9)),
 ⟨some 45, none, .call a5B [(.t 44)]⟩,
 ⟨none, none, .e (.store 2 (.t 6) (.t 45))⟩]
def a8d : List AIns := [opI 46 (.load (some 2) (.t 9)),
 ⟨none, none, .e (.store 2 (.t 6) (.t 46))⟩]
def c7d : ACode := .seq (rgI b0h) (.seq (rgI b0g) (.seq (.seq (rgI b0f) (.block 0 (.loop c3D))) (.seq (rgI b0c) (.seq (.seq (rgI a4I) (.cond (.t 43) (.seq (rgI a8e) (.ret)) (.skip))) (.seq (rgI a8d) (.ret))))))
theorem c3C : fchk Pr (fun _ k => (k == 16)) Try.f42 = some (c7d, [.cell 6 (some 2)], 47) := by kernel_rfl
theorem c3E : Pr.funcs[a6l]? = some Try.f42 := Try.func42
def b8s : List AIns := [⟨some 3, none, .e (.box 2 (.t 1))⟩,
 opI 4 (.mv (.c (.nil))),
 ⟨some 5, none, .e (.box 2 (.c (.agg [.bool false, .nil])))⟩]
def b8r : List AIns := [opI 18 (.load (some 2) (.t 3)),
 ⟨some 19, none, .call c0j [(.t 18)]⟩,
 ⟨some 6, none, .e (.box 2 (.c (.agg [.bool false, .nil])))⟩,
 ⟨none, none, .e (.store 2 (.t 6) (.t 19))⟩]
def b8q : List AIns := [mvI 20 0,
 opI 21 (.len (.t 20)),
 opI 22 (.mv (.c (.int .i64 0)))]
def a9C : List AIns := [opI 23 (.bin .lss (.t 22) (.t 21))]
def b8p : List AIns := [opI 24 (.idxp 2 (.t 20) (.t 22)),
 opI 25 (.load (some 2) (.t 24)),
 ⟨some 8, none, .e (.box 2 (.c (.agg [.bool false, .nil])))⟩,
 ⟨none, none, .e (.store 2 (.t 8) (.t 25))⟩]
def b8o : List AIns := [opI 26 (.load (some 2) (.t 6)),
 opI 27 (.load (some 2) (.t 8)),
 ⟨some 28, none, .call c0i [(.t 26), (.t 27)]⟩,
 ⟨none, none, .e (.store 2 (.t 6) (.t 28))⟩]
def b8n : List AIns := [opI 29 (.bin .add (.t 22) (.c (.int .i64 1))),
 mvI 22 29]
def d2m : ACode := .seq (rgI a9C) (.seq (.cond (.t 23) (.skip) (.exit 0)) (.seq (.block 1 (.seq (rgI b8p) (rgI b8o))) (rgI b8n)))
def b8m : List AIns := [opI 30 (.load (some 2) (.t 3)),
 ⟨some 31, none, .call a1L [(.t 30)]⟩,
 opI 32 (.bin .lss (.t 31) (.c (.int .i64 0)))]
def b8l : List AIns := [opI 33 (.load (some 2) (.t 6)),
 ⟨some 34, none, .call a5B [(.t 33)]⟩,
 ⟨none, none, .e (.store 2 (.t 6) (.t 34))⟩]
def a9B : List AIns := [opI 9 (.mv (.c (.nil)))]
def a7v : List AIns := [mvI 35 0,
 opI 36 (.len (.t 35)),
 opI 37 (.mv (.c (.int .i64 0)))]
def a7u : List AIns := [opI 38 (.bin .lss (.t 37) (.t 36))]
def b4h : List AIns := [opI 39 (.idxp 2 (.t 35) (.t 37)),
 opI 40 (.load (some 2) (.t 39)),
 ⟨some 11, none, .e (.box 2 (.c (.agg [.bool false, .nil])))⟩,
 ⟨none, none, .e (.store 2 (.t 11) (.t 40))⟩]
def b4g : List AIns := [opI 42 (.load (some 2) (.t 11)),
 opI 43 (.load (some 2) (.t 6)),
 ⟨some 44, none, .call a1Z [(.t 42), (.t 43)]⟩,
 mvI 41 44,
 opI 45 (.ext (.t 41) 0),
 opI 46 (.ext (.t 41) 1),
 opI 47 (.ext (.t 41) 2),
 ⟨some 12, none, .e (.box 2 (.c (.agg [.bool false, .nil])))⟩,
 ⟨some 13, none, .e (.box 2 (.c (.agg [.bool false, .nil])))⟩,
 ⟨none, none, .e (.store 2 (.t 12) (.t 45))⟩,
 ⟨none, none, .e (.store 2 (.t 13) (.t 46))⟩,
 mvI 14 47]
def b4f : List AIns := [mvI 48 9,
 opI 49 (.load (some 2) (.t 12)),
 ⟨some 50, none, .e (.bsl 2 [(.t 49)])⟩,
 ⟨some 51, none, .e (.app 2 32 false (.t 48) (.t 50))⟩,
 mvI 9 51]
def b4e : List AIns := [opI 52 (.bin .add (.t 37) (.c (.int .i64 1))),
 mvI 37 52]
def b8t : ACode := .seq (rgI a7u) (.seq (.cond (.t 38) (.skip) (.exit 2)) (.seq (.block 3 (.seq (rgI b4h) (.seq (rgI b4g) (rgI b4f)))) (rgI b4e)))
def a7t : List AIns := [opI 54 (.load (some 2) (.t 3)),
 opI 55 (.load (some 2) (.t 6)),
 ⟨some 56, none, .call a1Z [(.t 54), (.t 55)]⟩,
 mvI 53 56,
 opI 57 (.ext (.t 53) 0),
 opI 58 (.ext (.t 53) 1),
 opI 59 (.ext (.t 53) 2),
 ⟨some 15, none, .e (.box 2 (.c (.agg [.bool false, .nil])))⟩,
 ⟨some 16, none, .e (.box 2 (.c (.agg [.bool false, .nil])))⟩,
 ⟨none, none, .e (.store 2 (.t 15) (.t 57))⟩,
 ⟨none, none, .e (.store 2 (.t 16) (.t 58))⟩,
 mvI 17 59]
def a7s : List AIns := [mvI 60 9,
 opI 61 (.load (some 2) (.t 15)),
 mvI 4 60,
 ⟨none, none, .e (.store 2 (.t 5) (.t 61))⟩]
def d5E : ACode := .seq (rgI b8s) (.seq (rgI b8r) (.seq (.seq (rgI b8q) (.block 0 (.loop d2m))) (.seq (.seq (rgI b8m) (.cond (.t 32) (rgI b8l) (.skip))) (.seq (rgI a9B) (.seq (.seq (rgI a7v) (.block 2 (.loop b8t))) (.seq (rgI a7t) (.seq (.region a7s true) (.ret))))))))
theorem d2l : fchk Pr (fun _ _ => false) Try.f43 = some (d5E, [.tmp 4, .cell 5 (some 2)], 62) := by kernel_rfl
theorem d2n : Pr.funcs[a6R]? = some Try.f43 := Try.func43
def b5L : List AIns := [⟨some 2, none, .e (.box 2 (.t 0))⟩,
 ⟨some 3, none, .e (.box 2 (.t 1))⟩,
 ⟨some 4, none, .e (.box 2 (.c (.agg [.bool false, .nil])))⟩,
 ⟨some 5, none, .e (.box 2 (.c (.agg [.bool false, .nil])))⟩,
 opI 6 (.mv (.c (.int .i64 0)))]
def b5K : List AIns := [opI 13 (.fldp (.t 2) 1),
 opI 14 (.load none (.t 13)),
 opI 15 (.fldp (.t 3) 1),
 opI 16 (.load none (.t 15)),
 ⟨some 17, none, .call b8R [(.t 14), (.t 16)]⟩,
 mvI 12 17,
 opI 18 (.ext (.t 12) 0),
 opI 19 (.ext (.t 12) 1),
 opI 20 (.ext (.t 12) 2),
 mvI 7 18,
 mvI 8 19,
 mvI 9 20]
def b5J : List AIns := [mvI 21 9,
 opI 22 (.bin .neq (.t 21) (.c (.int .i64 0)))]
def d0K : List AIns := [opI 23 (.bld [.bool false, .nil] []),
 opI 24 (.bld [.bool false, .nil] []),
 ⟨none, none, .e (.store 2 (.t 4) (.t 23))⟩,
 ⟨none, none, .e (.store 2 (.t 5) (.t 24))⟩,
 opI 6 (.mv (.c (.int .i64 11)))]
def b5I : List AIns := [opI 25 (.fldp (.t 2) 0),
 opI 26 (.load none (.t 25)),
 opI 27 (.fldp (.t 3) 0),
 opI 28 (.load none (.t 27)),
 opI 29 (.beq true (.t 26) (.t 28)),
 mvI 30 7,
 ⟨some 31, none, .call a1a [(.t 29), (.t 30)]⟩,
 opI 32 (.fldp (.t 2) 0),
 opI 33 (.load none (.t 32)),
 mvI 34 8,
 ⟨some 35, none, .call a1a [(.t 33), (.t 34)]⟩]
def b3a : List AIns := [⟨some 10, none, .e (.box 2 (.c (.agg [.bool false, .nil])))⟩,
 ⟨some 11, none, .e (.box 2 (.c (.agg [.bool false, .nil])))⟩,
 ⟨none, none, .e (.store 2 (.t 10) (.t 31))⟩,
 ⟨none, none, .e (.store 2 (.t 11) (.t 35))⟩]
def b2Z : List AIns := [⟨some 11, none, .e (.box 2 (.c (.agg [.bool false, .nil])))⟩,
 ⟨some 10, none, .e (.box 2 (.c (.agg [.bool false, .nil])))⟩,
 ⟨none, none, .e (.store 2 (.t 10) (.t 31))⟩,
 ⟨none, none, .e (.store 2 (.t 11) (.t 35))⟩]
def b5H : List AIns := [opI 36 (.load (some 2) (.t 11)),
 ⟨some 37, none, .call a1L [(.t 36)]⟩,
 opI 38 (.bin .neq (.t 37) (.c (.int .i64 0))),
 mvI 39 38,
 ⟨some 40, some (39, true), .p (.load (some 2) (.t 11))⟩,
 ⟨some 41, some (39, true), .call a1L [(.t 40)]⟩,
 ⟨some 42, some (39, true), .p (.load (some 2) (.t 3))⟩,
 ⟨some 43, some (39, true), .call a1L [(.t 42)]⟩,
 ⟨some 44, some (39, true), .p (.bin .neq (.t 41) (.t 43))⟩,
 opI 45 (.pick (.t 39) (.t 44) (.c (.bool false)))]
def d0J : List AIns := [opI 46 (.load (some 2) (.t 10)),
 ⟨some 47, none, .call a8g [(.c (.int .i64 1))]⟩,
 ⟨some 48, none, .call a5A [(.t 46), (.t 47)]⟩,
 opI 49 (.load (some 2) (.t 11)),
 opI 50 (.load (some 2) (.t 3)),
 ⟨some 51, none, .call a4i [(.t 49), (.t 50)]⟩,
 ⟨none, none, .e (.store 2 (.t 10) (.t 48))⟩,
 ⟨none, none, .e (.store 2 (.t 11) (.t 51))⟩]
def b5G : List AIns := [opI 52 (.load (some 2) (.t 10)),
 opI 53 (.load (some 2) (.t 11)),
 ⟨none, none, .e (.store 2 (.t 4) (.t 52))⟩,
 ⟨none, none, .e (.store 2 (.t 5) (.t 53))⟩,
 opI 6 (.mv (.c (.int .i64 0)))]
def b2Y : List AIns := []
def b2X : List AIns := []
def d2S : ACode := .seq (rgI b5L) (.seq (rgI b5K) (.seq (.seq (rgI b5J) (.cond (.t 22) (.seq (rgI d0K) (.ret)) (.skip))) (.seq (.regionX b5I b3a b2Z []) (.seq (.seq (.region b5H true) (.cond (.t 45) (.region d0J true) (.skip))) (.seq (.regionX b5G b2Y b2X [(11, 4)]) (.ret))))))
theorem d0L : fchk Pr (fun _ _ => false) Try.f44 = some (d2S, [.cell 4 (some 2), .cell 5 (some 2), .tmp 6], 54) := by kernel_rfl
theorem d0M : Pr.funcs[a1Z]? = some Try.f44 := Try.func44
def b0a : List AIns := [opI 3 (.mv (.c (.nil)))]
def a9Z : List AIns := [mvI 4 0,
 opI 5 (.load none (.t 1)),
 ⟨some 6, none, .call a9R [(.t 4), (.t 5)]⟩,
 mvI 3 6]
def c6k : ACode := .seq (rgI b0a) (.seq (rgI a9Z) (.ret))
theorem c3A : fchk Pr (fun _ _ => false) Try.f45 = some (c6k, [.tmp 3], 7) := by kernel_rfl
theorem c3B : Pr.funcs[a3X]? = some Try.f45 := Try.func45
def b3R : List AIns := [opI 4 (.mv (.c (.nil)))]
def b3Q : List AIns := [mvI 10 1,
 opI 11 (.len (.t 10)),
 opI 12 (.bin .eql (.t 11) (.c (.int .i64 0)))]
def b3P : List AIns := [opI 4 (.mv (.c (.nil)))]
def b3O : List AIns := [mvI 13 1,
 opI 14 (.idxp 1 (.t 13) (.c (.int .i64 0))),
 opI 15 (.load none (.t 14)),
 opI 16 (.len (.t 15)),
 ⟨some 17, none, .e (.mksl 2 32 (.agg [.bool false, .nil]) (.t 16) (.t 16))⟩,
 mvI 5 17]
def b3N : List AIns := [mvI 18 1,
 opI 19 (.len (.t 18)),
 opI 20 (.mv (.c (.int .i64 0)))]
def a7o : List AIns := [opI 21 (.bin .lss (.t 20) (.t 19))]
def b3M : List AIns := [mvI 22 20,
 opI 23 (.idxp 1 (.t 18) (.t 20)),
 opI 24 (.load none (.t 23)),
 mvI 6 22,
 mvI 7 24]
def b3L : List AIns := [mvI 25 7,
 opI 26 (.len (.t 25)),
 opI 27 (.mv (.c (.int .i64 0)))]
def a7n : List AIns := [opI 28 (.bin .lss (.t 27) (.t 26))]
def b3K : List AIns := [mvI 29 27,
 opI 30 (.idxp 2 (.t 25) (.t 27)),
 opI 31 (.load (some 2) (.t 30)),
 ⟨some 9, none, .e (.box 2 (.c (.agg [.bool false, .nil])))⟩,
 mvI 8 29,
 ⟨none, none, .e (.store 2 (.t 9) (.t 31))⟩]
def b1J : List AIns := [mvI 32 5,
 mvI 33 8,
 mvI 34 5,
 mvI 35 8,
 opI 36 (.idxp 2 (.t 34) (.t 35)),
 opI 37 (.load (some 2) (.t 36)),
 mvI 38 0,
 mvI 39 6,
 opI 40 (.idxp 2 (.t 38) (.t 39)),
 opI 41 (.load (some 2) (.t 40)),
 opI 42 (.load (some 2) (.t 9)),
 ⟨some 43, none, .call a1V [(.t 41), (.t 42)]⟩,
 ⟨some 44, none, .call a4i [(.t 37), (.t 43)]⟩,
 opI 45 (.idxp 2 (.t 32) (.t 33)),
 ⟨none, none, .e (.store 2 (.t 45) (.t 44))⟩]
def b1I : List AIns := [opI 46 (.bin .add (.t 27) (.c (.int .i64 1))),
 mvI 27 46]
def c8n : ACode := .seq (rgI a7n) (.seq (.cond (.t 28) (.skip) (.exit 2)) (.seq (.block 3 (.seq (rgI b3K) (.region b1J true))) (rgI b1I)))
def b1H : List AIns := [opI 47 (.bin .add (.t 20) (.c (.int .i64 1))),
 mvI 20 47]
def c8o : ACode := .seq (rgI a7o) (.seq (.cond (.t 21) (.skip) (.exit 0)) (.seq (.block 1 (.seq (rgI b3M) (.seq (rgI b3L) (.block 2 (.loop c8n))))) (rgI b1H)))
def b1G : List AIns := [mvI 48 5,
 mvI 4 48]
def d1R : ACode := .seq (rgI b3R) (.seq (.seq (rgI b3Q) (.cond (.t 12) (.seq (rgI b3P) (.ret)) (.skip))) (.seq (rgI b3O) (.seq (.seq (rgI b3N) (.block 0 (.loop c8o))) (.seq (rgI b1G) (.ret)))))
theorem c8m : fchk Pr (fun _ _ => false) Try.f46 = some (d1R, [.tmp 4], 49) := by kernel_rfl
theorem c8p : Pr.funcs[a9R]? = some Try.f46 := Try.func46
def b1F : List AIns := [opI 4 (.mv (.c (.nil)))]
def b1E : List AIns := [mvI 8 0,
 opI 9 (.len (.t 8)),
 ⟨some 10, none, .e (.mksl 2 32 (.agg [.bool false, .nil]) (.c (.int .i64 0)) (.t 9))⟩,
 mvI 5 10]
def b1D : List AIns := [mvI 11 0,
 opI 12 (.len (.t 11)),
 opI 13 (.mv (.c (.int .i64 0)))]
def a5X : List AIns := [opI 14 (.bin .lss (.t 13) (.t 12))]
def b1C : List AIns := [opI 15 (.idxp 2 (.t 11) (.t 13)),
 opI 16 (.load (some 2) (.t 15)),
 ⟨some 7, none, .e (.box 2 (.c (.agg [.bool false, .nil])))⟩,
 ⟨none, none, .e (.store 2 (.t 7) (.t 16))⟩]
def b1B : List AIns := [mvI 17 5,
 mvI 18 1,
 opI 19 (.load (some 2) (.t 7)),
 ⟨some 20, none, .callv (.t 18) [(.t 19)]⟩,
 ⟨some 21, none, .e (.bsl 2 [(.t 20)])⟩,
 ⟨some 22, none, .e (.app 2 32 false (.t 17) (.t 21))⟩,
 mvI 5 22]
def b1A : List AIns := [opI 23 (.bin .add (.t 13) (.c (.int .i64 1))),
 mvI 13 23]
def c6i : ACode := .seq (rgI a5X) (.seq (.cond (.t 14) (.skip) (.exit 0)) (.seq (.block 1 (.seq (rgI b1C) (rgI b1B))) (rgI b1A)))
def b1z : List AIns := [mvI 24 5,
 mvI 4 24]
def c8l : ACode := .seq (rgI b1F) (.seq (rgI b1E) (.seq (.seq (rgI b1D) (.block 0 (.loop c6i))) (.seq (rgI b1z) (.ret))))
theorem c6h : fchk Pr (fun _ _ => false) Try.f47 = some (c8l, [.tmp 4], 25) := by kernel_rfl
theorem c6j : Pr.funcs[a7H]? = some Try.f47 := Try.func47
def b3T : List AIns := [⟨some 2, none, .e (.box 2 (.t 0))⟩,
 ⟨some 3, none, .e (.box 2 (.c (.agg [.bool false, .nil])))⟩]
def b3S : List AIns := [opI 4 (.load (some 2) (.t 1)),
 opI 5 (.load (some 2) (.t 2)),
 ⟨some 6, none, .call a1V [(.t 4), (.t 5)]⟩,
 ⟨none, none, .e (.store 2 (.t 3) (.t 6))⟩]
def d1S : ACode := .seq (rgI b3T) (.seq (rgI b3S) (.ret))
theorem c8q : fchk Pr (fun _ _ => false) Try.f48 = some (d1S, [.cell 3 (some 2)], 7) := by kernel_rfl
theorem c8r : Pr.funcs[a5u]? = some Try.f48 := Try.func48
def c4m : List AIns := [⟨some 2, none, .e (.box 2 (.t 0))⟩,
 ⟨some 3, none, .e (.box 2 (.t 1))⟩,
 ⟨some 4, none, .e (.box 2 (.c (.agg [.bool false, .nil])))⟩]
def c4l : List AIns := [opI 5 (.fldp (.t 2) 0),
 opI 6 (.load none (.t 5)),
 opI 7 (.fldp (.t 3) 0),
 opI 8 (.load none (.t 7)),
 opI 9 (.beq true (.t 6) (.t 8)),
 opI 10 (.fldp (.t 2) 1),
 opI 11 (.load none (.t 10)),
 opI 12 (.fldp (.t 3) 1),
 opI 13 (.load none (.t 12)),
 ⟨some 14, none, .call a8j [(.t 11), (.t 13)]⟩,
 ⟨some 15, none, .call a1a [(.t 9), (.t 14)]⟩,
 ⟨none, none, .e (.store 2 (.t 4) (.t 15))⟩]
def d9z : ACode := .seq (rgI c4m) (.seq (.region c4l true) (.ret))
theorem d6k : fchk Pr (fun _ _ => false) Try.f49 = some (d9z, [.cell 4 (some 2)], 16) := by kernel_rfl
theorem d6l : Pr.funcs[a1V]? = some Try.f49 := Try.func49
def b7t : List AIns := [opI 2 (.mv (.c (.int .i64 0)))]
def b7s : List AIns := [mvI 6 0,
 opI 7 (.len (.t 6)),
 opI 8 (.bin .sub (.t 7) (.c (.int .i64 1))),
 mvI 3 8]
def a8V : List AIns := [mvI 9 3,
 opI 10 (.bin .geq (.t 9) (.c (.int .i64 0)))]
def b7r : List AIns := [mvI 13 0,
 mvI 14 3,
 opI 15 (.idxp 1 (.t 13) (.t 14)),
 opI 16 (.load none (.t 15)),
 opI 17 (.bin .neq (.t 16) (.c (.int .u32 0)))]
def b7q : List AIns := [mvI 18 3,
 opI 19 (.bin .mul (.c (.int .i64 32)) (.t 18)),
 mvI 4 19]
def b7p : List AIns := [mvI 20 0,
 mvI 21 3,
 opI 22 (.idxp 1 (.t 20) (.t 21)),
 opI 23 (.load none (.t 22)),
 mvI 5 23]
def a8U : List AIns := [mvI 24 5,
 opI 25 (.bin .gtr (.t 24) (.c (.int .u32 0)))]
def b7o : List AIns := [mvI 28 4,
 opI 29 (.bin .add (.t 28) (.c (.int .i64 1))),
 mvI 4 29]
def b7n : List AIns := [mvI 26 5,
 opI 27 (.bin .quo (.t 26) (.c (.int .u32 2))),
 mvI 5 27]
def b7u : ACode := .seq (.seq (rgI a8U) (.cond (.t 25) (.skip) (.exit 2))) (.seq (.block 3 (rgI b7o)) (rgI b7n))
def a8T : List AIns := [mvI 30 4,
 mvI 2 30]
def b3H : List AIns := [mvI 11 3,
 opI 12 (.bin .sub (.t 11) (.c (.int .i64 1))),
 mvI 3 12]
def b7v : ACode := .seq (.seq (rgI a8V) (.cond (.t 10) (.skip) (.exit 0))) (.seq (.block 1 (.seq (rgI b7r) (.cond (.t 17) (.seq (rgI b7q) (.seq (.seq (rgI b7p) (.block 2 (.loop b7u))) (.seq (rgI a8T) (.ret)))) (.skip)))) (rgI b3H))
def a7l : List AIns := [opI 2 (.mv (.c (.int .i64 0)))]
def d4y : ACode := .seq (rgI b7t) (.seq (.seq (rgI b7s) (.block 0 (.loop b7v))) (.seq (rgI a7l) (.ret)))
theorem d1F : fchk Pr (fun _ _ => false) Try.f50 = some (d4y, [.tmp 2], 31) := by kernel_rfl
theorem d1G : Pr.funcs[a2a]? = some Try.f50 := Try.func50
def c4W : List AIns := [⟨some 1, none, .e (.box 2 (.t 0))⟩,
 ⟨some 2, none, .e (.box 4 (.c (.agg [.bool false, .nil, .bool false, .nil])))⟩]
def c4V : List AIns := [opI 3 (.load (some 2) (.t 1)),
 ⟨some 4, none, .call a3x [(.t 3)]⟩,
 ⟨some 5, none, .call b5t []⟩,
 opI 6 (.bld [.bool false, .nil, .bool false, .nil] [(0, 2, (.t 4)), (2, 2, (.t 5))]),
 ⟨none, none, .e (.store 4 (.t 2) (.t 6))⟩]
def e0a : ACode := .seq (rgI c4W) (.seq (rgI c4V) (.ret))
theorem d6K : fchk Pr (fun _ _ => false) Try.f51 = some (e0a, [.cell 2 (some 4)], 7) := by kernel_rfl
theorem d6L : Pr.funcs[b2S]? = some Try.f51 := Try.func51
def c0K : List AIns := [⟨some 4, none, .e (.box 2 (.c (.agg [.bool false, .nil])))⟩]
def c0J : List AIns := [⟨some 5, none, .e (.box 2 (.c (.agg [.bool false, .nil])))⟩]
def c0I : List AIns := [opI 6 (.mv (.c (.int .i64 0)))]
def b0Y : List AIns := [mvI 7 6,
 mvI 8 0,
 opI 9 (.len (.t 8)),
 opI 10 (.bin .lss (.t 7) (.t 9)),
 mvI 11 10,
 ⟨some 12, some (11, true), .p (.mv (.t 6))⟩,
 ⟨some 13, some (11, true), .p (.mv (.t 1))⟩,
 ⟨some 14, some (11, true), .p (.len (.t 13))⟩,
 ⟨some 15, some (11, true), .p (.bin .lss (.t 12) (.t 14))⟩,
 opI 16 (.pick (.t 11) (.t 15) (.c (.bool false)))]
def c0H : List AIns := [opI 19 (.load (some 2) (.t 5)),
 mvI 20 0,
 mvI 21 6,
 opI 22 (.idxp 2 (.t 20) (.t 21)),
 opI 23 (.load (some 2) (.t 22)),
 mvI 24 1,
 mvI 25 6,
 opI 26 (.idxp 2 (.t 24) (.t 25)),
 opI 27 (.load (some 2) (.t 26)),
 ⟨some 28, none, .call a1b [(.t 23), (.t 27)]⟩,
 ⟨some 29, none, .call a4l [(.t 19), (.t 28)]⟩,
 ⟨none, none, .e (.store 2 (.t 5) (.t 29))⟩]
def c0G : List AIns := [mvI 17 6,
 opI 18 (.bin .add (.t 17) (.c (.int .i64 1))),
 mvI 6 18]
def d3w : ACode := .seq (.seq (rgI b0Y) (.cond (.t 16) (.skip) (.exit 0))) (.seq (.block 1 (.region c0H true)) (rgI c0G))
def c0F : List AIns := [opI 30 (.load (some 2) (.t 5)),
 ⟨none, none, .e (.store 2 (.t 4) (.t 30))⟩]
def d6H : ACode := .seq (rgI c0K) (.seq (rgI c0J) (.seq (.seq (rgI c0I) (.block 0 (.loop d3w))) (.seq (rgI c0F) (.ret))))
theorem d3v : fchk Pr (fun _ _ => false) Try.f52 = some (d6H, [.cell 4 (some 2)], 31) := by kernel_rfl
theorem d3x : Pr.funcs[a9L]? = some Try.f52 := Try.func52
def c0O : List AIns := [⟨some 2, none, .e (.box 4 (.t 0))⟩,
 ⟨some 3, none, .e (.box 4 (.t 1))⟩,
 ⟨some 4, none, .e (.box 4 (.c (.agg [.bool false, .nil, .bool false, .nil])))⟩]
def c0N : List AIns := [opI 5 (.load (some 4) (.t 2)),
 opI 6 (.load (some 4) (.t 3)),
 ⟨some 7, none, .call b5u [(.t 6)]⟩,
 ⟨some 8, none, .call b5w [(.t 5), (.t 7)]⟩,
 ⟨none, none, .e (.store 4 (.t 4) (.t 8))⟩]
def d6J : ACode := .seq (rgI c0O) (.seq (.region c0N true) (.ret))
theorem d3A : fchk Pr (fun _ _ => false) Try.f53 = some (d6J, [.cell 4 (some 4)], 9) := by kernel_rfl
theorem d3B : Pr.funcs[a9M]? = some Try.f53 := Try.func53
def c0S : List AIns := [⟨some 2, none, .e (.box 4 (.t 0))⟩,
 ⟨some 3, none, .e (.box 4 (.t 1))⟩,
 ⟨some 4, none, .e (.box 4 (.c (.agg [.bool false, .nil, .bool false, .nil])))⟩]
def c0R : List AIns := [opI 5 (.fldp (.t 2) 0),
 opI 6 (.load (some 2) (.t 5)),
 opI 7 (.fldp (.t 3) 0),
 opI 8 (.load (some 2) (.t 7)),
 ⟨some 9, none, .call a1b [(.t 6), (.t 8)]⟩,
 opI 10 (.fldp (.t 2) 2),
 opI 11 (.load (some 2) (.t 10)),
 opI 12 (.fldp (.t 3) 2),
 opI 13 (.load (some 2) (.t 12)),
 ⟨some 14, none, .call a1b [(.t 11), (.t 13)]⟩,
 ⟨some 15, none, .call a2E [(.t 9), (.t 14)]⟩,
 ⟨none, none, .e (.store 4 (.t 4) (.t 15))⟩]
def d6N : ACode := .seq (rgI c0S) (.seq (.region c0R true) (.ret))
theorem d3E : fchk Pr (fun _ _ => false) Try.f54 = some (d6N, [.cell 4 (some 4)], 16) := by kernel_rfl
theorem d3F : Pr.funcs[a4j]? = some Try.f54 := Try.func54
def c0U : List AIns := [⟨some 2, none, .e (.box 4 (.t 0))⟩,
 ⟨some 3, none, .e (.box 4 (.t 1))⟩,
 ⟨some 4, none, .e (.box 4 (.c (.agg [.bool false, .nil, .bool false, .nil])))⟩]
def c0T : List AIns := [opI 5 (.fldp (.t 2) 0),
 opI 6 (.load (some 2) (.t 5)),
 opI 7 (.fldp (.t 3) 2),
 opI 8 (.load (some 2) (.t 7)),
 ⟨some 9, none, .call a1b [(.t 6), (.t 8)]⟩,
 opI 10 (.fldp (.t 2) 2),
 opI 11 (.load (some 2) (.t 10)),
 opI 12 (.fldp (.t 3) 0),
 opI 13 (.load (some 2) (.t 12)),
 ⟨some 14, none, .call a1b [(.t 11), (.t 13)]⟩,
 ⟨some 15, none, .call a2E [(.t 9), (.t 14)]⟩,
 ⟨none, none, .e (.store 4 (.t 4) (.t 15))⟩]
def d6O : ACode := .seq (rgI c0U) (.seq (.region c0T true) (.ret))
theorem d3H : fchk Pr (fun _ _ => false) Try.f55 = some (d6O, [.cell 4 (some 4)], 16) := by kernel_rfl
theorem d3I : Pr.funcs[b5v]? = some Try.f55 := Try.func55
def b0Q : List AIns := [⟨some 1, none, .e (.box 4 (.t 0))⟩,
 ⟨some 2, none, .e (.box 4 (.c (.agg [.bool false, .nil, .bool false, .nil])))⟩]
def b0P : List AIns := [opI 3 (.load (some 4) (.t 1)),
 opI 4 (.load (some 4) (.t 1)),
 ⟨some 5, none, .call a4j [(.t 3), (.t 4)]⟩,
 ⟨none, none, .e (.store 4 (.t 2) (.t 5))⟩]
def c7W : ACode := .seq (rgI b0Q) (.seq (rgI b0P) (.ret))
theorem c4T : fchk Pr (fun _ _ => false) Try.f56 = some (c7W, [.cell 2 (some 4)], 6) := by kernel_rfl
theorem c4U : Pr.funcs[a7F]? = some Try.f56 := Try.func56
def c4t : List AIns := [⟨some 2, none, .e (.box 2 (.t 0))⟩,
 ⟨some 3, none, .e (.box 2 (.t 1))⟩,
 ⟨some 4, none, .e (.box 2 (.c (.agg [.bool false, .nil])))⟩]
def c4s : List AIns := [opI 7 (.fldp (.t 2) 0),
 opI 8 (.load none (.t 7)),
 opI 9 (.fldp (.t 3) 0),
 opI 10 (.load none (.t 9)),
 opI 11 (.beq false (.t 8) (.t 10))]
def c4r : List AIns := [opI 12 (.fldp (.t 2) 0),
 opI 13 (.load none (.t 12)),
 opI 14 (.fldp (.t 2) 1),
 opI 15 (.load none (.t 14)),
 opI 16 (.fldp (.t 3) 1),
 opI 17 (.load none (.t 16)),
 ⟨some 18, none, .call a8l [(.t 15), (.t 17)]⟩,
 ⟨some 19, none, .call a1a [(.t 13), (.t 18)]⟩,
 ⟨none, none, .e (.store 2 (.t 4) (.t 19))⟩]
def c4q : List AIns := [opI 20 (.fldp (.t 2) 1),
 opI 21 (.load none (.t 20)),
 opI 22 (.fldp (.t 3) 1),
 opI 23 (.load none (.t 22)),
 ⟨some 24, none, .call a8k [(.t 21), (.t 23)]⟩,
 opI 25 (.bin .lss (.t 24) (.c (.int .i64 0)))]
def c4p : List AIns := [opI 26 (.load (some 2) (.t 3)),
 opI 27 (.load (some 2) (.t 2)),
 ⟨none, none, .e (.store 2 (.t 2) (.t 26))⟩,
 ⟨none, none, .e (.store 2 (.t 3) (.t 27))⟩]
def b4M : List AIns := [opI 29 (.fldp (.t 2) 1),
 opI 30 (.load none (.t 29)),
 opI 31 (.fldp (.t 3) 1),
 opI 32 (.load none (.t 31)),
 ⟨some 33, none, .call c7R [(.t 30), (.t 32)]⟩,
 mvI 28 33,
 opI 34 (.ext (.t 28) 0),
 opI 35 (.ext (.t 28) 1),
 mvI 5 34,
 mvI 6 35]
def b4L : List AIns := [opI 36 (.fldp (.t 2) 0),
 opI 37 (.load none (.t 36)),
 mvI 38 5,
 ⟨some 39, none, .call a1a [(.t 37), (.t 38)]⟩,
 ⟨none, none, .e (.store 2 (.t 4) (.t 39))⟩]
def d9B : ACode := .seq (rgI c4t) (.seq (.seq (rgI c4s) (.cond (.t 11) (.seq (.region c4r true) (.ret)) (.skip))) (.seq (.seq (rgI c4q) (.cond (.t 25) (rgI c4p) (.skip))) (.seq (rgI b4M) (.seq (rgI b4L) (.ret)))))
theorem d6q : fchk Pr (fun _ _ => false) Try.f57 = some (d9B, [.cell 4 (some 2)], 40) := by kernel_rfl
theorem d6r : Pr.funcs[a4i]? = some Try.f57 := Try.func57
def c2x : List AIns := [opI 4 (.mv (.c (.nil)))]
def c2w : List AIns := [opI 5 (.mv (.c (.nil)))]
def c2v : List AIns := [opI 6 (.mv (.c (.int .u64 0)))]
def c2u : List AIns := [opI 7 (.mv (.c (.int .i64 0)))]
def b1g : List AIns := [mvI 8 7,
 mvI 9 0,
 opI 10 (.len (.t 9)),
 mvI 11 1,
 opI 12 (.len (.t 11)),
 ⟨some 13, none, .call a6O [(.t 10), (.t 12)]⟩,
 opI 14 (.bin .lss (.t 8) (.t 13))]
def c2t : List AIns := [mvI 17 6,
 mvI 18 0,
 mvI 19 7,
 ⟨some 20, none, .call a0R [(.t 18), (.t 19)]⟩,
 opI 21 (.bin .add (.t 17) (.t 20)),
 mvI 22 1,
 mvI 23 7,
 ⟨some 24, none, .call a0R [(.t 22), (.t 23)]⟩,
 opI 25 (.bin .add (.t 21) (.t 24)),
 mvI 6 25]
def c2s : List AIns := [mvI 26 5,
 mvI 27 6,
 opI 28 (.bin .rem (.t 27) (.c (.int .u64 4294967296))),
 opI 29 (.conv .u32 (.t 28)),
 ⟨some 30, none, .e (.bsl 1 [(.t 29)])⟩,
 ⟨some 31, none, .e (.app 1 4 false (.t 26) (.t 30))⟩,
 mvI 5 31]
def c2r : List AIns := [mvI 32 6,
 opI 33 (.bin .quo (.t 32) (.c (.int .u64 4294967296))),
 mvI 6 33]
def c2q : List AIns := [mvI 15 7,
 opI 16 (.bin .add (.t 15) (.c (.int .i64 1))),
 mvI 7 16]
def c2y : ACode := .seq (.seq (rgI b1g) (.cond (.t 14) (.skip) (.exit 0))) (.seq (.block 1 (.seq (rgI c2t) (.seq (rgI c2s) (rgI c2r)))) (rgI c2q))
def b1f : List AIns := [mvI 34 5,
 mvI 35 6,
 opI 36 (.conv .u32 (.t 35)),
 ⟨some 37, none, .e (.bsl 1 [(.t 36)])⟩,
 ⟨some 38, none, .e (.app 1 4 false (.t 34) (.t 37))⟩,
 mvI 5 38]
def a8W : List AIns := [mvI 39 5,
 ⟨some 40, none, .call a0A [(.t 39)]⟩,
 mvI 4 40]
def d7e : ACode := .seq (rgI c2x) (.seq (rgI c2w) (.seq (rgI c2v) (.seq (.seq (rgI c2u) (.block 0 (.loop c2y))) (.seq (rgI b1f) (.seq (rgI a8W) (.ret))))))
theorem d4z : fchk Pr (fun _ _ => false) Try.f58 = some (d7e, [.tmp 4], 41) := by kernel_rfl
theorem d4A : Pr.funcs[a9P]? = some Try.f58 := Try.func58
def c2o : List AIns := [opI 4 (.mv (.c (.int .i64 0)))]
def c2n : List AIns := [mvI 8 0,
 opI 9 (.len (.t 8)),
 mvI 10 1,
 opI 11 (.len (.t 10)),
 ⟨some 12, none, .call a6O [(.t 9), (.t 11)]⟩,
 opI 13 (.bin .sub (.t 12) (.c (.int .i64 1))),
 mvI 5 13]
def b1e : List AIns := [mvI 14 5,
 opI 15 (.bin .geq (.t 14) (.c (.int .i64 0)))]
def c2m : List AIns := [mvI 18 0,
 mvI 19 5,
 ⟨some 20, none, .call a0R [(.t 18), (.t 19)]⟩,
 mvI 6 20]
def c2l : List AIns := [mvI 21 1,
 mvI 22 5,
 ⟨some 23, none, .call a0R [(.t 21), (.t 22)]⟩,
 mvI 7 23]
def c2k : List AIns := [mvI 24 6,
 mvI 25 7,
 opI 26 (.bin .lss (.t 24) (.t 25))]
def c2j : List AIns := [opI 4 (.mv (.c (.int .i64 (-1))))]
def c2i : List AIns := [mvI 27 6,
 mvI 28 7,
 opI 29 (.bin .gtr (.t 27) (.t 28))]
def c2h : List AIns := [opI 4 (.mv (.c (.int .i64 1)))]
def c2g : List AIns := [mvI 16 5,
 opI 17 (.bin .sub (.t 16) (.c (.int .i64 1))),
 mvI 5 17]
def c2p : ACode := .seq (.seq (rgI b1e) (.cond (.t 15) (.skip) (.exit 0))) (.seq (.block 1 (.seq (rgI c2m) (.seq (rgI c2l) (.seq (.seq (rgI c2k) (.cond (.t 26) (.seq (rgI c2j) (.ret)) (.skip))) (.seq (rgI c2i) (.cond (.t 29) (.seq (rgI c2h) (.ret)) (.skip))))))) (rgI c2g))
def a8S : List AIns := [opI 4 (.mv (.c (.int .i64 0)))]
def d7d : ACode := .seq (rgI c2o) (.seq (.seq (rgI c2n) (.block 0 (.loop c2p))) (.seq (rgI a8S) (.ret)))
theorem d4w : fchk Pr (fun _ _ => false) Try.f59 = some (d7d, [.tmp 4], 30) := by kernel_rfl
theorem d4x : Pr.funcs[a3g]? = some Try.f59 := Try.func59
def c1w : List AIns := [opI 4 (.mv (.c (.nil))),
 opI 5 (.mv (.c (.int .i64 0)))]
def c1v : List AIns := [mvI 6 0,
 mvI 7 1,
 ⟨some 8, none, .call a3g [(.t 6), (.t 7)]⟩,
 opI 9 (.bin .lss (.t 8) (.c (.int .i64 0)))]
def d4g : List AIns := [opI 4 (.mv (.c (.nil))),
 opI 5 (.mv (.c (.int .i64 10)))]
def c1u : List AIns := [mvI 10 0,
 mvI 11 1,
 ⟨some 12, none, .call a2F [(.t 10), (.t 11)]⟩,
 mvI 4 12,
 opI 5 (.mv (.c (.int .i64 0)))]
def d6Y : ACode := .seq (rgI c1w) (.seq (.seq (rgI c1v) (.cond (.t 9) (.seq (rgI d4g) (.ret)) (.skip))) (.seq (rgI c1u) (.ret)))
theorem d4h : fchk Pr (fun _ _ => false) Try.f60 = some (d6Y, [.tmp 4, .tmp 5], 13) := by kernel_rfl
theorem d4i : Pr.funcs[a9O]? = some Try.f60 := Try.func60
def c6y : List AIns := [opI 2 (.mv (.c (.int .i64 0)))]
def c6x : List AIns := [opI 3 (.mv (.c (.int .i64 0)))]
def c6w : List AIns := [mvI 8 0,
 opI 9 (.len (.t 8)),
 opI 10 (.mv (.c (.int .i64 0)))]
def b5p : List AIns := [opI 11 (.bin .lss (.t 10) (.t 9))]
def c6v : List AIns := [opI 12 (.idxp 1 (.t 8) (.t 10)),
 opI 13 (.load none (.t 12)),
 mvI 5 13]
def c6u : List AIns := [mvI 14 5,
 opI 15 (.len (.t 14)),
 opI 16 (.mv (.c (.int .i64 0)))]
def b5o : List AIns := [opI 17 (.bin .lss (.t 16) (.t 15))]
def c6t : List AIns := [opI 18 (.idxp 2 (.t 14) (.t 16)),
 opI 19 (.load (some 2) (.t 18)),
 ⟨some 7, none, .e (.box 2 (.c (.agg [.bool false, .nil])))⟩,
 ⟨none, none, .e (.store 2 (.t 7) (.t 19))⟩]
def c6s : List AIns := [mvI 20 3,
 opI 21 (.load (some 2) (.t 7)),
 ⟨some 22, none, .call b5s [(.t 21)]⟩,
 opI 23 (.mnx true (.t 20) (.t 22)),
 mvI 3 23]
def c6r : List AIns := [opI 24 (.bin .add (.t 16) (.c (.int .i64 1))),
 mvI 16 24]
def d7C : ACode := .seq (rgI b5o) (.seq (.cond (.t 17) (.skip) (.exit 2)) (.seq (.block 3 (.seq (rgI c6t) (rgI c6s))) (rgI c6r)))
def c3e : List AIns := [opI 25 (.bin .add (.t 10) (.c (.int .i64 1))),
 mvI 10 25]
def d7D : ACode := .seq (rgI b5p) (.seq (.cond (.t 11) (.skip) (.exit 0)) (.seq (.block 1 (.seq (rgI c6v) (.seq (rgI c6u) (.block 2 (.loop d7C))))) (rgI c3e)))
def c3d : List AIns := [mvI 26 3,
 mvI 2 26]
def e1e : ACode := .seq (rgI c6y) (.seq (rgI c6x) (.seq (.seq (rgI c6w) (.block 0 (.loop d7D))) (.seq (rgI c3d) (.ret))))
theorem d7B : fchk Pr (fun _ _ => false) Try.f61 = some (e1e, [.tmp 2], 27) := by kernel_rfl
theorem d7E : Pr.funcs[c0l]? = some Try.f61 := Try.func61
def c8L : List AIns := [⟨some 2, none, .e (.box 2 (.c (.agg [.bool false, .nil])))⟩]
def c8K : List AIns := [mvI 4 0,
 opI 5 (.conv .u64 (.t 4)),
 mvI 3 5]
def c8J : List AIns := [mvI 6 0,
 opI 7 (.bin .lss (.t 6) (.c (.int .i64 0)))]
def c8I : List AIns := [mvI 8 3,
 opI 9 (.un .neg (.t 8)),
 mvI 3 9]
def b8V : List AIns := [mvI 10 0,
 opI 11 (.bin .lss (.t 10) (.c (.int .i64 0))),
 mvI 12 3,
 opI 13 (.conv .u32 (.t 12)),
 mvI 14 3,
 opI 15 (.bin .shr (.t 14) (.c (.int .u64 32))),
 opI 16 (.conv .u32 (.t 15)),
 ⟨some 17, none, .e (.bsl 1 [(.t 13), (.t 16)])⟩,
 ⟨some 18, none, .call a1a [(.t 11), (.t 17)]⟩,
 ⟨none, none, .e (.store 2 (.t 2) (.t 18))⟩]
def e1L : ACode := .seq (rgI c8L) (.seq (rgI c8K) (.seq (.seq (rgI c8J) (.cond (.t 7) (rgI c8I) (.skip))) (.seq (rgI b8V) (.ret))))
theorem d9w : fchk Pr (fun _ _ => false) Try.f62 = some (e1L, [.cell 2 (some 2)], 19) := by kernel_rfl
theorem d9x : Pr.funcs[a8g]? = some Try.f62 := Try.func62
def c4i : List AIns := [⟨some 2, none, .e (.box 2 (.t 0))⟩,
 ⟨some 3, none, .e (.box 2 (.t 1))⟩,
 ⟨some 4, none, .e (.box 2 (.c (.agg [.bool false, .nil])))⟩]
def c4h : List AIns := [opI 5 (.load (some 2) (.t 2)),
 opI 6 (.load (some 2) (.t 3)),
 ⟨some 7, none, .call a5B [(.t 6)]⟩,
 ⟨some 8, none, .call a4i [(.t 5), (.t 7)]⟩,
 ⟨none, none, .e (.store 2 (.t 4) (.t 8))⟩]
def d9v : ACode := .seq (rgI c4i) (.seq (.region c4h true) (.ret))
theorem d6f : fchk Pr (fun _ _ => false) Try.f63 = some (d9v, [.cell 4 (some 2)], 9) := by kernel_rfl
theorem d6g : Pr.funcs[a5A]? = some Try.f63 := Try.func63
end Go.Abs
set_option maxRecDepth 100000
noncomputable section
namespace Go.Abs
open Go.Proofs
def a5s : List AIns := [opI 2 (.mv (.c (.int .i64 0))),
 opI 3 (.mv (.c (.int .i64 0))),
 opI 4 (.mv (.c (.int .i64 0)))]
def a5r : List AIns := [mvI 9 0,
 ⟨some 10, none, .call a2G [(.t 9)]⟩,
 mvI 8 10,
 opI 11 (.ext (.t 8) 0),
 opI 12 (.ext (.t 8) 1),
 opI 13 (.ext (.t 8) 2),
 mvI 5 11,
 mvI 6 12,
 mvI 7 13]
def a5q : List AIns := [mvI 14 7,
 opI 15 (.bin .neq (.t 14) (.c (.int .i64 0)))]
def b8v : List AIns := [mvI 16 7,
 opI 2 (.mv (.c (.int .i64 0))),
 opI 3 (.mv (.c (.int .i64 0))),
 mvI 4 16]
def a5p : List AIns := [mvI 17 5,
 opI 18 (.bin .gtr (.t 17) (.c (.int .i64 64))),
 mvI 19 18,
 ⟨some 20, some (19, false), .p (.mv (.t 6))⟩,
 ⟨some 21, some (19, false), .p (.bin .gtr (.t 20) (.c (.int .i64 64)))⟩,
 opI 22 (.pick (.t 19) (.c (.bool true)) (.t 21))]
def a9D : List AIns := [opI 2 (.mv (.c (.int .i64 0))),
 opI 3 (.mv (.c (.int .i64 0))),
 opI 4 (.mv (.c (.int .i64 60)))]
def b8u : List AIns := [mvI 23 5,
 mvI 24 6,
 mvI 2 23,
 mvI 3 24,
 opI 4 (.mv (.c (.int .i64 0)))]
def d5F : ACode := .seq (rgI a5s) (.seq (rgI a5r) (.seq (.seq (rgI a5q) (.cond (.t 15) (.seq (rgI b8v) (.ret)) (.skip))) (.seq (.seq (rgI a5p) (.cond (.t 22) (.seq (rgI a9D) (.ret)) (.skip))) (.seq (rgI b8u) (.ret)))))
theorem a9E : fchk Pr (fun _ _ => false) Try.f64 = some (d5F, [.tmp 2, .tmp 3, .tmp 4], 25) := by kernel_rfl
theorem a9F : Pr.funcs[b2z]? = some Try.f64 := Try.func64
def b2e : List AIns := [opI 4 (.mv (.c (.nil))),
 opI 5 (.mv (.c (.nil))),
 ⟨some 6, none, .e (.box 2 (.c (.agg [.bool false, .nil])))⟩,
 opI 7 (.mv (.c (.bool false)))]
def a6f : List AIns := [mvI 18 0,
 ⟨some 19, none, .call a9U [(.t 18)]⟩,
 mvI 8 19]
def a6e : List AIns := [opI 9 (.mv (.c (.nil)))]
def a6d : List AIns := [⟨some 20, none, .call a8g [(.c (.int .i64 1))]⟩,
 ⟨some 10, none, .e (.box 2 (.c (.agg [.bool false, .nil])))⟩,
 ⟨none, none, .e (.store 2 (.t 10) (.t 20))⟩,
 opI 11 (.mv (.c (.bool false)))]
def a6c : List AIns := [mvI 21 1,
 opI 22 (.mv (.c (.int .i64 0)))]
def a6b : List AIns := [opI 23 (.bin .lss (.t 22) (.t 21))]
def b2d : List AIns := [mvI 24 22,
 mvI 12 24]
def b2c : List AIns := [mvI 25 9,
 opI 26 (.len (.t 25)),
 mvI 13 26]
def b2b : List AIns := [mvI 27 13,
 mvI 14 27]
def a2A : List AIns := [mvI 28 14,
 mvI 29 8,
 opI 30 (.len (.t 29)),
 opI 31 (.bin .lss (.t 28) (.t 30)),
 mvI 32 31,
 ⟨some 33, some (32, true), .p (.mv (.t 8))⟩,
 ⟨some 34, some (32, true), .p (.mv (.t 14))⟩,
 ⟨some 35, some (32, true), .p (.idxp 1 (.t 33) (.t 34))⟩,
 ⟨some 36, some (32, true), .p (.load none (.t 35))⟩,
 ⟨some 37, some (32, true), .p (.mv (.t 12))⟩,
 ⟨some 38, some (32, true), .p (.idxp 2 (.t 36) (.t 37))⟩,
 ⟨some 39, some (32, true), .p (.load (some 2) (.t 38))⟩,
 ⟨some 40, some (32, true), .call a1L [(.t 39)]⟩,
 ⟨some 41, some (32, true), .p (.bin .eql (.t 40) (.c (.int .i64 0)))⟩,
 opI 42 (.pick (.t 32) (.t 41) (.c (.bool false)))]
def a4T : List AIns := [mvI 43 14,
 opI 44 (.bin .add (.t 43) (.c (.int .i64 1))),
 mvI 14 44]
def c7g : ACode := .seq (.seq (rgI a2A) (.cond (.t 42) (.skip) (.exit 2))) (.block 3 (rgI a4T))
def a4S : List AIns := [mvI 45 14,
 mvI 46 8,
 opI 47 (.len (.t 46)),
 opI 48 (.bin .eql (.t 45) (.t 47))]
def a4R : List AIns := [mvI 49 14,
 mvI 50 13,
 opI 51 (.bin .neq (.t 49) (.t 50))]
def b0o : List AIns := [mvI 52 8,
 mvI 53 14,
 mvI 54 8,
 mvI 55 13,
 mvI 56 8,
 mvI 57 13,
 opI 58 (.idxp 1 (.t 56) (.t 57)),
 opI 59 (.load none (.t 58)),
 mvI 60 8,
 mvI 61 14,
 opI 62 (.idxp 1 (.t 60) (.t 61)),
 opI 63 (.load none (.t 62)),
 opI 64 (.idxp 1 (.t 52) (.t 53)),
 ⟨none, none, .e (.store 1 (.t 64) (.t 59))⟩,
 opI 65 (.idxp 1 (.t 54) (.t 55)),
 ⟨none, none, .e (.store 1 (.t 65) (.t 63))⟩]
def b0n : List AIns := [mvI 66 11,
 opI 67 (.un .not (.t 66)),
 mvI 11 67]
def a4Q : List AIns := [mvI 68 13,
 opI 69 (.bin .add (.t 68) (.c (.int .i64 1))),
 mvI 15 69]
def a4P : List AIns := [mvI 70 15,
 mvI 71 8,
 opI 72 (.len (.t 71)),
 opI 73 (.bin .lss (.t 70) (.t 72))]
def b0m : List AIns := [mvI 76 8,
 mvI 77 15,
 opI 78 (.idxp 1 (.t 76) (.t 77)),
 opI 79 (.load none (.t 78)),
 opI 80 (.len (.t 79)),
 opI 81 (.bin .sub (.t 80) (.c (.int .i64 1))),
 mvI 16 81]
def a4O : List AIns := [mvI 82 16,
 mvI 83 12,
 opI 84 (.bin .geq (.t 82) (.t 83))]
def b0l : List AIns := [mvI 87 8,
 mvI 88 13,
 opI 89 (.idxp 1 (.t 87) (.t 88)),
 opI 90 (.load none (.t 89)),
 mvI 91 12,
 opI 92 (.idxp 2 (.t 90) (.t 91)),
 opI 93 (.load (some 2) (.t 92)),
 mvI 94 8,
 mvI 95 15,
 opI 96 (.idxp 1 (.t 94) (.t 95)),
 opI 97 (.load none (.t 96)),
 mvI 98 16,
 opI 99 (.idxp 2 (.t 97) (.t 98)),
 opI 100 (.load (some 2) (.t 99)),
 ⟨some 101, none, .call a1V [(.t 93), (.t 100)]⟩,
 mvI 102 8,
 mvI 103 15,
 opI 104 (.idxp 1 (.t 102) (.t 103)),
 opI 105 (.load none (.t 104)),
 mvI 106 12,
 opI 107 (.idxp 2 (.t 105) (.t 106)),
 opI 108 (.load (some 2) (.t 107)),
 mvI 109 8,
 mvI 110 13,
 opI 111 (.idxp 1 (.t 109) (.t 110)),
 opI 112 (.load none (.t 111)),
 mvI 113 16,
 opI 114 (.idxp 2 (.t 112) (.t 113)),
 opI 115 (.load (some 2) (.t 114)),
 ⟨some 116, none, .call a1V [(.t 108), (.t 115)]⟩,
 ⟨some 117, none, .call a5A [(.t 101), (.t 116)]⟩,
 ⟨some 17, none, .e (.box 2 (.c (.agg [.bool false, .nil])))⟩,
 ⟨none, none, .e (.store 2 (.t 17) (.t 117))⟩]
def b0k : List AIns := [mvI 119 8,
 mvI 120 15,
 opI 121 (.idxp 1 (.t 119) (.t 120)),
 opI 122 (.load none (.t 121)),
 mvI 123 16,
 opI 124 (.load (some 2) (.t 17)),
 opI 125 (.load (some 2) (.t 10)),
 ⟨some 126, none, .call a1Z [(.t 124), (.t 125)]⟩,
 mvI 118 126,
 opI 127 (.ext (.t 118) 0),
 opI 128 (.ext (.t 118) 1),
 opI 129 (.ext (.t 118) 2),
 opI 130 (.idxp 2 (.t 122) (.t 123)),
 ⟨none, none, .e (.store 2 (.t 130) (.t 127))⟩]
def b0j : List AIns := [mvI 85 16,
 opI 86 (.bin .sub (.t 85) (.c (.int .i64 1))),
 mvI 16 86]
def c7f : ACode := .seq (.seq (rgI a4O) (.cond (.t 84) (.skip) (.exit 6))) (.seq (.block 7 (.seq (.region b0l true) (.region b0k true))) (rgI b0j))
def b0i : List AIns := [mvI 74 15,
 opI 75 (.bin .add (.t 74) (.c (.int .i64 1))),
 mvI 15 75]
def b2f : ACode := .seq (.seq (rgI a4P) (.cond (.t 73) (.skip) (.exit 4))) (.seq (.block 5 (.seq (rgI b0m) (.block 6 (.loop c7f)))) (rgI b0i))
def a4N : List AIns := [mvI 131 8,
 mvI 132 13,
 opI 133 (.idxp 1 (.t 131) (.t 132)),
 opI 134 (.load none (.t 133)),
 mvI 135 12,
 opI 136 (.idxp 2 (.t 134) (.t 135)),
 opI 137 (.load (some 2) (.t 136)),
 ⟨none, none, .e (.store 2 (.t 10) (.t 137))⟩]
def a4M : List AIns := [mvI 138 9,
 mvI 139 12,
 ⟨some 140, none, .e (.bsl 1 [(.t 139)])⟩,
 ⟨some 141, none, .e (.app 1 8 false (.t 138) (.t 140))⟩,
 mvI 9 141]
def a3b : List AIns := [opI 142 (.bin .add (.t 22) (.c (.int .i64 1))),
 mvI 22 142]
def a6g : ACode := .seq (rgI a6b) (.seq (.cond (.t 23) (.skip) (.exit 0)) (.seq (.block 1 (.seq (rgI b2d) (.seq (rgI b2c) (.seq (rgI b2b) (.seq (.block 2 (.loop c7g)) (.seq (.seq (rgI a4S) (.cond (.t 48) (.exit 1) (.skip))) (.seq (.seq (rgI a4R) (.cond (.t 51) (.seq (.region b0o true) (rgI b0n)) (.skip))) (.seq (.seq (rgI a4Q) (.block 4 (.loop b2f))) (.seq (rgI a4N) (rgI a4M)))))))))) (rgI a3b)))
def a3a : List AIns := [mvI 143 8,
 mvI 144 9,
 opI 145 (.load (some 2) (.t 10)),
 mvI 146 11,
 mvI 4 143,
 mvI 5 144,
 ⟨none, none, .e (.store 2 (.t 6) (.t 145))⟩,
 mvI 7 146]
def c8z : ACode := .seq (rgI b2e) (.scope (.seq (rgI a6f) (.seq (rgI a6e) (.seq (rgI a6d) (.seq (.label 0) (.seq (.seq (rgI a6c) (.block 0 (.loop a6g))) (.seq (.region a3a true) (.ret))))))))
theorem c7e : fchk Pr (fun _ _ => false) Try.f65 = some (c8z, [.tmp 4, .tmp 5, .cell 6 (some 2), .tmp 7], 147) := by kernel_rfl
theorem c7h : Pr.funcs[a4A]? = some Try.f65 := Try.func65
def c4k : List AIns := [⟨some 1, none, .e (.box 2 (.t 0))⟩,
 ⟨some 2, none, .e (.box 2 (.c (.agg [.bool false, .nil])))⟩]
def c4j : List AIns := [opI 3 (.fldp (.t 1) 0),
 opI 4 (.load none (.t 3)),
 opI 5 (.un .not (.t 4)),
 opI 6 (.fldp (.t 1) 1),
 opI 7 (.load none (.t 6)),
 ⟨some 8, none, .call a1a [(.t 5), (.t 7)]⟩,
 ⟨none, none, .e (.store 2 (.t 2) (.t 8))⟩]
def d9y : ACode := .seq (rgI c4k) (.seq (rgI c4j) (.ret))
theorem d6i : fchk Pr (fun _ _ => false) Try.f66 = some (d9y, [.cell 2 (some 2)], 9) := by kernel_rfl
theorem d6j : Pr.funcs[a5B]? = some Try.f66 := Try.func66
def c0y : List AIns := [⟨some 1, none, .e (.box 2 (.t 0))⟩,
 ⟨some 2, none, .e (.box 2 (.c (.agg [.bool false, .nil])))⟩]
def c0x : List AIns := [opI 3 (.fldp (.t 1) 0),
 opI 4 (.load none (.t 3)),
 opI 5 (.fldp (.t 1) 1),
 opI 6 (.load none (.t 5)),
 ⟨some 7, none, .call a1a [(.t 4), (.t 6)]⟩,
 ⟨none, none, .e (.store 2 (.t 2) (.t 7))⟩]
def d6o : ACode := .seq (rgI c0y) (.seq (rgI c0x) (.ret))
theorem d2Q : fchk Pr (fun _ _ => false) Try.f67 = some (d6o, [.cell 2 (some 2)], 8) := by kernel_rfl
theorem d2R : Pr.funcs[b5r]? = some Try.f67 := Try.func67
def c5W : List AIns := [opI 2 (.mv (.c (.int .i64 0)))]
def c5V : List AIns := [mvI 3 0,
 ⟨some 4, none, .call a0u [(.t 3)]⟩,
 mvI 0 4]
def c5U : List AIns := [mvI 5 0,
 opI 6 (.len (.t 5)),
 opI 7 (.bin .eql (.t 6) (.c (.int .i64 0)))]
def c5T : List AIns := [opI 2 (.mv (.c (.int .i64 0)))]
def c5S : List AIns := [mvI 8 0,
 opI 9 (.len (.t 8)),
 opI 10 (.bin .sub (.t 9) (.c (.int .i64 1))),
 opI 11 (.bin .mul (.c (.int .i64 32)) (.t 10)),
 mvI 12 0,
 mvI 13 0,
 opI 14 (.len (.t 13)),
 opI 15 (.bin .sub (.t 14) (.c (.int .i64 1))),
 opI 16 (.idxp 1 (.t 12) (.t 15)),
 opI 17 (.load none (.t 16)),
 ⟨some 18, none, .call a1v [(.t 17)]⟩,
 opI 19 (.bin .add (.t 11) (.t 18)),
 mvI 2 19]
def e0O : ACode := .seq (rgI c5W) (.seq (rgI c5V) (.seq (.seq (rgI c5U) (.cond (.t 7) (.seq (rgI c5T) (.ret)) (.skip))) (.seq (rgI c5S) (.ret))))
theorem d7s : fchk Pr (fun _ _ => false) Try.f68 = some (e0O, [.tmp 2], 20) := by kernel_rfl
theorem d7t : Pr.funcs[b2U]? = some Try.f68 := Try.func68
def c4v : List AIns := [⟨some 1, none, .e (.box 2 (.t 0))⟩,
 ⟨some 2, none, .e (.box 2 (.c (.agg [.bool false, .nil])))⟩]
def c4u : List AIns := [opI 3 (.fldp (.t 1) 1),
 opI 4 (.load none (.t 3)),
 ⟨some 5, none, .call a1a [(.c (.bool false)), (.t 4)]⟩,
 ⟨none, none, .e (.store 2 (.t 2) (.t 5))⟩]
def d9C : ACode := .seq (rgI c4v) (.seq (rgI c4u) (.ret))
theorem d6s : fchk Pr (fun _ _ => false) Try.f69 = some (d9C, [.cell 2 (some 2)], 6) := by kernel_rfl
theorem d6t : Pr.funcs[c0j]? = some Try.f69 := Try.func69
def c4o : List AIns := [⟨some 2, none, .e (.box 2 (.t 0))⟩,
 ⟨some 3, none, .e (.box 2 (.t 1))⟩,
 ⟨some 4, none, .e (.box 2 (.c (.agg [.bool false, .nil])))⟩]
def c4n : List AIns := [opI 5 (.fldp (.t 2) 1),
 opI 6 (.load none (.t 5)),
 opI 7 (.fldp (.t 3) 1),
 opI 8 (.load none (.t 7)),
 ⟨some 9, none, .call c7S [(.t 6), (.t 8)]⟩,
 ⟨some 10, none, .call a1a [(.c (.bool false)), (.t 9)]⟩,
 ⟨none, none, .e (.store 2 (.t 4) (.t 10))⟩]
def d9A : ACode := .seq (rgI c4o) (.seq (rgI c4n) (.ret))
theorem d6m : fchk Pr (fun _ _ => false) Try.f70 = some (d9A, [.cell 4 (some 2)], 11) := by kernel_rfl
theorem d6n : Pr.funcs[c0i]? = some Try.f70 := Try.func70
def c9P : List AIns := [opI 4 (.mv (.c (.nil))),
 opI 5 (.mv (.c (.nil))),
 opI 6 (.mv (.c (.int .i64 0)))]
def c9O : List AIns := [mvI 14 0,
 ⟨some 15, none, .call a0u [(.t 14)]⟩,
 mvI 16 1,
 ⟨some 17, none, .call a0u [(.t 16)]⟩,
 mvI 0 15,
 mvI 1 17]
def c9N : List AIns := [mvI 19 1,
 opI 20 (.len (.t 19)),
 opI 21 (.bin .eql (.t 20) (.c (.int .i64 0))),
 mvI 18 21]
def e0I : List AIns := [opI 4 (.mv (.c (.nil))),
 opI 5 (.mv (.c (.nil))),
 opI 6 (.mv (.c (.int .i64 11)))]
def c9M : List AIns := [mvI 23 0,
 mvI 24 1,
 ⟨some 25, none, .call a8k [(.t 23), (.t 24)]⟩,
 opI 26 (.bin .lss (.t 25) (.c (.int .i64 0))),
 mvI 22 26]
def c9L : List AIns := [mvI 27 0,
 ⟨some 28, none, .call a8i [(.t 27)]⟩,
 opI 4 (.mv (.c (.nil))),
 mvI 5 28,
 opI 6 (.mv (.c (.int .i64 0)))]
def b9w : List AIns := [mvI 30 1,
 opI 31 (.len (.t 30)),
 opI 32 (.bin .eql (.t 31) (.c (.int .i64 1))),
 mvI 29 32]
def c9K : List AIns := [mvI 34 0,
 mvI 35 1,
 opI 36 (.idxp 1 (.t 35) (.c (.int .i64 0))),
 opI 37 (.load none (.t 36)),
 ⟨some 38, none, .call b5C [(.t 34), (.t 37)]⟩,
 mvI 33 38,
 opI 39 (.ext (.t 33) 0),
 opI 40 (.ext (.t 33) 1),
 mvI 7 39,
 mvI 8 40]
def c9J : List AIns := [mvI 41 7,
 mvI 42 8,
 ⟨some 43, none, .e (.bsl 1 [(.t 42)])⟩,
 ⟨some 44, none, .call a0u [(.t 43)]⟩,
 mvI 4 41,
 mvI 5 44,
 opI 6 (.mv (.c (.int .i64 0)))]
def c9I : List AIns := [mvI 45 1,
 mvI 46 1,
 opI 47 (.len (.t 46)),
 opI 48 (.bin .sub (.t 47) (.c (.int .i64 1))),
 opI 49 (.idxp 1 (.t 45) (.t 48)),
 opI 50 (.load none (.t 49)),
 ⟨some 51, none, .call a1D [(.t 50)]⟩,
 mvI 9 51]
def c5O : List AIns := [mvI 52 1,
 mvI 53 9,
 ⟨some 54, none, .call b8Q [(.t 52), (.t 53)]⟩,
 mvI 10 54]
def c5N : List AIns := [mvI 55 0,
 mvI 56 9,
 ⟨some 57, none, .call b8Q [(.t 55), (.t 56)]⟩,
 ⟨some 58, none, .e (.bsl 1 [(.c (.int .u32 0)), (.c (.int .u32 0))])⟩,
 ⟨some 59, none, .e (.app 1 4 false (.t 57) (.t 58))⟩,
 mvI 60 0,
 opI 61 (.len (.t 60)),
 opI 62 (.bin .add (.t 61) (.c (.int .i64 1))),
 opI 63 (.slc 1 (.t 59) none (some (.t 62)) none),
 mvI 11 63]
def c5M : List AIns := [mvI 64 0,
 opI 65 (.len (.t 64)),
 mvI 66 1,
 opI 67 (.len (.t 66)),
 opI 68 (.bin .sub (.t 65) (.t 67)),
 opI 69 (.bin .add (.t 68) (.c (.int .i64 1))),
 ⟨some 70, none, .e (.mksl 1 4 (.int .u32 0) (.t 69) (.t 69))⟩,
 mvI 12 70]
def c5L : List AIns := [mvI 71 0,
 opI 72 (.len (.t 71)),
 mvI 73 1,
 opI 74 (.len (.t 73)),
 opI 75 (.bin .sub (.t 72) (.t 74)),
 mvI 13 75]
def b5i : List AIns := [mvI 76 13,
 opI 77 (.bin .geq (.t 76) (.c (.int .i64 0)))]
def c5K : List AIns := [mvI 80 12,
 mvI 81 13,
 mvI 82 11,
 mvI 83 13,
 mvI 84 13,
 mvI 85 10,
 opI 86 (.len (.t 85)),
 opI 87 (.bin .add (.t 84) (.t 86)),
 opI 88 (.bin .add (.t 87) (.c (.int .i64 1))),
 opI 89 (.slc 1 (.t 82) (some (.t 83)) (some (.t 88)) none),
 mvI 90 10,
 ⟨some 91, none, .call a9Q [(.t 89), (.t 90)]⟩,
 opI 92 (.idxp 1 (.t 80) (.t 81)),
 ⟨none, none, .e (.store 1 (.t 92) (.t 91))⟩]
def c5J : List AIns := [mvI 78 13,
 opI 79 (.bin .sub (.t 78) (.c (.int .i64 1))),
 mvI 13 79]
def e0K : ACode := .seq (.seq (rgI b5i) (.cond (.t 77) (.skip) (.exit 1))) (.seq (.block 2 (rgI c5K)) (rgI c5J))
def c5I : List AIns := [mvI 93 12,
 ⟨some 94, none, .call a0u [(.t 93)]⟩,
 mvI 95 11,
 ⟨some 96, none, .call a0u [(.t 95)]⟩,
 mvI 97 9,
 ⟨some 98, none, .call b8P [(.t 96), (.t 97)]⟩,
 mvI 4 94,
 mvI 5 98,
 opI 6 (.mv (.c (.int .i64 0)))]
def e2V : ACode := .seq (rgI c9P) (.seq (rgI c9O) (.seq (.block 0 (.seq (rgI c9N) (.cond (.t 18) (.seq (rgI e0I) (.ret)) (.seq (rgI c9M) (.cond (.t 22) (.seq (rgI c9L) (.ret)) (.seq (rgI b9w) (.cond (.t 29) (.seq (rgI c9K) (.seq (rgI c9J) (.ret))) (.skip)))))))) (.seq (rgI c9I) (.seq (rgI c5O) (.seq (rgI c5N) (.seq (rgI c5M) (.seq (.seq (rgI c5L) (.block 1 (.loop e0K))) (.seq (rgI c5I) (.ret)))))))))
theorem e0J : fchk Pr (fun _ _ => false) Try.f71 = some (e2V, [.tmp 4, .tmp 5, .tmp 6], 99) := by kernel_rfl
theorem e0L : Pr.funcs[b8R]? = some Try.f71 := Try.func71
def c0p : List AIns := [⟨some 4, none, .e (.box 2 (.c (.agg [.bool false, .nil])))⟩]
def c0o : List AIns := [mvI 7 1,
 opI 8 (.len (.t 7)),
 mvI 5 8]
def b0F : List AIns := [mvI 9 5,
 opI 10 (.bin .gtr (.t 9) (.c (.int .i64 0))),
 mvI 11 10,
 ⟨some 12, some (11, true), .p (.mv (.t 1))⟩,
 ⟨some 13, some (11, true), .p (.mv (.t 5))⟩,
 ⟨some 14, some (11, true), .p (.bin .sub (.t 13) (.c (.int .i64 1)))⟩,
 ⟨some 15, some (11, true), .p (.idxp 1 (.t 12) (.t 14))⟩,
 ⟨some 16, some (11, true), .p (.load none (.t 15))⟩,
 ⟨some 17, some (11, true), .p (.bin .eql (.t 16) (.c (.int .u32 0)))⟩,
 opI 18 (.pick (.t 11) (.t 17) (.c (.bool false)))]
def c0n : List AIns := [mvI 19 5,
 opI 20 (.bin .sub (.t 19) (.c (.int .i64 1))),
 mvI 5 20]
def c0q : ACode := .seq (.seq (rgI b0F) (.cond (.t 18) (.skip) (.exit 0))) (.block 1 (rgI c0n))
def a6v : List AIns := [mvI 21 5,
 opI 22 (.bin .eql (.t 21) (.c (.int .i64 0)))]
def a6u : List AIns := [opI 23 (.bld [.bool false, .nil] []),
 ⟨none, none, .e (.store 2 (.t 4) (.t 23))⟩]
def a6t : List AIns := [mvI 24 5,
 ⟨some 25, none, .e (.mksl 1 4 (.int .u32 0) (.t 24) (.t 24))⟩,
 mvI 6 25]
def a6s : List AIns := [mvI 26 6,
 mvI 27 1,
 ⟨some 28, none, .e (.cpy 1 (.t 26) (.t 27))⟩]
def a6r : List AIns := [mvI 29 0,
 mvI 30 6,
 opI 31 (.bld [.bool false, .nil] [(0, 1, (.t 29)), (1, 1, (.t 30))]),
 ⟨none, none, .e (.store 2 (.t 4) (.t 31))⟩]
def d6e : ACode := .seq (rgI c0p) (.seq (rgI c0o) (.seq (.block 0 (.loop c0q)) (.seq (.seq (rgI a6v) (.cond (.t 22) (.seq (rgI a6u) (.ret)) (.skip))) (.seq (rgI a6t) (.seq (rgI a6s) (.seq (rgI a6r) (.ret)))))))
theorem d2M : fchk Pr (fun _ _ => false) Try.f72 = some (d6e, [.cell 4 (some 2)], 32) := by kernel_rfl
theorem d2N : Pr.funcs[a1a]? = some Try.f72 := Try.func72
def c9A : List AIns := [opI 4 (.mv (.c (.nil)))]
def c9z : List AIns := [mvI 9 0,
 ⟨some 10, none, .call a0u [(.t 9)]⟩,
 mvI 11 1,
 ⟨some 12, none, .call a0u [(.t 11)]⟩,
 mvI 0 10,
 mvI 1 12]
def c9y : List AIns := [mvI 13 0,
 opI 14 (.len (.t 13)),
 mvI 15 1,
 opI 16 (.len (.t 15)),
 opI 17 (.bin .add (.t 14) (.t 16)),
 ⟨some 18, none, .e (.mksl 1 4 (.int .u32 0) (.t 17) (.t 17))⟩,
 mvI 5 18]
def c9x : List AIns := [mvI 19 0,
 opI 20 (.len (.t 19)),
 opI 21 (.mv (.c (.int .i64 0)))]
def b9u : List AIns := [opI 22 (.bin .lss (.t 21) (.t 20))]
def c9w : List AIns := [mvI 23 21,
 mvI 6 23]
def c9v : List AIns := [opI 7 (.mv (.c (.int .u64 0)))]
def c9u : List AIns := [mvI 24 1,
 opI 25 (.len (.t 24)),
 opI 26 (.mv (.c (.int .i64 0)))]
def b9t : List AIns := [opI 27 (.bin .lss (.t 26) (.t 25))]
def c9t : List AIns := [mvI 28 26,
 mvI 8 28]
def c5H : List AIns := [mvI 29 7,
 mvI 30 0,
 mvI 31 6,
 opI 32 (.idxp 1 (.t 30) (.t 31)),
 opI 33 (.load none (.t 32)),
 opI 34 (.conv .u64 (.t 33)),
 mvI 35 1,
 mvI 36 8,
 opI 37 (.idxp 1 (.t 35) (.t 36)),
 opI 38 (.load none (.t 37)),
 opI 39 (.conv .u64 (.t 38)),
 opI 40 (.bin .mul (.t 34) (.t 39)),
 mvI 41 5,
 mvI 42 6,
 mvI 43 8,
 opI 44 (.bin .add (.t 42) (.t 43)),
 opI 45 (.idxp 1 (.t 41) (.t 44)),
 opI 46 (.load none (.t 45)),
 opI 47 (.conv .u64 (.t 46)),
 opI 48 (.bin .add (.t 40) (.t 47)),
 opI 49 (.bin .add (.t 29) (.t 48)),
 mvI 7 49]
def c5G : List AIns := [mvI 50 5,
 mvI 51 6,
 mvI 52 8,
 opI 53 (.bin .add (.t 51) (.t 52)),
 mvI 54 7,
 opI 55 (.conv .u32 (.t 54)),
 opI 56 (.idxp 1 (.t 50) (.t 53)),
 ⟨none, none, .e (.store 1 (.t 56) (.t 55))⟩]
def c5F : List AIns := [mvI 57 7,
 opI 58 (.bin .shr (.t 57) (.c (.int .u64 32))),
 mvI 7 58]
def c5E : List AIns := [opI 59 (.bin .add (.t 26) (.c (.int .i64 1))),
 mvI 26 59]
def c9B : ACode := .seq (rgI b9t) (.seq (.cond (.t 27) (.skip) (.exit 2)) (.seq (.block 3 (.seq (rgI c9t) (.seq (.region c5H true) (.seq (rgI c5G) (rgI c5F))))) (rgI c5E)))
def c5D : List AIns := [mvI 60 5,
 mvI 61 6,
 mvI 62 1,
 opI 63 (.len (.t 62)),
 opI 64 (.bin .add (.t 61) (.t 63)),
 mvI 65 7,
 opI 66 (.conv .u32 (.t 65)),
 opI 67 (.idxp 1 (.t 60) (.t 64)),
 ⟨none, none, .e (.store 1 (.t 67) (.t 66))⟩]
def c5C : List AIns := [opI 68 (.bin .add (.t 21) (.c (.int .i64 1))),
 mvI 21 68]
def c9C : ACode := .seq (rgI b9u) (.seq (.cond (.t 22) (.skip) (.exit 0)) (.seq (.block 1 (.seq (rgI c9w) (.seq (rgI c9v) (.seq (.seq (rgI c9u) (.block 2 (.loop c9B))) (rgI c5D))))) (rgI c5C)))
def b5h : List AIns := [mvI 69 5,
 ⟨some 70, none, .call a0u [(.t 69)]⟩,
 mvI 4 70]
def e2T : ACode := .seq (rgI c9A) (.seq (rgI c9z) (.seq (rgI c9y) (.seq (.seq (rgI c9x) (.block 0 (.loop c9C))) (.seq (rgI b5h) (.ret)))))
theorem e0D : fchk Pr (fun _ _ => false) Try.f73 = some (e2T, [.tmp 4], 71) := by kernel_rfl
theorem e0E : Pr.funcs[a8j]? = some Try.f73 := Try.func73
def b6A : List AIns := [⟨some 1, none, .e (.box 2 (.t 0))⟩,
 ⟨some 2, none, .e (.box 2 (.c (.agg [.bool false, .nil])))⟩]
def b6z : List AIns := [opI 3 (.fldp (.t 1) 0),
 opI 4 (.load none (.t 3)),
 opI 5 (.fldp (.t 1) 1),
 opI 6 (.load none (.t 5)),
 ⟨some 7, none, .call a1I [(.t 4), (.t 6)]⟩,
 ⟨none, none, .e (.store 2 (.t 2) (.t 7))⟩]
def d3P : ACode := .seq (rgI b6A) (.seq (rgI b6z) (.ret))
theorem d1u : fchk Pr (fun _ _ => false) Try.f74 = some (d3P, [.cell 2 (some 2)], 8) := by kernel_rfl
theorem d1v : Pr.funcs[a3x]? = some Try.f74 := Try.func74
def c0M : List AIns := [⟨some 0, none, .e (.box 2 (.c (.agg [.bool false, .nil])))⟩]
def c0L : List AIns := [⟨some 1, none, .call b2T [(.c (.int .i64 1))]⟩,
 ⟨none, none, .e (.store 2 (.t 0) (.t 1))⟩]
def d6I : ACode := .seq (rgI c0M) (.seq (rgI c0L) (.ret))
theorem d3y : fchk Pr (fun _ _ => false) Try.f75 = some (d6I, [.cell 0 (some 2)], 2) := by kernel_rfl
theorem d3z : Pr.funcs[b5t]? = some Try.f75 := Try.func75
def c0Y : List AIns := [⟨some 2, none, .e (.box 4 (.t 0))⟩,
 ⟨some 3, none, .e (.box 4 (.t 1))⟩,
 ⟨some 4, none, .e (.box 4 (.c (.agg [.bool false, .nil, .bool false, .nil])))⟩]
def c0X : List AIns := [opI 7 (.fldp (.t 2) 0),
 opI 8 (.load (some 2) (.t 7)),
 opI 9 (.fldp (.t 3) 2),
 opI 10 (.load (some 2) (.t 9)),
 ⟨some 11, none, .call a1b [(.t 8), (.t 10)]⟩,
 ⟨some 5, none, .e (.box 2 (.c (.agg [.bool false, .nil])))⟩,
 ⟨none, none, .e (.store 2 (.t 5) (.t 11))⟩]
def c0W : List AIns := [opI 12 (.fldp (.t 3) 0),
 opI 13 (.load (some 2) (.t 12)),
 opI 14 (.fldp (.t 2) 2),
 opI 15 (.load (some 2) (.t 14)),
 ⟨some 16, none, .call a1b [(.t 13), (.t 15)]⟩,
 ⟨some 6, none, .e (.box 2 (.c (.agg [.bool false, .nil])))⟩,
 ⟨none, none, .e (.store 2 (.t 6) (.t 16))⟩]
def c0V : List AIns := [opI 17 (.load (some 2) (.t 5)),
 opI 18 (.load (some 2) (.t 6)),
 ⟨some 19, none, .call a4l [(.t 17), (.t 18)]⟩,
 opI 20 (.fldp (.t 2) 2),
 opI 21 (.load (some 2) (.t 20)),
 opI 22 (.fldp (.t 3) 2),
 opI 23 (.load (some 2) (.t 22)),
 ⟨some 24, none, .call a1b [(.t 21), (.t 23)]⟩,
 ⟨some 25, none, .call a2E [(.t 19), (.t 24)]⟩,
 ⟨none, none, .e (.store 4 (.t 4) (.t 25))⟩]
def d6P : ACode := .seq (rgI c0Y) (.seq (rgI c0X) (.seq (rgI c0W) (.seq (.region c0V true) (.ret))))
theorem d3J : fchk Pr (fun _ _ => false) Try.f76 = some (d6P, [.cell 4 (some 4)], 26) := by kernel_rfl
theorem d3K : Pr.funcs[b5w]? = some Try.f76 := Try.func76
def c0Q : List AIns := [⟨some 1, none, .e (.box 4 (.t 0))⟩,
 ⟨some 2, none, .e (.box 4 (.c (.agg [.bool false, .nil, .bool false, .nil])))⟩]
def c0P : List AIns := [opI 3 (.fldp (.t 1) 0),
 opI 4 (.load (some 2) (.t 3)),
 ⟨some 5, none, .call a4k [(.t 4)]⟩,
 opI 6 (.fldp (.t 1) 2),
 opI 7 (.load (some 2) (.t 6)),
 ⟨some 8, none, .call a2E [(.t 5), (.t 7)]⟩,
 ⟨none, none, .e (.store 4 (.t 2) (.t 8))⟩]
def d6M : ACode := .seq (rgI c0Q) (.seq (.region c0P true) (.ret))
theorem d3C : fchk Pr (fun _ _ => false) Try.f77 = some (d6M, [.cell 2 (some 4)], 9) := by kernel_rfl
theorem d3D : Pr.funcs[b5u]? = some Try.f77 := Try.func77
def b6p : List AIns := [⟨some 2, none, .e (.box 2 (.t 0))⟩,
 ⟨some 3, none, .e (.box 2 (.t 1))⟩,
 ⟨some 4, none, .e (.box 4 (.c (.agg [.bool false, .nil, .bool false, .nil])))⟩]
def b6o : List AIns := [opI 14 (.load (some 2) (.t 2)),
 ⟨some 15, none, .call a3x [(.t 14)]⟩,
 ⟨some 5, none, .e (.box 2 (.c (.agg [.bool false, .nil])))⟩,
 ⟨none, none, .e (.store 2 (.t 5) (.t 15))⟩]
def b6n : List AIns := [opI 16 (.load (some 2) (.t 3)),
 ⟨some 17, none, .call a3x [(.t 16)]⟩,
 ⟨some 6, none, .e (.box 2 (.c (.agg [.bool false, .nil])))⟩,
 ⟨none, none, .e (.store 2 (.t 6) (.t 17))⟩]
def b6m : List AIns := [opI 18 (.load (some 2) (.t 6)),
 ⟨some 19, none, .call a3w [(.t 18)]⟩,
 opI 20 (.bin .lss (.t 19) (.c (.int .i64 0)))]
def b6l : List AIns := [opI 21 (.load (some 2) (.t 5)),
 ⟨some 22, none, .call a4k [(.t 21)]⟩,
 ⟨none, none, .e (.store 2 (.t 5) (.t 22))⟩]
def b6k : List AIns := [opI 23 (.load (some 2) (.t 6)),
 ⟨some 24, none, .call a4k [(.t 23)]⟩,
 ⟨none, none, .e (.store 2 (.t 6) (.t 24))⟩]
def a8E : List AIns := [opI 25 (.fldp (.t 5) 1),
 opI 26 (.load none (.t 25)),
 opI 27 (.fldp (.t 6) 1),
 opI 28 (.load none (.t 27)),
 ⟨some 29, none, .call b5B [(.t 26), (.t 28)]⟩,
 mvI 7 29]
def a8D : List AIns := [opI 31 (.fldp (.t 5) 1),
 opI 32 (.load none (.t 31)),
 mvI 33 7,
 ⟨some 34, none, .call a4m [(.t 32), (.t 33)]⟩,
 mvI 30 34,
 opI 35 (.ext (.t 30) 0),
 opI 36 (.ext (.t 30) 1),
 opI 37 (.ext (.t 30) 2),
 mvI 8 35,
 mvI 9 36,
 mvI 10 37]
def a8C : List AIns := [opI 39 (.fldp (.t 6) 1),
 opI 40 (.load none (.t 39)),
 mvI 41 7,
 ⟨some 42, none, .call a4m [(.t 40), (.t 41)]⟩,
 mvI 38 42,
 opI 43 (.ext (.t 38) 0),
 opI 44 (.ext (.t 38) 1),
 opI 45 (.ext (.t 38) 2),
 mvI 11 43,
 mvI 12 44,
 mvI 13 45]
def a8B : List AIns := [opI 46 (.fldp (.t 5) 0),
 opI 47 (.load none (.t 46)),
 mvI 48 8,
 opI 49 (.bld [.bool false, .nil] [(0, 1, (.t 47)), (1, 1, (.t 48))]),
 ⟨some 50, none, .call a3x [(.t 49)]⟩,
 mvI 51 11,
 opI 52 (.bld [.bool false, .nil] [(1, 1, (.t 51))]),
 opI 53 (.bld [.bool false, .nil, .bool false, .nil] [(0, 2, (.t 50)), (2, 2, (.t 52))]),
 ⟨none, none, .e (.store 4 (.t 4) (.t 53))⟩]
def d3G : ACode := .seq (rgI b6p) (.seq (rgI b6o) (.seq (rgI b6n) (.seq (.seq (rgI b6m) (.cond (.t 20) (.seq (rgI b6l) (rgI b6k)) (.skip))) (.seq (rgI a8E) (.seq (rgI a8D) (.seq (rgI a8C) (.seq (rgI a8B) (.ret))))))))
theorem d1o : fchk Pr (fun _ _ => false) Try.f78 = some (d3G, [.cell 4 (some 4)], 54) := by kernel_rfl
theorem d1p : Pr.funcs[a2E]? = some Try.f78 := Try.func78
def d0f : List AIns := [opI 4 (.mv (.c (.nil)))]
def d0e : List AIns := [mvI 8 0,
 opI 9 (.len (.t 8)),
 mvI 10 1,
 opI 11 (.len (.t 10)),
 opI 12 (.bin .lss (.t 9) (.t 11))]
def d0d : List AIns := [mvI 13 1,
 mvI 14 0,
 mvI 0 13,
 mvI 1 14]
def b9B : List AIns := [mvI 15 0,
 opI 16 (.len (.t 15)),
 opI 17 (.bin .add (.t 16) (.c (.int .i64 1))),
 ⟨some 18, none, .e (.mksl 1 4 (.int .u32 0) (.t 17) (.t 17))⟩,
 mvI 5 18]
def b9A : List AIns := [opI 6 (.mv (.c (.int .u64 0)))]
def b9z : List AIns := [mvI 19 0,
 opI 20 (.len (.t 19)),
 opI 21 (.mv (.c (.int .i64 0)))]
def b9y : List AIns := [opI 22 (.bin .lss (.t 21) (.t 20))]
def d0c : List AIns := [mvI 23 21,
 mvI 7 23]
def d0b : List AIns := [mvI 24 6,
 mvI 25 0,
 mvI 26 7,
 opI 27 (.idxp 1 (.t 25) (.t 26)),
 opI 28 (.load none (.t 27)),
 opI 29 (.conv .u64 (.t 28)),
 opI 30 (.bin .add (.t 24) (.t 29)),
 mvI 6 30]
def d0a : List AIns := [mvI 31 7,
 mvI 32 1,
 opI 33 (.len (.t 32)),
 opI 34 (.bin .lss (.t 31) (.t 33))]
def c5X : List AIns := [mvI 35 6,
 mvI 36 1,
 mvI 37 7,
 opI 38 (.idxp 1 (.t 36) (.t 37)),
 opI 39 (.load none (.t 38)),
 opI 40 (.conv .u64 (.t 39)),
 opI 41 (.bin .add (.t 35) (.t 40)),
 mvI 6 41]
def b5m : List AIns := [mvI 42 5,
 mvI 43 7,
 mvI 44 6,
 opI 45 (.conv .u32 (.t 44)),
 opI 46 (.idxp 1 (.t 42) (.t 43)),
 ⟨none, none, .e (.store 1 (.t 46) (.t 45))⟩]
def b5l : List AIns := [mvI 47 6,
 opI 48 (.bin .shr (.t 47) (.c (.int .u64 32))),
 mvI 6 48]
def b5k : List AIns := [opI 49 (.bin .add (.t 21) (.c (.int .i64 1))),
 mvI 21 49]
def b2G : ACode := .seq (rgI b9y) (.seq (.cond (.t 22) (.skip) (.exit 0)) (.seq (.block 1 (.seq (rgI d0c) (.seq (rgI d0b) (.seq (.seq (rgI d0a) (.cond (.t 34) (rgI c5X) (.skip))) (.seq (rgI b5m) (rgI b5l)))))) (rgI b5k)))
def a5M : List AIns := [mvI 50 5,
 mvI 51 0,
 opI 52 (.len (.t 51)),
 mvI 53 6,
 opI 54 (.conv .u32 (.t 53)),
 opI 55 (.idxp 1 (.t 50) (.t 52)),
 ⟨none, none, .e (.store 1 (.t 55) (.t 54))⟩]
def a5L : List AIns := [mvI 56 5,
 ⟨some 57, none, .call a0u [(.t 56)]⟩,
 mvI 4 57]
def e2X : ACode := .seq (rgI d0f) (.seq (.seq (rgI d0e) (.cond (.t 12) (rgI d0d) (.skip))) (.seq (rgI b9B) (.seq (rgI b9A) (.seq (.seq (rgI b9z) (.block 0 (.loop b2G))) (.seq (rgI a5M) (.seq (rgI a5L) (.ret)))))))
theorem e0P : fchk Pr (fun _ _ => false) Try.f79 = some (e2X, [.tmp 4], 58) := by kernel_rfl
theorem e0Q : Pr.funcs[a8l]? = some Try.f79 := Try.func79
def c9Y : List AIns := [opI 4 (.mv (.c (.int .i64 0)))]
def c9X : List AIns := [mvI 6 0,
 ⟨some 7, none, .call a0u [(.t 6)]⟩,
 mvI 8 1,
 ⟨some 9, none, .call a0u [(.t 8)]⟩,
 mvI 0 7,
 mvI 1 9]
def c9W : List AIns := [mvI 10 0,
 opI 11 (.len (.t 10)),
 mvI 12 1,
 opI 13 (.len (.t 12)),
 opI 14 (.bin .neq (.t 11) (.t 13))]
def c9V : List AIns := [mvI 15 0,
 opI 16 (.len (.t 15)),
 mvI 17 1,
 opI 18 (.len (.t 17)),
 opI 19 (.bin .lss (.t 16) (.t 18))]
def c9U : List AIns := [opI 4 (.mv (.c (.int .i64 (-1))))]
def c9T : List AIns := [opI 4 (.mv (.c (.int .i64 1)))]
def c9S : List AIns := [mvI 20 0,
 opI 21 (.len (.t 20)),
 opI 22 (.bin .sub (.t 21) (.c (.int .i64 1))),
 mvI 5 22]
def b9x : List AIns := [mvI 23 5,
 opI 24 (.bin .geq (.t 23) (.c (.int .i64 0)))]
def c9R : List AIns := [mvI 27 0,
 mvI 28 5,
 opI 29 (.idxp 1 (.t 27) (.t 28)),
 opI 30 (.load none (.t 29)),
 mvI 31 1,
 mvI 32 5,
 opI 33 (.idxp 1 (.t 31) (.t 32)),
 opI 34 (.load none (.t 33)),
 opI 35 (.bin .neq (.t 30) (.t 34))]
def c9Q : List AIns := [mvI 36 0,
 mvI 37 5,
 opI 38 (.idxp 1 (.t 36) (.t 37)),
 opI 39 (.load none (.t 38)),
 mvI 40 1,
 mvI 41 5,
 opI 42 (.idxp 1 (.t 40) (.t 41)),
 opI 43 (.load none (.t 42)),
 opI 44 (.bin .lss (.t 39) (.t 43))]
def c5R : List AIns := [opI 4 (.mv (.c (.int .i64 (-1))))]
def c5Q : List AIns := [opI 4 (.mv (.c (.int .i64 1)))]
def c5P : List AIns := [mvI 25 5,
 opI 26 (.bin .sub (.t 25) (.c (.int .i64 1))),
 mvI 5 26]
def c9Z : ACode := .seq (.seq (rgI b9x) (.cond (.t 24) (.skip) (.exit 0))) (.seq (.block 1 (.seq (.region c9R true) (.cond (.t 35) (.seq (.seq (.region c9Q true) (.cond (.t 44) (.seq (rgI c5R) (.ret)) (.skip))) (.seq (rgI c5Q) (.ret))) (.skip)))) (rgI c5P))
def b5j : List AIns := [opI 4 (.mv (.c (.int .i64 0)))]
def e2W : ACode := .seq (rgI c9Y) (.seq (rgI c9X) (.seq (.seq (rgI c9W) (.cond (.t 14) (.seq (.seq (rgI c9V) (.cond (.t 19) (.seq (rgI c9U) (.ret)) (.skip))) (.seq (rgI c9T) (.ret))) (.skip))) (.seq (.seq (rgI c9S) (.block 0 (.loop c9Z))) (.seq (rgI b5j) (.ret)))))
theorem e0M : fchk Pr (fun _ _ => false) Try.f80 = some (e2W, [.tmp 4], 45) := by kernel_rfl
theorem e0N : Pr.funcs[a8k]? = some Try.f80 := Try.func80
def c9s : List AIns := [opI 4 (.mv (.c (.nil))),
 opI 5 (.mv (.c (.int .i64 0)))]
def c9r : List AIns := [mvI 6 0,
 mvI 7 1,
 ⟨some 8, none, .call a8k [(.t 6), (.t 7)]⟩,
 opI 9 (.bin .lss (.t 8) (.c (.int .i64 0)))]
def e0z : List AIns := [opI 4 (.mv (.c (.nil))),
 opI 5 (.mv (.c (.int .i64 10)))]
def c9q : List AIns := [mvI 10 0,
 ⟨some 11, none, .call a0u [(.t 10)]⟩,
 mvI 12 1,
 ⟨some 13, none, .call a0u [(.t 12)]⟩,
 ⟨some 14, none, .call a8h [(.t 11), (.t 13)]⟩,
 mvI 4 14,
 opI 5 (.mv (.c (.int .i64 0)))]
def e2S : ACode := .seq (rgI c9s) (.seq (.seq (rgI c9r) (.cond (.t 9) (.seq (rgI e0z) (.ret)) (.skip))) (.seq (rgI c9q) (.ret)))
theorem e0A : fchk Pr (fun _ _ => false) Try.f81 = some (e2S, [.tmp 4, .tmp 5], 15) := by kernel_rfl
theorem e0B : Pr.funcs[c7R]? = some Try.f81 := Try.func81
def b6E : List AIns := [opI 4 (.mv (.c (.int .i64 0)))]
def b6D : List AIns := [mvI 5 0,
 mvI 6 1,
 opI 7 (.bin .gtr (.t 5) (.t 6))]
def b6C : List AIns := [mvI 8 0,
 mvI 4 8]
def b6B : List AIns := [mvI 9 1,
 mvI 4 9]
def d3Y : ACode := .seq (rgI b6E) (.seq (.seq (rgI b6D) (.cond (.t 7) (.seq (rgI b6C) (.ret)) (.skip))) (.seq (rgI b6B) (.ret)))
theorem d1x : fchk Pr (fun _ _ => false) Try.f82 = some (d3Y, [.tmp 4], 10) := by kernel_rfl
theorem d1y : Pr.funcs[a6O]? = some Try.f82 := Try.func82
def b6I : List AIns := [opI 4 (.mv (.c (.int .u64 0)))]
def b6H : List AIns := [mvI 5 1,
 mvI 6 0,
 opI 7 (.len (.t 6)),
 opI 8 (.bin .lss (.t 5) (.t 7))]
def b6G : List AIns := [mvI 9 0,
 mvI 10 1,
 opI 11 (.idxp 1 (.t 9) (.t 10)),
 opI 12 (.load none (.t 11)),
 opI 13 (.conv .u64 (.t 12)),
 mvI 4 13]
def b6F : List AIns := [opI 4 (.mv (.c (.int .u64 0)))]
def d3Z : ACode := .seq (rgI b6I) (.seq (.seq (rgI b6H) (.cond (.t 8) (.seq (rgI b6G) (.ret)) (.skip))) (.seq (rgI b6F) (.ret)))
theorem d1z : fchk Pr (fun _ _ => false) Try.f83 = some (d3Z, [.tmp 4], 14) := by kernel_rfl
theorem d1A : Pr.funcs[a0R]? = some Try.f83 := Try.func83
def b6R : List AIns := [opI 4 (.mv (.c (.nil)))]
def b6Q : List AIns := [opI 5 (.mv (.c (.nil)))]
def b6P : List AIns := [opI 6 (.mv (.c (.int .u64 0)))]
def b6O : List AIns := [opI 7 (.mv (.c (.int .i64 0)))]
def a8G : List AIns := [mvI 10 7,
 mvI 11 0,
 opI 12 (.len (.t 11)),
 opI 13 (.bin .lss (.t 10) (.t 12))]
def b6N : List AIns := [mvI 16 0,
 mvI 17 7,
 ⟨some 18, none, .call a0R [(.t 16), (.t 17)]⟩,
 mvI 8 18]
def b6M : List AIns := [mvI 19 1,
 mvI 20 7,
 ⟨some 21, none, .call a0R [(.t 19), (.t 20)]⟩,
 mvI 22 6,
 opI 23 (.bin .add (.t 21) (.t 22)),
 mvI 9 23]
def b6L : List AIns := [opI 6 (.mv (.c (.int .u64 0)))]
def b6K : List AIns := [mvI 24 8,
 mvI 25 9,
 opI 26 (.bin .lss (.t 24) (.t 25))]
def b6J : List AIns := [mvI 27 8,
 opI 28 (.bin .add (.t 27) (.c (.int .u64 4294967296))),
 mvI 8 28]
def b3G : List AIns := [opI 6 (.mv (.c (.int .u64 1)))]
def a7k : List AIns := [mvI 29 5,
 mvI 30 8,
 mvI 31 9,
 opI 32 (.bin .sub (.t 30) (.t 31)),
 opI 33 (.conv .u32 (.t 32)),
 ⟨some 34, none, .e (.bsl 1 [(.t 33)])⟩,
 ⟨some 35, none, .e (.app 1 4 false (.t 29) (.t 34))⟩,
 mvI 5 35]
def a7j : List AIns := [mvI 14 7,
 opI 15 (.bin .add (.t 14) (.c (.int .i64 1))),
 mvI 7 15]
def a8H : ACode := .seq (.seq (rgI a8G) (.cond (.t 13) (.skip) (.exit 0))) (.seq (.block 1 (.seq (rgI b6N) (.seq (rgI b6M) (.seq (rgI b6L) (.seq (.seq (rgI b6K) (.cond (.t 26) (.seq (rgI b6J) (rgI b3G)) (.skip))) (rgI a7k)))))) (rgI a7j))
def a4o : List AIns := [mvI 36 5,
 ⟨some 37, none, .call a0A [(.t 36)]⟩,
 mvI 4 37]
def d4a : ACode := .seq (rgI b6R) (.seq (rgI b6Q) (.seq (rgI b6P) (.seq (.seq (rgI b6O) (.block 0 (.loop a8H))) (.seq (rgI a4o) (.ret)))))
theorem d1B : fchk Pr (fun _ _ => false) Try.f84 = some (d4a, [.tmp 4], 38) := by kernel_rfl
theorem d1C : Pr.funcs[a2F]? = some Try.f84 := Try.func84
def c0A : List AIns := [⟨some 1, none, .e (.box 2 (.t 0))⟩,
 opI 2 (.mv (.c (.int .i64 0)))]
def c0z : List AIns := [opI 3 (.fldp (.t 1) 1),
 opI 4 (.load none (.t 3)),
 ⟨some 5, none, .call b2U [(.t 4)]⟩,
 mvI 2 5]
def d6p : ACode := .seq (rgI c0A) (.seq (rgI c0z) (.ret))
theorem d2U : fchk Pr (fun _ _ => false) Try.f85 = some (d6p, [.tmp 2], 6) := by kernel_rfl
theorem d2V : Pr.funcs[b5s]? = some Try.f85 := Try.func85
def b4q : List AIns := [opI 2 (.mv (.c (.nil)))]
def b4p : List AIns := [mvI 6 0,
 opI 7 (.len (.t 6)),
 ⟨some 8, none, .e (.mksl 1 24 (.nil) (.t 7) (.t 7))⟩,
 mvI 3 8]
def b4o : List AIns := [mvI 9 0,
 opI 10 (.len (.t 9)),
 opI 11 (.mv (.c (.int .i64 0)))]
def a7y : List AIns := [opI 12 (.bin .lss (.t 11) (.t 10))]
def b4n : List AIns := [mvI 13 11,
 opI 14 (.idxp 1 (.t 9) (.t 11)),
 opI 15 (.load none (.t 14)),
 mvI 4 13,
 mvI 5 15]
def b4m : List AIns := [mvI 16 3,
 mvI 17 4,
 mvI 18 5,
 opI 19 (.len (.t 18)),
 ⟨some 20, none, .e (.mksl 2 32 (.agg [.bool false, .nil]) (.t 19) (.t 19))⟩,
 opI 21 (.idxp 1 (.t 16) (.t 17)),
 ⟨none, none, .e (.store 1 (.t 21) (.t 20))⟩]
def b4l : List AIns := [mvI 22 3,
 mvI 23 4,
 opI 24 (.idxp 1 (.t 22) (.t 23)),
 opI 25 (.load none (.t 24)),
 mvI 26 5,
 ⟨some 27, none, .e (.cpy 2 (.t 25) (.t 26))⟩]
def b4k : List AIns := [opI 28 (.bin .add (.t 11) (.c (.int .i64 1))),
 mvI 11 28]
def c8x : ACode := .seq (rgI a7y) (.seq (.cond (.t 12) (.skip) (.exit 0)) (.seq (.block 1 (.seq (rgI b4n) (.seq (rgI b4m) (rgI b4l)))) (rgI b4k)))
def b4j : List AIns := [mvI 29 3,
 mvI 2 29]
def d2p : ACode := .seq (rgI b4q) (.seq (rgI b4p) (.seq (.seq (rgI b4o) (.block 0 (.loop c8x))) (.seq (rgI b4j) (.ret))))
theorem c8w : fchk Pr (fun _ _ => false) Try.f86 = some (d2p, [.tmp 2], 30) := by kernel_rfl
theorem c8y : Pr.funcs[a9U]? = some Try.f86 := Try.func86
def b4Z : List AIns := [opI 2 (.mv (.c (.nil)))]
def a5K : List AIns := [mvI 3 0,
 opI 4 (.len (.t 3)),
 opI 5 (.bin .gtr (.t 4) (.c (.int .i64 0))),
 mvI 6 5,
 ⟨some 7, some (6, true), .p (.mv (.t 0))⟩,
 ⟨some 8, some (6, true), .p (.mv (.t 0))⟩,
 ⟨some 9, some (6, true), .p (.len (.t 8))⟩,
 ⟨some 10, some (6, true), .p (.bin .sub (.t 9) (.c (.int .i64 1)))⟩,
 ⟨some 11, some (6, true), .p (.idxp 1 (.t 7) (.t 10))⟩,
 ⟨some 12, some (6, true), .p (.load none (.t 11))⟩,
 ⟨some 13, some (6, true), .p (.bin .eql (.t 12) (.c (.int .u32 0)))⟩,
 opI 14 (.pick (.t 6) (.t 13) (.c (.bool false)))]
def b4Y : List AIns := [mvI 15 0,
 mvI 16 0,
 opI 17 (.len (.t 16)),
 opI 18 (.bin .sub (.t 17) (.c (.int .i64 1))),
 opI 19 (.slc 1 (.t 15) none (some (.t 18)) none),
 mvI 0 19]
def c5l : ACode := .seq (.seq (rgI a5K) (.cond (.t 14) (.skip) (.exit 0))) (.block 1 (rgI b4Y))
def a4f : List AIns := [mvI 20 0,
 mvI 2 20]
def e0r : ACode := .seq (rgI b4Z) (.seq (.block 0 (.loop c5l)) (.seq (rgI a4f) (.ret)))
theorem c5k : fchk Pr (fun _ _ => false) Try.f87 = some (e0r, [.tmp 2], 21) := by kernel_rfl
theorem c5m : Pr.funcs[a0u]? = some Try.f87 := Try.func87
def a6G : List AIns := [opI 2 (.mv (.c (.int .i64 0)))]
def a6F : List AIns := [mvI 3 0,
 opI 4 (.bin .geq (.t 3) (.c (.int .u32 65536)))]
def a6E : List AIns := [mvI 5 0,
 opI 6 (.bin .shr (.t 5) (.c (.int .u64 16))),
 mvI 0 6]
def a6D : List AIns := [opI 2 (.mv (.c (.int .i64 16)))]
def a3Q : List AIns := [mvI 7 0,
 opI 8 (.bin .geq (.t 7) (.c (.int .u32 256)))]
def a3P : List AIns := [mvI 9 0,
 opI 10 (.bin .shr (.t 9) (.c (.int .u64 8))),
 mvI 0 10]
def a3O : List AIns := [mvI 11 2,
 opI 12 (.bin .add (.t 11) (.c (.int .i64 8))),
 mvI 2 12]
def a2t : List AIns := [mvI 13 2,
 mvI 14 0,
 opI 15 (.conv .u8 (.t 14)),
 opI 16 (.idxs (.c (.str e5o)) (.t 15)),
 opI 17 (.conv .i64 (.t 16)),
 opI 18 (.bin .add (.t 13) (.t 17)),
 mvI 2 18]
def b9E : ACode := .seq (rgI a6G) (.seq (.seq (rgI a6F) (.cond (.t 4) (.seq (rgI a6E) (rgI a6D)) (.skip))) (.seq (.seq (rgI a3Q) (.cond (.t 8) (.seq (rgI a3P) (rgI a3O)) (.skip))) (.seq (rgI a2t) (.ret))))
theorem b7K : fchk Pr (fun _ _ => false) Try.f88 = some (b9E, [.tmp 2], 19) := by kernel_rfl
theorem b7L : Pr.funcs[a1v]? = some Try.f88 := Try.func88
def c9H : List AIns := [opI 4 (.mv (.c (.nil)))]
def c9G : List AIns := [mvI 10 0,
 ⟨some 11, none, .call a8i [(.t 10)]⟩,
 mvI 12 1,
 ⟨some 13, none, .call a8i [(.t 12)]⟩,
 mvI 5 11,
 mvI 6 13]
def b9v : List AIns := [mvI 14 6,
 opI 15 (.len (.t 14)),
 opI 16 (.bin .gtr (.t 15) (.c (.int .i64 0)))]
def c9F : List AIns := [mvI 18 5,
 mvI 19 6,
 ⟨some 20, none, .call b8R [(.t 18), (.t 19)]⟩,
 mvI 17 20,
 opI 21 (.ext (.t 17) 0),
 opI 22 (.ext (.t 17) 1),
 opI 23 (.ext (.t 17) 2),
 mvI 7 21,
 mvI 8 22,
 mvI 9 23]
def c9E : List AIns := [mvI 24 6,
 mvI 25 8,
 mvI 5 24,
 mvI 6 25]
def e0G : ACode := .seq (.seq (rgI b9v) (.cond (.t 16) (.skip) (.exit 0))) (.block 1 (.seq (rgI c9F) (rgI c9E)))
def c9D : List AIns := [mvI 26 5,
 mvI 4 26]
def e2U : ACode := .seq (rgI c9H) (.seq (rgI c9G) (.seq (.block 0 (.loop e0G)) (.seq (rgI c9D) (.ret))))
theorem e0F : fchk Pr (fun _ _ => false) Try.f89 = some (e2U, [.tmp 4], 27) := by kernel_rfl
theorem e0H : Pr.funcs[c7S]? = some Try.f89 := Try.func89
def c5B : List AIns := [opI 2 (.mv (.c (.nil)))]
def c5A : List AIns := [mvI 3 0,
 ⟨some 4, none, .call a0u [(.t 3)]⟩,
 ⟨some 5, none, .e (.app 1 4 false (.c (.nil)) (.t 4))⟩,
 mvI 2 5]
def e0C : ACode := .seq (rgI c5B) (.seq (rgI c5A) (.ret))
theorem d7q : fchk Pr (fun _ _ => false) Try.f90 = some (e0C, [.tmp 2], 6) := by kernel_rfl
theorem d7r : Pr.funcs[a8i]? = some Try.f90 := Try.func90
def c2M : List AIns := [opI 4 (.mv (.c (.nil))),
 opI 5 (.mv (.c (.int .u32 0)))]
def c2L : List AIns := [mvI 9 0,
 opI 10 (.len (.t 9)),
 ⟨some 11, none, .e (.mksl 1 4 (.int .u32 0) (.t 10) (.t 10))⟩,
 mvI 6 11]
def c2K : List AIns := [opI 7 (.mv (.c (.int .u64 0)))]
def c2J : List AIns := [mvI 12 0,
 opI 13 (.len (.t 12)),
 opI 14 (.bin .sub (.t 13) (.c (.int .i64 1))),
 mvI 8 14]
def b1k : List AIns := [mvI 15 8,
 opI 16 (.bin .geq (.t 15) (.c (.int .i64 0)))]
def c2I : List AIns := [mvI 19 7,
 opI 20 (.bin .shl (.t 19) (.c (.int .u64 32))),
 mvI 21 0,
 mvI 22 8,
 opI 23 (.idxp 1 (.t 21) (.t 22)),
 opI 24 (.load none (.t 23)),
 opI 25 (.conv .u64 (.t 24)),
 opI 26 (.bin .or (.t 20) (.t 25)),
 mvI 7 26]
def c2H : List AIns := [mvI 27 6,
 mvI 28 8,
 mvI 29 7,
 mvI 30 1,
 opI 31 (.conv .u64 (.t 30)),
 opI 32 (.bin .quo (.t 29) (.t 31)),
 opI 33 (.conv .u32 (.t 32)),
 opI 34 (.idxp 1 (.t 27) (.t 28)),
 ⟨none, none, .e (.store 1 (.t 34) (.t 33))⟩]
def c2G : List AIns := [mvI 35 7,
 mvI 36 1,
 opI 37 (.conv .u64 (.t 36)),
 opI 38 (.bin .rem (.t 35) (.t 37)),
 mvI 7 38]
def c2F : List AIns := [mvI 17 8,
 opI 18 (.bin .sub (.t 17) (.c (.int .i64 1))),
 mvI 8 18]
def d4I : ACode := .seq (.seq (rgI b1k) (.cond (.t 16) (.skip) (.exit 0))) (.seq (.block 1 (.seq (rgI c2I) (.seq (rgI c2H) (rgI c2G)))) (rgI c2F))
def c2E : List AIns := [mvI 39 6,
 ⟨some 40, none, .call a0u [(.t 39)]⟩,
 mvI 41 7,
 opI 42 (.conv .u32 (.t 41)),
 mvI 4 40,
 mvI 5 42]
def d7m : ACode := .seq (rgI c2M) (.seq (rgI c2L) (.seq (rgI c2K) (.seq (.seq (rgI c2J) (.block 0 (.loop d4I))) (.seq (rgI c2E) (.ret)))))
theorem d4H : fchk Pr (fun _ _ => false) Try.f91 = some (d7m, [.tmp 4, .tmp 5], 43) := by kernel_rfl
theorem d4J : Pr.funcs[b5C]? = some Try.f91 := Try.func91
def a2y : List AIns := [opI 2 (.mv (.c (.int .i64 0)))]
def a2x : List AIns := [mvI 3 0,
 ⟨some 4, none, .call a1v [(.t 3)]⟩,
 opI 5 (.bin .sub (.c (.int .i64 32)) (.t 4)),
 mvI 2 5]
def a6n : ACode := .seq (rgI a2y) (.seq (rgI a2x) (.ret))
theorem a5N : fchk Pr (fun _ _ => false) Try.f92 = some (a6n, [.tmp 2], 6) := by kernel_rfl
theorem a5O : Pr.funcs[a1D]? = some Try.f92 := Try.func92
def c9p : List AIns := [opI 4 (.mv (.c (.nil)))]
def c9o : List AIns := [mvI 10 0,
 ⟨some 11, none, .call a0u [(.t 10)]⟩,
 mvI 0 11]
def c9n : List AIns := [mvI 12 0,
 opI 13 (.len (.t 12)),
 opI 14 (.bin .eql (.t 13) (.c (.int .i64 0)))]
def e0u : List AIns := [opI 4 (.mv (.c (.nil)))]
def c9m : List AIns := [mvI 15 1,
 opI 16 (.bin .quo (.t 15) (.c (.int .i64 32))),
 mvI 17 1,
 opI 18 (.bin .rem (.t 17) (.c (.int .i64 32))),
 opI 19 (.conv .u64 (.t 18)),
 mvI 5 16,
 mvI 6 19]
def c9l : List AIns := [mvI 20 0,
 opI 21 (.len (.t 20)),
 mvI 22 5,
 opI 23 (.bin .add (.t 21) (.t 22)),
 opI 24 (.bin .add (.t 23) (.c (.int .i64 1))),
 ⟨some 25, none, .e (.mksl 1 4 (.int .u32 0) (.t 24) (.t 24))⟩,
 mvI 7 25]
def c9k : List AIns := [mvI 26 0,
 opI 27 (.len (.t 26)),
 opI 28 (.mv (.c (.int .i64 0)))]
def b9s : List AIns := [opI 29 (.bin .lss (.t 28) (.t 27))]
def c9j : List AIns := [mvI 30 28,
 mvI 8 30]
def c9i : List AIns := [mvI 31 0,
 mvI 32 8,
 opI 33 (.idxp 1 (.t 31) (.t 32)),
 opI 34 (.load none (.t 33)),
 opI 35 (.conv .u64 (.t 34)),
 mvI 36 6,
 opI 37 (.bin .shl (.t 35) (.t 36)),
 mvI 9 37]
def c5r : List AIns := [mvI 38 7,
 mvI 39 8,
 mvI 40 5,
 opI 41 (.bin .add (.t 39) (.t 40)),
 opI 42 (.idxp 1 (.t 38) (.t 41)),
 opI 43 (.load none (.t 42)),
 mvI 44 9,
 opI 45 (.conv .u32 (.t 44)),
 opI 46 (.bin .or (.t 43) (.t 45)),
 opI 47 (.idxp 1 (.t 38) (.t 41)),
 ⟨none, none, .e (.store 1 (.t 47) (.t 46))⟩]
def c5q : List AIns := [mvI 48 7,
 mvI 49 8,
 mvI 50 5,
 opI 51 (.bin .add (.t 49) (.t 50)),
 opI 52 (.bin .add (.t 51) (.c (.int .i64 1))),
 mvI 53 9,
 opI 54 (.bin .shr (.t 53) (.c (.int .u64 32))),
 opI 55 (.conv .u32 (.t 54)),
 opI 56 (.idxp 1 (.t 48) (.t 52)),
 ⟨none, none, .e (.store 1 (.t 56) (.t 55))⟩]
def c5p : List AIns := [opI 57 (.bin .add (.t 28) (.c (.int .i64 1))),
 mvI 28 57]
def e0w : ACode := .seq (rgI b9s) (.seq (.cond (.t 29) (.skip) (.exit 0)) (.seq (.block 1 (.seq (rgI c9j) (.seq (rgI c9i) (.seq (rgI c5r) (rgI c5q))))) (rgI c5p)))
def c5o : List AIns := [mvI 58 7,
 ⟨some 59, none, .call a0u [(.t 58)]⟩,
 mvI 4 59]
def e2R : ACode := .seq (rgI c9p) (.seq (rgI c9o) (.seq (.seq (rgI c9n) (.cond (.t 14) (.seq (rgI e0u) (.ret)) (.skip))) (.seq (rgI c9m) (.seq (rgI c9l) (.seq (.seq (rgI c9k) (.block 0 (.loop e0w))) (.seq (rgI c5o) (.ret)))))))
theorem e0v : fchk Pr (fun _ _ => false) Try.f93 = some (e2R, [.tmp 4], 60) := by kernel_rfl
theorem e0x : Pr.funcs[b8Q]? = some Try.f93 := Try.func93
def c2U : List AIns := [opI 4 (.mv (.c (.int .u32 0)))]
def c2T : List AIns := [mvI 15 1,
 opI 16 (.len (.t 15)),
 mvI 5 16]
def c2S : List AIns := [mvI 17 0,
 mvI 18 5,
 opI 19 (.idxp 1 (.t 17) (.t 18)),
 opI 20 (.load none (.t 19)),
 opI 21 (.conv .u64 (.t 20)),
 opI 22 (.bin .shl (.t 21) (.c (.int .u64 32))),
 mvI 23 0,
 mvI 24 5,
 opI 25 (.bin .sub (.t 24) (.c (.int .i64 1))),
 opI 26 (.idxp 1 (.t 23) (.t 25)),
 opI 27 (.load none (.t 26)),
 opI 28 (.conv .u64 (.t 27)),
 opI 29 (.bin .or (.t 22) (.t 28)),
 mvI 6 29]
def c2R : List AIns := [mvI 30 6,
 mvI 31 1,
 mvI 32 5,
 opI 33 (.bin .sub (.t 32) (.c (.int .i64 1))),
 opI 34 (.idxp 1 (.t 31) (.t 33)),
 opI 35 (.load none (.t 34)),
 opI 36 (.conv .u64 (.t 35)),
 opI 37 (.bin .quo (.t 30) (.t 36)),
 opI 38 (.mnx false (.t 37) (.c (.int .u64 4294967295))),
 mvI 7 38]
def c2Q : List AIns := [opI 8 (.mv (.c (.int .u64 0))),
 opI 9 (.mv (.c (.int .u64 0)))]
def c2P : List AIns := [mvI 39 5,
 opI 40 (.bin .add (.t 39) (.c (.int .i64 1))),
 opI 41 (.mv (.c (.int .i64 0)))]
def b1o : List AIns := [opI 42 (.bin .lss (.t 41) (.t 40))]
def c2O : List AIns := [mvI 43 41,
 mvI 10 43]
def c2N : List AIns := [mvI 44 8,
 mvI 11 44]
def b1n : List AIns := [mvI 45 10,
 mvI 46 5,
 opI 47 (.bin .lss (.t 45) (.t 46))]
def b7G : List AIns := [mvI 48 11,
 mvI 49 7,
 mvI 50 1,
 mvI 51 10,
 opI 52 (.idxp 1 (.t 50) (.t 51)),
 opI 53 (.load none (.t 52)),
 opI 54 (.conv .u64 (.t 53)),
 opI 55 (.bin .mul (.t 49) (.t 54)),
 opI 56 (.bin .add (.t 48) (.t 55)),
 mvI 11 56]
def a9k : List AIns := [mvI 57 11,
 opI 58 (.bin .shr (.t 57) (.c (.int .u64 32))),
 mvI 8 58]
def a9j : List AIns := [mvI 59 0,
 mvI 60 10,
 opI 61 (.idxp 1 (.t 59) (.t 60)),
 opI 62 (.load none (.t 61)),
 opI 63 (.conv .u64 (.t 62)),
 mvI 64 11,
 opI 65 (.conv .u32 (.t 64)),
 opI 66 (.conv .u64 (.t 65)),
 opI 67 (.bin .sub (.t 63) (.t 66)),
 mvI 68 9,
 opI 69 (.bin .sub (.t 67) (.t 68)),
 mvI 12 69]
def a9i : List AIns := [mvI 70 0,
 mvI 71 10,
 mvI 72 12,
 opI 73 (.conv .u32 (.t 72)),
 opI 74 (.idxp 1 (.t 70) (.t 71)),
 ⟨none, none, .e (.store 1 (.t 74) (.t 73))⟩]
def a9h : List AIns := [mvI 75 12,
 opI 76 (.bin .shr (.t 75) (.c (.int .u64 63))),
 mvI 9 76]
def a9g : List AIns := [opI 77 (.bin .add (.t 41) (.c (.int .i64 1))),
 mvI 41 77]
def a6B : ACode := .seq (rgI b1o) (.seq (.cond (.t 42) (.skip) (.exit 0)) (.seq (.block 1 (.seq (rgI c2O) (.seq (rgI c2N) (.seq (.seq (rgI b1n) (.cond (.t 47) (rgI b7G) (.skip))) (.seq (rgI a9k) (.seq (rgI a9j) (.seq (rgI a9i) (rgI a9h)))))))) (rgI a9g)))
def a5i : List AIns := [mvI 78 9,
 opI 79 (.bin .gtr (.t 78) (.c (.int .u64 0)))]
def b7F : List AIns := [mvI 80 7,
 opI 81 (.bin .sub (.t 80) (.c (.int .u64 1))),
 mvI 7 81]
def b7E : List AIns := [opI 13 (.mv (.c (.int .u64 0)))]
def b7D : List AIns := [mvI 82 5,
 opI 83 (.bin .add (.t 82) (.c (.int .i64 1))),
 opI 84 (.mv (.c (.int .i64 0)))]
def a9f : List AIns := [opI 85 (.bin .lss (.t 84) (.t 83))]
def b7C : List AIns := [mvI 86 84,
 mvI 14 86]
def b7B : List AIns := [mvI 87 13,
 mvI 88 0,
 mvI 89 14,
 opI 90 (.idxp 1 (.t 88) (.t 89)),
 opI 91 (.load none (.t 90)),
 opI 92 (.conv .u64 (.t 91)),
 opI 93 (.bin .add (.t 87) (.t 92)),
 mvI 13 93]
def a9e : List AIns := [mvI 94 14,
 mvI 95 5,
 opI 96 (.bin .lss (.t 94) (.t 95))]
def b7A : List AIns := [mvI 97 13,
 mvI 98 1,
 mvI 99 14,
 opI 100 (.idxp 1 (.t 98) (.t 99)),
 opI 101 (.load none (.t 100)),
 opI 102 (.conv .u64 (.t 101)),
 opI 103 (.bin .add (.t 97) (.t 102)),
 mvI 13 103]
def a9d : List AIns := [mvI 104 0,
 mvI 105 14,
 mvI 106 13,
 opI 107 (.conv .u32 (.t 106)),
 opI 108 (.idxp 1 (.t 104) (.t 105)),
 ⟨none, none, .e (.store 1 (.t 108) (.t 107))⟩]
def a9c : List AIns := [mvI 109 13,
 opI 110 (.bin .shr (.t 109) (.c (.int .u64 32))),
 mvI 13 110]
def a9b : List AIns := [opI 111 (.bin .add (.t 84) (.c (.int .i64 1))),
 mvI 84 111]
def a6A : ACode := .seq (rgI a9f) (.seq (.cond (.t 85) (.skip) (.exit 4)) (.seq (.block 5 (.seq (rgI b7C) (.seq (rgI b7B) (.seq (.seq (rgI a9e) (.cond (.t 96) (rgI b7A) (.skip))) (.seq (rgI a9d) (rgI a9c)))))) (rgI a9b)))
def b7z : List AIns := [mvI 112 9,
 mvI 113 13,
 opI 114 (.bin .sub (.t 112) (.t 113)),
 mvI 9 114]
def c2V : ACode := .seq (.seq (rgI a5i) (.cond (.t 79) (.skip) (.exit 2))) (.block 3 (.seq (rgI b7F) (.seq (rgI b7E) (.seq (.seq (rgI b7D) (.block 4 (.loop a6A))) (rgI b7z)))))
def a5h : List AIns := [mvI 115 7,
 opI 116 (.conv .u32 (.t 115)),
 mvI 4 116]
def d7p : ACode := .seq (rgI c2U) (.seq (rgI c2T) (.seq (.region c2S true) (.seq (rgI c2R) (.seq (rgI c2Q) (.seq (.seq (rgI c2P) (.block 0 (.loop a6B))) (.seq (.block 2 (.loop c2V)) (.seq (rgI a5h) (.ret))))))))
theorem d4K : fchk Pr (fun _ _ => false) Try.f94 = some (d7p, [.tmp 4], 117) := by kernel_rfl
theorem d4L : Pr.funcs[a9Q]? = some Try.f94 := Try.func94
def c9g : List AIns := [opI 4 (.mv (.c (.nil)))]
def c9f : List AIns := [mvI 10 0,
 ⟨some 11, none, .call a0u [(.t 10)]⟩,
 mvI 0 11]
def c9e : List AIns := [mvI 12 1,
 opI 13 (.bin .quo (.t 12) (.c (.int .i64 32))),
 mvI 14 1,
 opI 15 (.bin .rem (.t 14) (.c (.int .i64 32))),
 opI 16 (.conv .u64 (.t 15)),
 mvI 5 13,
 mvI 6 16]
def b9r : List AIns := [mvI 17 5,
 mvI 18 0,
 opI 19 (.len (.t 18)),
 opI 20 (.bin .geq (.t 17) (.t 19))]
def c9d : List AIns := [opI 4 (.mv (.c (.nil)))]
def c9c : List AIns := [mvI 21 0,
 opI 22 (.len (.t 21)),
 mvI 23 5,
 opI 24 (.bin .sub (.t 22) (.t 23)),
 ⟨some 25, none, .e (.mksl 1 4 (.int .u32 0) (.t 24) (.t 24))⟩,
 mvI 7 25]
def c9b : List AIns := [mvI 26 7,
 opI 27 (.len (.t 26)),
 opI 28 (.mv (.c (.int .i64 0)))]
def b9q : List AIns := [opI 29 (.bin .lss (.t 28) (.t 27))]
def c9a : List AIns := [mvI 30 28,
 mvI 8 30]
def c8Z : List AIns := [mvI 31 0,
 mvI 32 8,
 mvI 33 5,
 opI 34 (.bin .add (.t 32) (.t 33)),
 opI 35 (.idxp 1 (.t 31) (.t 34)),
 opI 36 (.load none (.t 35)),
 opI 37 (.conv .u64 (.t 36)),
 mvI 9 37]
def b5d : List AIns := [mvI 38 8,
 mvI 39 5,
 opI 40 (.bin .add (.t 38) (.t 39)),
 opI 41 (.bin .add (.t 40) (.c (.int .i64 1))),
 mvI 42 0,
 opI 43 (.len (.t 42)),
 opI 44 (.bin .lss (.t 41) (.t 43))]
def c5n : List AIns := [mvI 45 9,
 mvI 46 0,
 mvI 47 8,
 mvI 48 5,
 opI 49 (.bin .add (.t 47) (.t 48)),
 opI 50 (.bin .add (.t 49) (.c (.int .i64 1))),
 opI 51 (.idxp 1 (.t 46) (.t 50)),
 opI 52 (.load none (.t 51)),
 opI 53 (.conv .u64 (.t 52)),
 opI 54 (.bin .shl (.t 53) (.c (.int .u64 32))),
 opI 55 (.bin .or (.t 45) (.t 54)),
 mvI 9 55]
def b5c : List AIns := [mvI 56 7,
 mvI 57 8,
 mvI 58 9,
 mvI 59 6,
 opI 60 (.bin .shr (.t 58) (.t 59)),
 opI 61 (.conv .u32 (.t 60)),
 opI 62 (.idxp 1 (.t 56) (.t 57)),
 ⟨none, none, .e (.store 1 (.t 62) (.t 61))⟩]
def b5b : List AIns := [opI 63 (.bin .add (.t 28) (.c (.int .i64 1))),
 mvI 28 63]
def c9h : ACode := .seq (rgI b9q) (.seq (.cond (.t 29) (.skip) (.exit 0)) (.seq (.block 1 (.seq (rgI c9a) (.seq (rgI c8Z) (.seq (.seq (rgI b5d) (.cond (.t 44) (rgI c5n) (.skip))) (rgI b5c))))) (rgI b5b)))
def b5a : List AIns := [mvI 64 7,
 ⟨some 65, none, .call a0u [(.t 64)]⟩,
 mvI 4 65]
def e2Q : ACode := .seq (rgI c9g) (.seq (rgI c9f) (.seq (rgI c9e) (.seq (.seq (rgI b9r) (.cond (.t 20) (.seq (rgI c9d) (.ret)) (.skip))) (.seq (rgI c9c) (.seq (.seq (rgI c9b) (.block 0 (.loop c9h))) (.seq (rgI b5a) (.ret)))))))
theorem e0s : fchk Pr (fun _ _ => false) Try.f95 = some (e2Q, [.tmp 4], 66) := by kernel_rfl
theorem e0t : Pr.funcs[b8P]? = some Try.f95 := Try.func95
def c5a : List AIns := [⟨some 2, none, .e (.box 2 (.c (.agg [.bool false, .nil])))⟩]
def c4Z : List AIns := [mvI 4 0,
 opI 5 (.conv .u64 (.t 4)),
 mvI 3 5]
def c4Y : List AIns := [mvI 6 0,
 opI 7 (.bin .lss (.t 6) (.c (.int .i64 0)))]
def c4X : List AIns := [mvI 8 3,
 opI 9 (.un .neg (.t 8)),
 mvI 3 9]
def b4T : List AIns := [mvI 10 0,
 opI 11 (.bin .lss (.t 10) (.c (.int .i64 0))),
 mvI 12 3,
 opI 13 (.conv .u32 (.t 12)),
 mvI 14 3,
 opI 15 (.bin .shr (.t 14) (.c (.int .u64 32))),
 opI 16 (.conv .u32 (.t 15)),
 ⟨some 17, none, .e (.bsl 1 [(.t 13), (.t 16)])⟩,
 ⟨some 18, none, .call a1I [(.t 11), (.t 17)]⟩,
 ⟨none, none, .e (.store 2 (.t 2) (.t 18))⟩]
def e0b : ACode := .seq (rgI c5a) (.seq (rgI c4Z) (.seq (.seq (rgI c4Y) (.cond (.t 7) (rgI c4X) (.skip))) (.seq (rgI b4T) (.ret))))
theorem d6R : fchk Pr (fun _ _ => false) Try.f96 = some (e0b, [.cell 2 (some 2)], 19) := by kernel_rfl
theorem d6S : Pr.funcs[b2T]? = some Try.f96 := Try.func96
def c1V : List AIns := [opI 4 (.mv (.c (.nil)))]
def c1U : List AIns := [mvI 10 0,
 ⟨some 11, none, .call a0A [(.t 10)]⟩,
 mvI 5 11]
def c1T : List AIns := [mvI 12 1,
 ⟨some 13, none, .call a0A [(.t 12)]⟩,
 mvI 6 13]
def b1c : List AIns := [mvI 14 6,
 opI 15 (.len (.t 14)),
 opI 16 (.bin .gtr (.t 15) (.c (.int .i64 0)))]
def c1S : List AIns := [mvI 18 5,
 mvI 19 6,
 ⟨some 20, none, .call a4m [(.t 18), (.t 19)]⟩,
 mvI 17 20,
 opI 21 (.ext (.t 17) 0),
 opI 22 (.ext (.t 17) 1),
 opI 23 (.ext (.t 17) 2),
 mvI 7 21,
 mvI 8 22,
 mvI 9 23]
def c1R : List AIns := [mvI 24 6,
 mvI 5 24]
def c1Q : List AIns := [mvI 25 8,
 mvI 6 25]
def d4r : ACode := .seq (.seq (rgI b1c) (.cond (.t 16) (.skip) (.exit 0))) (.block 1 (.seq (rgI c1S) (.seq (rgI c1R) (rgI c1Q))))
def c1P : List AIns := [mvI 26 5,
 mvI 4 26]
def d7b : ACode := .seq (rgI c1V) (.seq (rgI c1U) (.seq (rgI c1T) (.seq (.block 0 (.loop d4r)) (.seq (rgI c1P) (.ret)))))
theorem d4q : fchk Pr (fun _ _ => false) Try.f97 = some (d7b, [.tmp 4], 27) := by kernel_rfl
theorem d4s : Pr.funcs[b5B]? = some Try.f97 := Try.func97
def c2d : List AIns := [opI 4 (.mv (.c (.nil))),
 opI 5 (.mv (.c (.nil))),
 opI 6 (.mv (.c (.int .i64 0)))]
def c2c : List AIns := [mvI 20 1,
 ⟨some 21, none, .call a0A [(.t 20)]⟩,
 mvI 7 21]
def c2b : List AIns := [mvI 22 7,
 opI 23 (.len (.t 22)),
 opI 24 (.bin .eql (.t 23) (.c (.int .i64 0)))]
def d4t : List AIns := [opI 4 (.mv (.c (.nil))),
 opI 5 (.mv (.c (.nil))),
 opI 6 (.mv (.c (.int .i64 11)))]
def b1d : List AIns := [mvI 25 7,
 opI 26 (.len (.t 25)),
 opI 27 (.bin .eql (.t 26) (.c (.int .i64 1)))]
def c2a : List AIns := [mvI 29 0,
 mvI 30 7,
 opI 31 (.idxp 1 (.t 30) (.c (.int .i64 0))),
 opI 32 (.load none (.t 31)),
 opI 33 (.conv .u64 (.t 32)),
 ⟨some 34, none, .call a9N [(.t 29), (.t 33)]⟩,
 mvI 28 34,
 opI 35 (.ext (.t 28) 0),
 opI 36 (.ext (.t 28) 1),
 mvI 8 35,
 mvI 9 36]
def c1Z : List AIns := [mvI 37 8,
 mvI 38 9,
 opI 39 (.conv .u32 (.t 38)),
 ⟨some 40, none, .e (.bsl 1 [(.t 39)])⟩,
 ⟨some 41, none, .gcall a0A [(.t 40)]⟩,
 mvI 4 37,
 mvI 5 41,
 opI 6 (.mv (.c (.int .i64 0)))]
def c1Y : List AIns := [mvI 42 7,
 opI 43 (.len (.t 42)),
 opI 44 (.bin .mul (.c (.int .i64 32)) (.t 43)),
 mvI 45 7,
 ⟨some 46, none, .gcall a2a [(.t 45)]⟩,
 opI 47 (.bin .sub (.t 44) (.t 46)),
 ⟨some 48, none, .call b5z [(.t 47)]⟩,
 mvI 10 48]
def c1X : List AIns := [mvI 49 0,
 mvI 50 10,
 ⟨some 51, none, .call a2h [(.t 49), (.t 50)]⟩,
 mvI 11 51]
def c1W : List AIns := [mvI 52 7,
 mvI 53 10,
 ⟨some 54, none, .call a2h [(.t 52), (.t 53)]⟩,
 mvI 12 54]
def b7m : List AIns := [mvI 55 11,
 opI 56 (.len (.t 55)),
 ⟨some 57, none, .e (.mksl 1 4 (.int .u32 0) (.t 56) (.t 56))⟩,
 mvI 13 57]
def b7l : List AIns := [opI 14 (.mv (.c (.nil)))]
def b7k : List AIns := [mvI 58 11,
 opI 59 (.len (.t 58)),
 opI 60 (.bin .sub (.t 59) (.c (.int .i64 1))),
 mvI 15 60]
def a8R : List AIns := [mvI 61 15,
 opI 62 (.bin .geq (.t 61) (.c (.int .i64 0)))]
def b7j : List AIns := [mvI 65 11,
 mvI 66 15,
 opI 67 (.idxp 1 (.t 65) (.t 66)),
 opI 68 (.load none (.t 67)),
 ⟨some 69, none, .e (.bslm 1 [(.t 68)])⟩,
 mvI 70 14,
 ⟨some 71, none, .e (.app 1 4 false (.t 69) (.t 70))⟩,
 ⟨some 72, none, .call a0A [(.t 71)]⟩,
 mvI 14 72]
def b7i : List AIns := [mvI 73 14,
 mvI 74 12,
 ⟨some 75, none, .call a3g [(.t 73), (.t 74)]⟩,
 opI 76 (.bin .lss (.t 75) (.c (.int .i64 0)))]
def b7h : List AIns := [mvI 77 14,
 mvI 78 12,
 opI 79 (.len (.t 78)),
 ⟨some 80, none, .call a0R [(.t 77), (.t 79)]⟩,
 opI 81 (.bin .mul (.t 80) (.c (.int .u64 4294967296))),
 mvI 82 14,
 mvI 83 12,
 opI 84 (.len (.t 83)),
 opI 85 (.bin .sub (.t 84) (.c (.int .i64 1))),
 ⟨some 86, none, .call a0R [(.t 82), (.t 85)]⟩,
 opI 87 (.bin .add (.t 81) (.t 86)),
 mvI 88 12,
 mvI 89 12,
 opI 90 (.len (.t 89)),
 opI 91 (.bin .sub (.t 90) (.c (.int .i64 1))),
 ⟨some 92, none, .call a0R [(.t 88), (.t 91)]⟩,
 opI 93 (.bin .quo (.t 87) (.t 92)),
 mvI 16 93]
def a8Q : List AIns := [mvI 94 16,
 opI 95 (.bin .geq (.t 94) (.c (.int .u64 4294967296)))]
def b7g : List AIns := [opI 16 (.mv (.c (.int .u64 4294967295)))]
def a8P : List AIns := [mvI 96 12,
 mvI 97 16,
 opI 98 (.conv .u32 (.t 97)),
 ⟨some 99, none, .e (.bsl 1 [(.t 98)])⟩,
 ⟨some 100, none, .gcall a2h [(.t 96), (.t 99)]⟩,
 mvI 17 100]
def b7f : List AIns := [mvI 101 17,
 mvI 102 14,
 ⟨some 103, none, .call a3g [(.t 101), (.t 102)]⟩,
 opI 104 (.bin .gtr (.t 103) (.c (.int .i64 0)))]
def b7e : List AIns := [mvI 105 16,
 opI 106 (.bin .sub (.t 105) (.c (.int .u64 1))),
 mvI 16 106]
def b7d : List AIns := [mvI 107 17,
 mvI 108 12,
 ⟨some 109, none, .call a2F [(.t 107), (.t 108)]⟩,
 mvI 17 109]
def c2e : ACode := .seq (.seq (rgI b7f) (.cond (.t 104) (.skip) (.exit 2))) (.block 3 (.seq (rgI b7e) (rgI b7d)))
def a8O : List AIns := [mvI 110 13,
 mvI 111 15,
 mvI 112 16,
 opI 113 (.conv .u32 (.t 112)),
 opI 114 (.idxp 1 (.t 110) (.t 111)),
 ⟨none, none, .e (.store 1 (.t 114) (.t 113))⟩]
def a8N : List AIns := [mvI 115 14,
 mvI 116 17,
 ⟨some 117, none, .call a2F [(.t 115), (.t 116)]⟩,
 mvI 14 117]
def a5f : List AIns := [mvI 63 15,
 opI 64 (.bin .sub (.t 63) (.c (.int .i64 1))),
 mvI 15 64]
def c2f : ACode := .seq (.seq (rgI a8R) (.cond (.t 62) (.skip) (.exit 0))) (.seq (.block 1 (.seq (rgI b7j) (.seq (.seq (rgI b7i) (.cond (.t 76) (.exit 1) (.skip))) (.seq (rgI b7h) (.seq (.seq (rgI a8Q) (.cond (.t 95) (rgI b7g) (.skip))) (.seq (rgI a8P) (.seq (.block 2 (.loop c2e)) (.seq (rgI a8O) (rgI a8N))))))))) (rgI a5f))
def a8M : List AIns := [mvI 119 14,
 mvI 120 7,
 opI 121 (.len (.t 120)),
 opI 122 (.bin .mul (.c (.int .i64 32)) (.t 121)),
 mvI 123 7,
 ⟨some 124, none, .call a2a [(.t 123)]⟩,
 opI 125 (.bin .sub (.t 122) (.t 124)),
 ⟨some 126, none, .call b5A [(.t 119), (.t 125)]⟩,
 mvI 118 126,
 opI 127 (.ext (.t 118) 0),
 opI 128 (.ext (.t 118) 1),
 mvI 18 127,
 mvI 19 128]
def a8L : List AIns := [mvI 129 13,
 ⟨some 130, none, .call a0A [(.t 129)]⟩,
 mvI 131 18,
 mvI 4 130,
 mvI 5 131,
 opI 6 (.mv (.c (.int .i64 0)))]
def d7c : ACode := .seq (rgI c2d) (.seq (rgI c2c) (.seq (.seq (rgI c2b) (.cond (.t 24) (.seq (rgI d4t) (.ret)) (.skip))) (.seq (.seq (rgI b1d) (.cond (.t 27) (.seq (rgI c2a) (.seq (rgI c1Z) (.ret))) (.skip))) (.seq (rgI c1Y) (.seq (rgI c1X) (.seq (rgI c1W) (.seq (rgI b7m) (.seq (rgI b7l) (.seq (.seq (rgI b7k) (.block 0 (.loop c2f))) (.seq (rgI a8M) (.seq (rgI a8L) (.ret))))))))))))
theorem d4u : fchk Pr (fun _ k => (k == 4)) Try.f98 = some (d7c, [.tmp 4, .tmp 5, .tmp 6], 132) := by kernel_rfl
theorem d4v : Pr.funcs[a4m]? = some Try.f98 := Try.func98
def c5z : List AIns := [opI 4 (.mv (.c (.nil)))]
def c5y : List AIns := [mvI 9 0,
 opI 10 (.len (.t 9)),
 ⟨some 11, none, .e (.mksl 1 4 (.int .u32 0) (.t 10) (.t 10))⟩,
 mvI 5 11]
def c5x : List AIns := [opI 6 (.mv (.c (.int .u64 0)))]
def c5w : List AIns := [mvI 12 0,
 opI 13 (.len (.t 12)),
 opI 14 (.mv (.c (.int .i64 0)))]
def b5f : List AIns := [opI 15 (.bin .lss (.t 14) (.t 13))]
def c5v : List AIns := [mvI 16 14,
 mvI 7 16]
def c5u : List AIns := [mvI 17 0,
 mvI 18 7,
 opI 19 (.idxp 1 (.t 17) (.t 18)),
 opI 20 (.load none (.t 19)),
 opI 21 (.conv .u64 (.t 20)),
 mvI 22 6,
 opI 23 (.bin .sub (.t 21) (.t 22)),
 mvI 8 23]
def c5t : List AIns := [mvI 24 7,
 mvI 25 1,
 opI 26 (.len (.t 25)),
 opI 27 (.bin .lss (.t 24) (.t 26))]
def c5s : List AIns := [mvI 28 8,
 mvI 29 1,
 mvI 30 7,
 opI 31 (.idxp 1 (.t 29) (.t 30)),
 opI 32 (.load none (.t 31)),
 opI 33 (.conv .u64 (.t 32)),
 opI 34 (.bin .sub (.t 28) (.t 33)),
 mvI 8 34]
def b5e : List AIns := [mvI 35 5,
 mvI 36 7,
 mvI 37 8,
 opI 38 (.conv .u32 (.t 37)),
 opI 39 (.idxp 1 (.t 35) (.t 36)),
 ⟨none, none, .e (.store 1 (.t 39) (.t 38))⟩]
def b1m : List AIns := [mvI 40 8,
 opI 41 (.bin .shr (.t 40) (.c (.int .u64 63))),
 mvI 6 41]
def b1l : List AIns := [opI 42 (.bin .add (.t 14) (.c (.int .i64 1))),
 mvI 14 42]
def b5g : ACode := .seq (rgI b5f) (.seq (.cond (.t 15) (.skip) (.exit 0)) (.seq (.block 1 (.seq (rgI c5v) (.seq (rgI c5u) (.seq (.seq (rgI c5t) (.cond (.t 27) (rgI c5s) (.skip))) (.seq (rgI b5e) (rgI b1m)))))) (rgI b1l)))
def a6z : List AIns := [mvI 43 5,
 ⟨some 44, none, .call a0u [(.t 43)]⟩,
 mvI 4 44]
def e0y : ACode := .seq (rgI c5z) (.seq (rgI c5y) (.seq (rgI c5x) (.seq (.seq (rgI c5w) (.block 0 (.loop b5g))) (.seq (rgI a6z) (.ret)))))
theorem d7n : fchk Pr (fun _ _ => false) Try.f99 = some (e0y, [.tmp 4], 45) := by kernel_rfl
theorem d7o : Pr.funcs[a8h]? = some Try.f99 := Try.func99
def b3F : List AIns := [opI 4 (.mv (.c (.nil))),
 opI 5 (.mv (.c (.int .u64 0)))]
def b3E : List AIns := [mvI 9 0,
 opI 10 (.len (.t 9)),
 ⟨some 11, none, .e (.mksl 1 4 (.int .u32 0) (.t 10) (.t 10))⟩,
 mvI 6 11]
def b3D : List AIns := [opI 7 (.mv (.c (.int .u64 0)))]
def b3C : List AIns := [mvI 12 0,
 opI 13 (.len (.t 12)),
 opI 14 (.bin .sub (.t 13) (.c (.int .i64 1))),
 mvI 8 14]
def a7i : List AIns := [mvI 15 8,
 opI 16 (.bin .geq (.t 15) (.c (.int .i64 0)))]
def b3B : List AIns := [mvI 19 7,
 opI 20 (.bin .mul (.t 19) (.c (.int .u64 4294967296))),
 mvI 21 0,
 mvI 22 8,
 opI 23 (.idxp 1 (.t 21) (.t 22)),
 opI 24 (.load none (.t 23)),
 opI 25 (.conv .u64 (.t 24)),
 opI 26 (.bin .add (.t 20) (.t 25)),
 mvI 7 26]
def b3A : List AIns := [mvI 27 6,
 mvI 28 8,
 mvI 29 7,
 mvI 30 1,
 opI 31 (.bin .quo (.t 29) (.t 30)),
 opI 32 (.conv .u32 (.t 31)),
 opI 33 (.idxp 1 (.t 27) (.t 28)),
 ⟨none, none, .e (.store 1 (.t 33) (.t 32))⟩]
def b3z : List AIns := [mvI 34 7,
 mvI 35 1,
 opI 36 (.bin .rem (.t 34) (.t 35)),
 mvI 7 36]
def b3y : List AIns := [mvI 17 8,
 opI 18 (.bin .sub (.t 17) (.c (.int .i64 1))),
 mvI 8 18]
def c8h : ACode := .seq (.seq (rgI a7i) (.cond (.t 16) (.skip) (.exit 0))) (.seq (.block 1 (.seq (rgI b3B) (.seq (rgI b3A) (rgI b3z)))) (rgI b3y))
def b3x : List AIns := [mvI 37 6,
 ⟨some 38, none, .call a0A [(.t 37)]⟩,
 mvI 39 7,
 mvI 4 38,
 mvI 5 39]
def d1w : ACode := .seq (rgI b3F) (.seq (rgI b3E) (.seq (rgI b3D) (.seq (.seq (rgI b3C) (.block 0 (.loop c8h))) (.seq (rgI b3x) (.ret)))))
theorem c8g : fchk Pr (fun _ _ => false) Try.f100 = some (d1w, [.tmp 4, .tmp 5], 40) := by kernel_rfl
theorem c8i : Pr.funcs[a9N]? = some Try.f100 := Try.func100
def c1t : List AIns := [opI 2 (.mv (.c (.nil)))]
def c1s : List AIns := [opI 3 (.mv (.c (.nil)))]
def c1r : List AIns := [opI 4 (.mv (.c (.int .i64 0)))]
def c1q : List AIns := [mvI 5 4,
 mvI 6 0,
 opI 7 (.bin .quo (.t 6) (.c (.int .i64 32))),
 opI 8 (.bin .lss (.t 5) (.t 7))]
def d4c : List AIns := [mvI 11 3,
 ⟨some 12, none, .e (.bsl 1 [(.c (.int .u32 0))])⟩,
 ⟨some 13, none, .e (.app 1 4 false (.t 11) (.t 12))⟩,
 mvI 3 13]
def d4b : List AIns := [mvI 9 4,
 opI 10 (.bin .add (.t 9) (.c (.int .i64 1))),
 mvI 4 10]
def d4e : ACode := .seq (.seq (rgI c1q) (.cond (.t 8) (.skip) (.exit 0))) (.seq (.block 1 (rgI d4c)) (rgI d4b))
def c1p : List AIns := [mvI 14 3,
 mvI 15 0,
 opI 16 (.bin .rem (.t 15) (.c (.int .i64 32))),
 opI 17 (.conv .u64 (.t 16)),
 opI 18 (.bin .shl (.c (.int .u32 1)) (.t 17)),
 ⟨some 19, none, .e (.bsl 1 [(.t 18)])⟩,
 ⟨some 20, none, .e (.app 1 4 false (.t 14) (.t 19))⟩,
 mvI 2 20]
def d6X : ACode := .seq (rgI c1t) (.seq (rgI c1s) (.seq (.seq (rgI c1r) (.block 0 (.loop d4e))) (.seq (rgI c1p) (.ret))))
theorem d4d : fchk Pr (fun _ _ => false) Try.f101 = some (d6X, [.tmp 2], 21) := by kernel_rfl
theorem d4f : Pr.funcs[b5z]? = some Try.f101 := Try.func101
def c1E : List AIns := [opI 4 (.mv (.c (.nil))),
 opI 5 (.mv (.c (.int .i64 0)))]
def c1D : List AIns := [mvI 9 1,
 opI 10 (.bin .lss (.t 9) (.c (.int .i64 0)))]
def d4j : List AIns := [opI 4 (.mv (.c (.nil))),
 opI 5 (.mv (.c (.int .i64 1)))]
def c1C : List AIns := [mvI 11 1,
 mvI 12 0,
 ⟨some 13, none, .call a2a [(.t 12)]⟩,
 opI 14 (.bin .geq (.t 11) (.t 13))]
def c1B : List AIns := [opI 4 (.mv (.c (.nil))),
 opI 5 (.mv (.c (.int .i64 0)))]
def c1A : List AIns := [opI 6 (.mv (.c (.nil)))]
def c1z : List AIns := [mvI 15 1,
 opI 16 (.bin .quo (.t 15) (.c (.int .i64 32))),
 mvI 7 16]
def b0Z : List AIns := [mvI 17 7,
 mvI 18 0,
 opI 19 (.len (.t 18)),
 opI 20 (.bin .lss (.t 17) (.t 19))]
def c1y : List AIns := [mvI 23 0,
 mvI 24 7,
 ⟨some 25, none, .call a0R [(.t 23), (.t 24)]⟩,
 mvI 26 0,
 mvI 27 7,
 opI 28 (.bin .add (.t 27) (.c (.int .i64 1))),
 ⟨some 29, none, .call a0R [(.t 26), (.t 28)]⟩,
 opI 30 (.bin .mul (.t 29) (.c (.int .u64 4294967296))),
 opI 31 (.bin .add (.t 25) (.t 30)),
 mvI 8 31]
def c1x : List AIns := [mvI 32 6,
 mvI 33 8,
 mvI 34 1,
 opI 35 (.bin .rem (.t 34) (.c (.int .i64 32))),
 opI 36 (.conv .u64 (.t 35)),
 opI 37 (.bin .shr (.t 33) (.t 36)),
 opI 38 (.bin .rem (.t 37) (.c (.int .u64 4294967296))),
 opI 39 (.conv .u32 (.t 38)),
 ⟨some 40, none, .e (.bsl 1 [(.t 39)])⟩,
 ⟨some 41, none, .e (.app 1 4 false (.t 32) (.t 40))⟩,
 mvI 6 41]
def b6T : List AIns := [mvI 21 7,
 opI 22 (.bin .add (.t 21) (.c (.int .i64 1))),
 mvI 7 22]
def d4l : ACode := .seq (.seq (rgI b0Z) (.cond (.t 20) (.skip) (.exit 0))) (.seq (.block 1 (.seq (rgI c1y) (rgI c1x))) (rgI b6T))
def b6S : List AIns := [mvI 42 6,
 ⟨some 43, none, .call a0A [(.t 42)]⟩,
 mvI 4 43,
 opI 5 (.mv (.c (.int .i64 0)))]
def d6Z : ACode := .seq (rgI c1E) (.seq (.seq (rgI c1D) (.cond (.t 10) (.seq (rgI d4j) (.ret)) (.skip))) (.seq (.seq (rgI c1C) (.cond (.t 14) (.seq (rgI c1B) (.ret)) (.skip))) (.seq (rgI c1A) (.seq (.seq (rgI c1z) (.block 0 (.loop d4l))) (.seq (rgI b6S) (.ret))))))
theorem d4k : fchk Pr (fun _ _ => false) Try.f102 = some (d6Z, [.tmp 4, .tmp 5], 44) := by kernel_rfl
theorem d4m : Pr.funcs[b5A]? = some Try.f102 := Try.func102
end Go.Abs

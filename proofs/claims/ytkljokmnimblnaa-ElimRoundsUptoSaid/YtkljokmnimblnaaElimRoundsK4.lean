/- Part 4 of the proof of ElimRounds: Code0, Code1, Code2. -/
import Derived.Test.YtkljokmnimblnaaElimRoundsK3
set_option maxRecDepth 100000
noncomputable section
namespace Go.Abs
open Go.Proofs
def a1q : List AIns := [⟨some 2, none, .p (.mv (.c (.bool false)))⟩]
def a1p : List AIns := [⟨some 16, none, .call a6k []⟩,
  ⟨some 17, none, .p (.un .not (.t 16))⟩]
def a9Z : List AIns := [⟨some 2, none, .p (.mv (.c (.bool false)))⟩]
def a1o : List AIns := [⟨some 19, none, .p (.mv (.t 0))⟩,
  ⟨some 20, none, .call a1W [(.t 19)]⟩,
  ⟨some 18, none, .p (.mv (.t 20))⟩,
  ⟨some 21, none, .p (.ext (.t 18) 0)⟩,
  ⟨some 22, none, .p (.ext (.t 18) 1)⟩,
  ⟨some 23, none, .p (.ext (.t 18) 2)⟩,
  ⟨some 4, none, .e (.box 2 (.c (.agg [.bool false, .nil])))⟩,
  ⟨some 3, none, .p (.mv (.t 21))⟩,
  ⟨none, none, .e (.store 2 (.t 4) (.t 22))⟩,
  ⟨some 5, none, .p (.mv (.t 23))⟩]
def a1n : List AIns := [⟨some 24, none, .p (.mv (.t 5))⟩,
  ⟨some 25, none, .p (.bin .eql (.t 24) (.c (.int .i64 0)))⟩]
def a3Z : List AIns := [⟨some 27, none, .p (.mv (.t 0))⟩,
  ⟨some 28, none, .p (.mv (.t 3))⟩,
  ⟨some 29, none, .call a6i [(.t 27), (.t 28)]⟩,
  ⟨some 26, none, .p (.mv (.t 29))⟩,
  ⟨some 30, none, .p (.ext (.t 26) 0)⟩,
  ⟨some 31, none, .p (.ext (.t 26) 1)⟩,
  ⟨some 6, none, .p (.mv (.t 30))⟩,
  ⟨some 7, none, .p (.mv (.t 31))⟩]
def a3Y : List AIns := [⟨some 33, none, .p (.mv (.t 0))⟩,
  ⟨some 34, none, .p (.len (.t 33))⟩,
  ⟨some 35, none, .call a8C [(.t 34)]⟩,
  ⟨some 32, none, .p (.mv (.t 35))⟩,
  ⟨some 36, none, .p (.ext (.t 32) 0)⟩,
  ⟨some 37, none, .p (.ext (.t 32) 1)⟩,
  ⟨some 8, none, .p (.mv (.t 36))⟩,
  ⟨some 9, none, .p (.mv (.t 37))⟩]
def a3X : List AIns := [⟨some 38, none, .p (.mv (.t 7))⟩,
  ⟨some 39, none, .p (.bin .neq (.t 38) (.c (.int .i64 0)))⟩,
  ⟨some 40, none, .p (.mv (.t 39))⟩,
  ⟨some 41, some (40, false), .p (.mv (.t 9))⟩,
  ⟨some 42, some (40, false), .p (.bin .neq (.t 41) (.c (.int .i64 0)))⟩,
  ⟨some 43, none, .p (.pick (.t 40) (.c (.bool true)) (.t 42))⟩,
  ⟨some 44, none, .p (.mv (.t 43))⟩,
  ⟨some 45, some (44, false), .p (.mv (.t 6))⟩,
  ⟨some 46, some (44, false), .p (.len (.t 45))⟩,
  ⟨some 47, some (44, false), .p (.mv (.t 0))⟩,
  ⟨some 48, some (44, false), .p (.len (.t 47))⟩,
  ⟨some 49, some (44, false), .p (.bin .neq (.t 46) (.t 48))⟩,
  ⟨some 50, none, .p (.pick (.t 44) (.c (.bool true)) (.t 49))⟩,
  ⟨some 51, none, .p (.mv (.t 50))⟩,
  ⟨some 52, some (51, false), .p (.load (some 2) (.t 4))⟩,
  ⟨some 53, some (51, false), .call a0V [(.t 52)]⟩,
  ⟨some 54, some (51, false), .p (.bin .leq (.t 53) (.c (.int .i64 0)))⟩,
  ⟨some 55, none, .p (.pick (.t 51) (.c (.bool true)) (.t 54))⟩]
def a9Y : List AIns := [⟨some 2, none, .p (.mv (.c (.bool false)))⟩]
def a3W : List AIns := [⟨some 10, none, .p (.mv (.c (.int .i64 0)))⟩]
def a1S : List AIns := [⟨some 56, none, .p (.mv (.t 10))⟩,
  ⟨some 57, none, .p (.mv (.t 0))⟩,
  ⟨some 58, none, .p (.len (.t 57))⟩,
  ⟨some 59, none, .p (.bin .lss (.t 56) (.t 58))⟩]
def a3p : List AIns := [⟨some 62, none, .p (.mv (.t 6))⟩,
  ⟨some 63, none, .p (.mv (.t 10))⟩,
  ⟨some 64, none, .p (.idxp 1 (.t 62) (.t 63))⟩,
  ⟨some 65, none, .p (.load none (.t 64))⟩,
  ⟨some 66, none, .p (.load (some 2) (.t 4))⟩,
  ⟨some 67, none, .p (.mv (.t 8))⟩,
  ⟨some 68, none, .p (.mv (.t 10))⟩,
  ⟨some 69, none, .p (.idxp 1 (.t 67) (.t 68))⟩,
  ⟨some 70, none, .p (.load none (.t 69))⟩,
  ⟨some 71, none, .call b0h [(.t 66), (.t 70)]⟩,
  ⟨some 72, none, .call a6j [(.t 65), (.t 71)]⟩,
  ⟨some 73, none, .p (.bin .neq (.t 72) (.c (.int .i64 0)))⟩]
def a8G : List AIns := [⟨some 2, none, .p (.mv (.c (.bool false)))⟩]
def a3o : List AIns := [⟨some 60, none, .p (.mv (.t 10))⟩,
  ⟨some 61, none, .p (.bin .add (.t 60) (.c (.int .i64 1)))⟩,
  ⟨some 10, none, .p (.mv (.t 61))⟩]
def b0b : ACode := .seq (.seq (.region a1S false) (.cond (.t 59) (.skip) (.exit 0))) (.seq (.block 1 (.seq (.region a3p true) (.cond (.t 73) (.seq (.region a8G false) (.ret)) (.skip)))) (.region a3o false))
def a1c : List AIns := [⟨some 75, none, .p (.mv (.t 0))⟩,
  ⟨some 76, none, .call a8D [(.t 75)]⟩,
  ⟨some 74, none, .p (.mv (.t 76))⟩,
  ⟨some 77, none, .p (.ext (.t 74) 0)⟩,
  ⟨some 78, none, .p (.ext (.t 74) 1)⟩,
  ⟨some 11, none, .p (.mv (.t 77))⟩,
  ⟨some 5, none, .p (.mv (.t 78))⟩]
def a1b : List AIns := [⟨some 80, none, .p (.mv (.t 0))⟩,
  ⟨some 81, none, .call a4t [(.t 80)]⟩,
  ⟨some 79, none, .p (.mv (.t 81))⟩,
  ⟨some 82, none, .p (.ext (.t 79) 0)⟩,
  ⟨some 83, none, .p (.ext (.t 79) 1)⟩,
  ⟨some 12, none, .p (.mv (.t 82))⟩,
  ⟨some 13, none, .p (.mv (.t 83))⟩]
def a0M : List AIns := [⟨some 84, none, .p (.mv (.t 5))⟩,
  ⟨some 85, none, .p (.bin .neq (.t 84) (.c (.int .i64 0)))⟩,
  ⟨some 86, none, .p (.mv (.t 85))⟩,
  ⟨some 87, some (86, false), .p (.mv (.t 13))⟩,
  ⟨some 88, some (86, false), .p (.bin .neq (.t 87) (.c (.int .i64 0)))⟩,
  ⟨some 89, none, .p (.pick (.t 86) (.c (.bool true)) (.t 88))⟩]
def a1a : List AIns := [⟨some 2, none, .p (.mv (.c (.bool true)))⟩]
def a1R : List AIns := [⟨some 91, none, .p (.mv (.t 11))⟩,
  ⟨some 92, none, .call a4t [(.t 91)]⟩,
  ⟨some 90, none, .p (.mv (.t 92))⟩,
  ⟨some 93, none, .p (.ext (.t 90) 0)⟩,
  ⟨some 94, none, .p (.ext (.t 90) 1)⟩,
  ⟨some 14, none, .p (.mv (.t 93))⟩,
  ⟨some 15, none, .p (.mv (.t 94))⟩]
def a1Q : List AIns := [⟨some 95, none, .p (.mv (.t 15))⟩,
  ⟨some 96, none, .p (.bin .eql (.t 95) (.c (.int .i64 0)))⟩,
  ⟨some 97, none, .p (.mv (.t 96))⟩,
  ⟨some 98, some (97, true), .p (.mv (.t 14))⟩,
  ⟨some 99, some (97, true), .p (.mv (.t 12))⟩,
  ⟨some 100, some (97, true), .p (.bin .eql (.t 98) (.t 99))⟩,
  ⟨some 101, none, .p (.pick (.t 97) (.t 100) (.c (.bool false)))⟩,
  ⟨some 102, none, .p (.mv (.t 101))⟩,
  ⟨some 103, some (102, true), .p (.mv (.t 12))⟩,
  ⟨some 104, some (102, true), .p (.mv (.t 0))⟩,
  ⟨some 105, some (102, true), .p (.len (.t 104))⟩,
  ⟨some 106, some (102, true), .p (.bin .leq (.t 103) (.t 105))⟩,
  ⟨some 107, none, .p (.pick (.t 102) (.t 106) (.c (.bool false)))⟩,
  ⟨some 2, none, .p (.mv (.t 107))⟩]
def b0O : ACode := .seq (.region a1q false) (.seq (.seq (.region a1p false) (.cond (.t 17) (.seq (.region a9Z false) (.ret)) (.skip))) (.seq (.region a1o false) (.seq (.seq (.region a1n false) (.cond (.t 25) (.seq (.region a3Z false) (.seq (.region a3Y false) (.seq (.seq (.region a3X false) (.cond (.t 55) (.seq (.region a9Y false) (.ret)) (.skip))) (.seq (.region a3W false) (.block 0 (.loop b0b)))))) (.skip))) (.seq (.region a1c false) (.seq (.region a1b false) (.seq (.seq (.region a0M false) (.cond (.t 89) (.seq (.region a1a false) (.ret)) (.skip))) (.seq (.region a1R false) (.seq (.region a1Q false) (.ret)))))))))
theorem b0a : fchk Pr (fun _ _ => false) Try.f12 = some (b0O, [.tmp 2], 108) := by kernel_rfl
theorem b0c : Pr.funcs[a2x]? = some Try.f12 := Try.func12
def a8c : List AIns := [⟨some 2, none, .p (.mv (.c (.int .i64 0)))⟩,
  ⟨some 3, none, .p (.mv (.c (.int .i64 0)))⟩]
def a8b : List AIns := [⟨some 12, none, .p (.mv (.t 0))⟩,
  ⟨some 13, none, .call a4P [(.t 12)]⟩,
  ⟨some 11, none, .p (.mv (.t 13))⟩,
  ⟨some 14, none, .p (.ext (.t 11) 0)⟩,
  ⟨some 15, none, .p (.ext (.t 11) 1)⟩,
  ⟨some 16, none, .p (.ext (.t 11) 2)⟩,
  ⟨some 4, none, .p (.mv (.t 14))⟩,
  ⟨some 5, none, .p (.mv (.t 15))⟩,
  ⟨some 6, none, .p (.mv (.t 16))⟩]
def a8a : List AIns := [⟨some 17, none, .p (.mv (.t 6))⟩,
  ⟨some 18, none, .p (.bin .neq (.t 17) (.c (.int .i64 0)))⟩]
def b3w : List AIns := [⟨some 19, none, .p (.mv (.t 6))⟩,
  ⟨some 2, none, .p (.mv (.c (.int .i64 0)))⟩,
  ⟨some 3, none, .p (.mv (.t 19))⟩]
def b3v : List AIns := [⟨some 21, none, .p (.mv (.t 0))⟩,
  ⟨some 22, none, .p (.mv (.t 5))⟩,
  ⟨some 23, none, .call a1V [(.t 21), (.t 22)]⟩,
  ⟨some 20, none, .p (.mv (.t 23))⟩,
  ⟨some 24, none, .p (.ext (.t 20) 0)⟩,
  ⟨some 25, none, .p (.ext (.t 20) 1)⟩,
  ⟨some 26, none, .p (.ext (.t 20) 2)⟩,
  ⟨some 27, none, .p (.ext (.t 20) 3)⟩,
  ⟨some 9, none, .e (.box 2 (.c (.agg [.bool false, .nil])))⟩,
  ⟨some 7, none, .p (.mv (.t 24))⟩,
  ⟨some 8, none, .p (.mv (.t 25))⟩,
  ⟨none, none, .e (.store 2 (.t 9) (.t 26))⟩,
  ⟨some 10, none, .p (.mv (.t 27))⟩]
def b3u : List AIns := [⟨some 28, none, .p (.mv (.t 8))⟩,
  ⟨some 29, none, .p (.len (.t 28))⟩,
  ⟨some 2, none, .p (.mv (.t 29))⟩,
  ⟨some 3, none, .p (.mv (.c (.int .i64 0)))⟩]
def c3r : ACode := .seq (.region a8c false) (.seq (.region a8b false) (.seq (.seq (.region a8a false) (.cond (.t 18) (.seq (.region b3w false) (.ret)) (.skip))) (.seq (.region b3v false) (.seq (.region b3u false) (.ret)))))
theorem b3x : fchk Pr (fun _ _ => false) Try.f14 = some (c3r, [.tmp 2, .tmp 3], 30) := by kernel_rfl
theorem b3y : Pr.funcs[a4t]? = some Try.f14 := Try.func14
def b6p : List AIns := [⟨some 2, none, .e (.box 2 (.t 0))⟩,
  ⟨some 3, none, .e (.box 2 (.t 1))⟩,
  ⟨some 4, none, .p (.mv (.c (.bool false)))⟩]
def b6o : List AIns := [⟨some 6, none, .p (.fldp (.t 2) 0)⟩,
  ⟨some 7, none, .p (.load none (.t 6))⟩,
  ⟨some 8, none, .p (.fldp (.t 3) 0)⟩,
  ⟨some 9, none, .p (.load none (.t 8))⟩,
  ⟨some 10, none, .p (.beq true (.t 7) (.t 9))⟩,
  ⟨some 11, none, .p (.mv (.t 10))⟩,
  ⟨some 12, some (11, false), .p (.fldp (.t 2) 1)⟩,
  ⟨some 13, some (11, false), .p (.load none (.t 12))⟩,
  ⟨some 14, some (11, false), .p (.len (.t 13))⟩,
  ⟨some 15, some (11, false), .p (.fldp (.t 3) 1)⟩,
  ⟨some 16, some (11, false), .p (.load none (.t 15))⟩,
  ⟨some 17, some (11, false), .p (.len (.t 16))⟩,
  ⟨some 18, some (11, false), .p (.bin .neq (.t 14) (.t 17))⟩,
  ⟨some 19, none, .p (.pick (.t 11) (.c (.bool true)) (.t 18))⟩]
def c2Z : List AIns := [⟨some 4, none, .p (.mv (.c (.bool false)))⟩]
def b6n : List AIns := [⟨some 5, none, .p (.mv (.c (.int .i64 0)))⟩]
def a9X : List AIns := [⟨some 20, none, .p (.mv (.t 5))⟩,
  ⟨some 21, none, .p (.fldp (.t 2) 1)⟩,
  ⟨some 22, none, .p (.load none (.t 21))⟩,
  ⟨some 23, none, .p (.len (.t 22))⟩,
  ⟨some 24, none, .p (.bin .lss (.t 20) (.t 23))⟩]
def b6m : List AIns := [⟨some 27, none, .p (.fldp (.t 2) 1)⟩,
  ⟨some 28, none, .p (.load none (.t 27))⟩,
  ⟨some 29, none, .p (.mv (.t 5))⟩,
  ⟨some 30, none, .p (.idxp 1 (.t 28) (.t 29))⟩,
  ⟨some 31, none, .p (.load none (.t 30))⟩,
  ⟨some 32, none, .p (.fldp (.t 3) 1)⟩,
  ⟨some 33, none, .p (.load none (.t 32))⟩,
  ⟨some 34, none, .p (.mv (.t 5))⟩,
  ⟨some 35, none, .p (.idxp 1 (.t 33) (.t 34))⟩,
  ⟨some 36, none, .p (.load none (.t 35))⟩,
  ⟨some 37, none, .p (.bin .neq (.t 31) (.t 36))⟩]
def c2Y : List AIns := [⟨some 4, none, .p (.mv (.c (.bool false)))⟩]
def b6l : List AIns := [⟨some 25, none, .p (.mv (.t 5))⟩,
  ⟨some 26, none, .p (.bin .add (.t 25) (.c (.int .i64 1)))⟩,
  ⟨some 5, none, .p (.mv (.t 26))⟩]
def c3b : ACode := .seq (.seq (.region a9X false) (.cond (.t 24) (.skip) (.exit 0))) (.seq (.block 1 (.seq (.region b6m true) (.cond (.t 37) (.seq (.region c2Y false) (.ret)) (.skip)))) (.region b6l false))
def b6k : List AIns := [⟨some 4, none, .p (.mv (.c (.bool true)))⟩]
def c6d : ACode := .seq (.region b6p false) (.seq (.seq (.region b6o false) (.cond (.t 19) (.seq (.region c2Z false) (.ret)) (.skip))) (.seq (.seq (.region b6n false) (.block 0 (.loop c3b))) (.seq (.region b6k false) (.ret))))
theorem c3a : fchk Pr (fun _ _ => false) Try.f23 = some (c6d, [.tmp 4], 38) := by kernel_rfl
theorem c3c : Pr.funcs[a8E]? = some Try.f23 := Try.func23
def b6V : List AIns := [⟨some 2, none, .e (.box 2 (.c (.agg [.bool false, .nil])))⟩,
  ⟨some 3, none, .p (.mv (.c (.int .i64 0)))⟩]
def b6U : List AIns := [⟨some 7, none, .p (.mv (.t 0))⟩,
  ⟨some 8, none, .call a3B [(.t 7)]⟩,
  ⟨some 6, none, .p (.mv (.t 8))⟩,
  ⟨some 9, none, .p (.ext (.t 6) 0)⟩,
  ⟨some 10, none, .p (.ext (.t 6) 1)⟩,
  ⟨some 4, none, .p (.mv (.t 9))⟩,
  ⟨some 5, none, .p (.mv (.t 10))⟩]
def b6T : List AIns := [⟨some 11, none, .p (.mv (.t 5))⟩,
  ⟨some 12, none, .p (.bin .neq (.t 11) (.c (.int .i64 0)))⟩]
def c3s : List AIns := [⟨some 13, none, .p (.bld [.bool false, .nil] [])⟩,
  ⟨some 14, none, .p (.mv (.t 5))⟩,
  ⟨none, none, .e (.store 2 (.t 2) (.t 13))⟩,
  ⟨some 3, none, .p (.mv (.t 14))⟩]
def b6S : List AIns := [⟨some 15, none, .p (.mv (.t 0))⟩,
  ⟨some 16, none, .call a5z [(.t 15)]⟩,
  ⟨none, none, .e (.store 2 (.t 2) (.t 16))⟩,
  ⟨some 3, none, .p (.mv (.c (.int .i64 0)))⟩]
def c6n : ACode := .seq (.region b6V false) (.seq (.seq (.region b6U false) (.seq (.region b6T false) (.cond (.t 12) (.seq (.region c3s false) (.ret)) (.skip)))) (.seq (.region b6S false) (.ret)))
theorem c3t : fchk Pr (fun _ _ => false) Try.f24 = some (c6n, [.cell 2 (some 2), .tmp 3], 17) := by kernel_rfl
theorem c3u : Pr.funcs[b2j]? = some Try.f24 := Try.func24
def a2t : List AIns := [⟨some 2, none, .p (.mv (.c (.nil)))⟩,
  ⟨some 3, none, .e (.box 2 (.c (.agg [.bool false, .nil])))⟩,
  ⟨some 4, none, .p (.mv (.c (.int .i64 0)))⟩]
def a2s : List AIns := [⟨some 14, none, .p (.mv (.t 0))⟩,
  ⟨some 15, none, .call a3B [(.t 14)]⟩,
  ⟨some 13, none, .p (.mv (.t 15))⟩,
  ⟨some 16, none, .p (.ext (.t 13) 0)⟩,
  ⟨some 17, none, .p (.ext (.t 13) 1)⟩,
  ⟨some 5, none, .p (.mv (.t 16))⟩,
  ⟨some 6, none, .p (.mv (.t 17))⟩]
def a2r : List AIns := [⟨some 18, none, .p (.mv (.t 6))⟩,
  ⟨some 19, none, .p (.bin .neq (.t 18) (.c (.int .i64 0)))⟩]
def a8g : List AIns := [⟨some 20, none, .p (.bld [.bool false, .nil] [])⟩,
  ⟨some 21, none, .p (.mv (.t 6))⟩,
  ⟨some 2, none, .p (.mv (.c (.nil)))⟩,
  ⟨none, none, .e (.store 2 (.t 3) (.t 20))⟩,
  ⟨some 4, none, .p (.mv (.t 21))⟩]
def a4k : List AIns := [⟨some 22, none, .p (.mv (.t 0))⟩,
  ⟨some 23, none, .call a5z [(.t 22)]⟩,
  ⟨some 7, none, .e (.box 2 (.c (.agg [.bool false, .nil])))⟩,
  ⟨none, none, .e (.store 2 (.t 7) (.t 23))⟩]
def a4j : List AIns := [⟨some 24, none, .p (.load (some 2) (.t 7))⟩,
  ⟨some 25, none, .call a0V [(.t 24)]⟩,
  ⟨some 26, none, .p (.bin .eql (.t 25) (.c (.int .i64 0)))⟩]
def a8f : List AIns := [⟨some 27, none, .p (.bld [.bool false, .nil] [])⟩,
  ⟨some 2, none, .p (.mv (.c (.nil)))⟩,
  ⟨none, none, .e (.store 2 (.t 3) (.t 27))⟩,
  ⟨some 4, none, .p (.mv (.c (.int .i64 50)))⟩]
def a8e : List AIns := [⟨some 8, none, .p (.mv (.c (.nil)))⟩]
def a8d : List AIns := [⟨some 28, none, .p (.mv (.t 5))⟩,
  ⟨some 29, none, .p (.mv (.c (.int .i64 0)))⟩]
def a4i : List AIns := [⟨some 30, none, .p (.bin .lss (.t 29) (.t 28))⟩]
def a6N : List AIns := [⟨some 31, none, .p (.mv (.t 29))⟩,
  ⟨some 9, none, .p (.mv (.t 31))⟩]
def a6M : List AIns := [⟨some 32, none, .p (.mv (.t 5))⟩,
  ⟨some 33, none, .p (.mv (.c (.int .i64 0)))⟩]
def a3j : List AIns := [⟨some 34, none, .p (.bin .lss (.t 33) (.t 32))⟩]
def a6L : List AIns := [⟨some 35, none, .p (.mv (.t 33))⟩,
  ⟨some 10, none, .p (.mv (.t 35))⟩]
def a6K : List AIns := [⟨some 36, none, .p (.mv (.t 8))⟩,
  ⟨some 37, none, .p (.mv (.t 0))⟩,
  ⟨some 38, none, .p (.mv (.t 10))⟩,
  ⟨some 39, none, .p (.mv (.t 9))⟩,
  ⟨some 40, none, .call a4s [(.t 37), (.t 38), (.t 39)]⟩,
  ⟨some 41, none, .e (.bsl 2 [(.t 40)])⟩,
  ⟨some 42, none, .e (.app 2 32 false (.t 36) (.t 41))⟩,
  ⟨some 8, none, .p (.mv (.t 42))⟩]
def a6J : List AIns := [⟨some 43, none, .p (.bin .add (.t 33) (.c (.int .i64 1)))⟩,
  ⟨some 33, none, .p (.mv (.t 43))⟩]
def b6Q : ACode := .seq (.region a3j false) (.seq (.cond (.t 34) (.skip) (.exit 2)) (.seq (.block 3 (.seq (.region a6L false) (.region a6K false))) (.region a6J false)))
def a6I : List AIns := [⟨some 44, none, .p (.bin .add (.t 29) (.c (.int .i64 1)))⟩,
  ⟨some 29, none, .p (.mv (.t 44))⟩]
def b6R : ACode := .seq (.region a4i false) (.seq (.cond (.t 30) (.skip) (.exit 0)) (.seq (.block 1 (.seq (.region a6N false) (.seq (.region a6M false) (.block 2 (.loop b6Q))))) (.region a6I false)))
def a6H : List AIns := [⟨some 46, none, .p (.mv (.t 8))⟩,
  ⟨some 47, none, .p (.load (some 2) (.t 7))⟩,
  ⟨some 48, none, .call a4O [(.t 46), (.t 47)]⟩,
  ⟨some 45, none, .p (.mv (.t 48))⟩,
  ⟨some 49, none, .p (.ext (.t 45) 0)⟩,
  ⟨some 50, none, .p (.ext (.t 45) 1)⟩,
  ⟨some 8, none, .p (.mv (.t 49))⟩,
  ⟨none, none, .e (.store 2 (.t 7) (.t 50))⟩]
def a6G : List AIns := [⟨some 11, none, .p (.mv (.c (.nil)))⟩]
def a6F : List AIns := [⟨some 51, none, .p (.mv (.t 5))⟩,
  ⟨some 52, none, .p (.mv (.c (.int .i64 0)))⟩]
def a3i : List AIns := [⟨some 53, none, .p (.bin .lss (.t 52) (.t 51))⟩]
def a6E : List AIns := [⟨some 54, none, .p (.mv (.t 52))⟩,
  ⟨some 12, none, .p (.mv (.t 54))⟩]
def a6D : List AIns := [⟨some 55, none, .p (.mv (.t 11))⟩,
  ⟨some 56, none, .p (.mv (.t 8))⟩,
  ⟨some 57, none, .p (.mv (.t 12))⟩,
  ⟨some 58, none, .p (.mv (.t 5))⟩,
  ⟨some 59, none, .p (.bin .mul (.t 57) (.t 58))⟩,
  ⟨some 60, none, .p (.mv (.t 12))⟩,
  ⟨some 61, none, .p (.bin .add (.t 60) (.c (.int .i64 1)))⟩,
  ⟨some 62, none, .p (.mv (.t 5))⟩,
  ⟨some 63, none, .p (.bin .mul (.t 61) (.t 62))⟩,
  ⟨some 64, none, .p (.mv (.t 12))⟩,
  ⟨some 65, none, .p (.bin .add (.t 64) (.c (.int .i64 1)))⟩,
  ⟨some 66, none, .p (.mv (.t 5))⟩,
  ⟨some 67, none, .p (.bin .mul (.t 65) (.t 66))⟩,
  ⟨some 68, none, .p (.slc 2 (.t 56) (some (.t 59)) (some (.t 63)) (some (.t 67)))⟩,
  ⟨some 69, none, .e (.bsl 1 [(.t 68)])⟩,
  ⟨some 70, none, .e (.app 1 24 false (.t 55) (.t 69))⟩,
  ⟨some 11, none, .p (.mv (.t 70))⟩]
def a6C : List AIns := [⟨some 71, none, .p (.bin .add (.t 52) (.c (.int .i64 1)))⟩,
  ⟨some 52, none, .p (.mv (.t 71))⟩]
def b6P : ACode := .seq (.region a3i false) (.seq (.cond (.t 53) (.skip) (.exit 4)) (.seq (.block 5 (.seq (.region a6E false) (.region a6D false))) (.region a6C false)))
def a6B : List AIns := [⟨some 72, none, .p (.mv (.t 11))⟩,
  ⟨some 73, none, .p (.load (some 2) (.t 7))⟩,
  ⟨some 2, none, .p (.mv (.t 72))⟩,
  ⟨none, none, .e (.store 2 (.t 3) (.t 73))⟩,
  ⟨some 4, none, .p (.mv (.c (.int .i64 0)))⟩]
def b7H : ACode := .seq (.region a2t false) (.seq (.region a2s false) (.seq (.seq (.region a2r false) (.cond (.t 19) (.seq (.region a8g false) (.ret)) (.skip))) (.seq (.region a4k false) (.seq (.seq (.region a4j false) (.cond (.t 26) (.seq (.region a8f false) (.ret)) (.skip))) (.seq (.region a8e false) (.seq (.seq (.region a8d false) (.block 0 (.loop b6R))) (.seq (.region a6H false) (.seq (.region a6G false) (.seq (.seq (.region a6F false) (.block 4 (.loop b6P))) (.seq (.region a6B true) (.ret)))))))))))
theorem a4l : fchk Pr (fun _ _ => false) Try.f31 = some (b7H, [.tmp 2, .cell 3 (some 2), .tmp 4], 74) := by kernel_rfl
theorem a4m : Pr.funcs[a1W]? = some Try.f31 := Try.func31
def a9e : List AIns := [⟨some 0, none, .p (.mv (.c (.bool false)))⟩]
def a9d : List AIns := [⟨some 6, none, .call a8C [(.c (.int .i64 3))]⟩,
  ⟨some 5, none, .p (.mv (.t 6))⟩,
  ⟨some 7, none, .p (.ext (.t 5) 0)⟩,
  ⟨some 8, none, .p (.ext (.t 5) 1)⟩,
  ⟨some 1, none, .p (.mv (.t 7))⟩,
  ⟨some 2, none, .p (.mv (.t 8))⟩]
def a9c : List AIns := [⟨some 10, none, .p (.mv (.t 1))⟩,
  ⟨some 11, none, .call b2j [(.t 10)]⟩,
  ⟨some 9, none, .p (.mv (.t 11))⟩,
  ⟨some 12, none, .p (.ext (.t 9) 0)⟩,
  ⟨some 13, none, .p (.ext (.t 9) 1)⟩,
  ⟨some 3, none, .e (.box 2 (.c (.agg [.bool false, .nil])))⟩,
  ⟨none, none, .e (.store 2 (.t 3) (.t 12))⟩,
  ⟨some 4, none, .p (.mv (.t 13))⟩]
def a9b : List AIns := [⟨some 14, none, .p (.mv (.t 4))⟩,
  ⟨some 15, none, .p (.bin .eql (.t 14) (.c (.int .i64 0)))⟩,
  ⟨some 16, none, .p (.mv (.t 15))⟩,
  ⟨some 17, some (16, true), .p (.load (some 2) (.t 3))⟩,
  ⟨some 18, some (16, true), .call a4q [(.c (.int .i64 1))]⟩,
  ⟨some 19, some (16, true), .call a8E [(.t 17), (.t 18)]⟩,
  ⟨some 20, none, .p (.pick (.t 16) (.t 19) (.c (.bool false)))⟩,
  ⟨some 21, none, .p (.mv (.t 20))⟩,
  ⟨some 22, some (21, true), .p (.fldp (.t 3) 1)⟩,
  ⟨some 23, some (21, true), .p (.load none (.t 22))⟩,
  ⟨some 24, some (21, true), .p (.len (.t 23))⟩,
  ⟨some 25, some (21, true), .p (.bin .eql (.t 24) (.c (.int .i64 1)))⟩,
  ⟨some 26, none, .p (.pick (.t 21) (.t 25) (.c (.bool false)))⟩,
  ⟨some 0, none, .p (.mv (.t 26))⟩]
def b9W : ACode := .seq (.region a9e false) (.seq (.region a9d false) (.seq (.region a9c false) (.seq (.region a9b true) (.ret))))
theorem b7B : fchk Pr (fun _ _ => false) Try.f33 = some (b9W, [.tmp 0], 27) := by kernel_rfl
theorem b7C : Pr.funcs[a6k]? = some Try.f33 := Try.func33
def a9W : List AIns := [⟨some 2, none, .p (.mv (.c (.nil)))⟩,
  ⟨some 3, none, .p (.mv (.c (.int .i64 0)))⟩]
def a9V : List AIns := [⟨some 12, none, .p (.mv (.t 0))⟩,
  ⟨some 13, none, .call a2b [(.t 12)]⟩,
  ⟨some 11, none, .p (.mv (.t 13))⟩,
  ⟨some 14, none, .p (.ext (.t 11) 0)⟩,
  ⟨some 15, none, .p (.ext (.t 11) 1)⟩,
  ⟨some 16, none, .p (.ext (.t 11) 2)⟩,
  ⟨some 4, none, .p (.mv (.t 14))⟩,
  ⟨some 5, none, .p (.mv (.t 15))⟩,
  ⟨some 6, none, .p (.mv (.t 16))⟩]
def a9U : List AIns := [⟨some 17, none, .p (.mv (.t 6))⟩,
  ⟨some 18, none, .p (.bin .neq (.t 17) (.c (.int .i64 0)))⟩]
def b6c : List AIns := [⟨some 19, none, .p (.mv (.t 6))⟩,
  ⟨some 2, none, .p (.mv (.c (.nil)))⟩,
  ⟨some 3, none, .p (.mv (.t 19))⟩]
def b6b : List AIns := [⟨some 20, none, .p (.mv (.t 4))⟩,
  ⟨some 21, none, .p (.mv (.t 5))⟩,
  ⟨some 22, none, .p (.bin .mul (.t 20) (.t 21))⟩,
  ⟨some 23, none, .e (.mksl 2 32 (.agg [.bool false, .nil]) (.c (.int .i64 0)) (.t 22))⟩,
  ⟨some 7, none, .p (.mv (.t 23))⟩]
def b6a : List AIns := [⟨some 8, none, .p (.mv (.c (.nil)))⟩]
def b5Z : List AIns := [⟨some 24, none, .p (.mv (.t 5))⟩,
  ⟨some 25, none, .p (.mv (.c (.int .i64 0)))⟩]
def a9T : List AIns := [⟨some 26, none, .p (.bin .lss (.t 25) (.t 24))⟩]
def b5Y : List AIns := [⟨some 27, none, .p (.mv (.t 25))⟩,
  ⟨some 9, none, .p (.mv (.t 27))⟩]
def b5X : List AIns := [⟨some 28, none, .p (.mv (.t 4))⟩,
  ⟨some 29, none, .p (.mv (.c (.int .i64 0)))⟩]
def a7G : List AIns := [⟨some 30, none, .p (.bin .lss (.t 29) (.t 28))⟩]
def b3c : List AIns := [⟨some 31, none, .p (.mv (.t 29))⟩,
  ⟨some 10, none, .p (.mv (.t 31))⟩]
def b3b : List AIns := [⟨some 32, none, .p (.mv (.t 7))⟩,
  ⟨some 33, none, .p (.mv (.t 0))⟩,
  ⟨some 34, none, .p (.mv (.t 10))⟩,
  ⟨some 35, none, .p (.idxp 1 (.t 33) (.t 34))⟩,
  ⟨some 36, none, .p (.load none (.t 35))⟩,
  ⟨some 37, none, .p (.mv (.t 9))⟩,
  ⟨some 38, none, .p (.idxp 2 (.t 36) (.t 37))⟩,
  ⟨some 39, none, .p (.load (some 2) (.t 38))⟩,
  ⟨some 40, none, .call a6f [(.t 39)]⟩,
  ⟨some 41, none, .e (.bsl 2 [(.t 40)])⟩,
  ⟨some 42, none, .e (.app 2 32 false (.t 32) (.t 41))⟩,
  ⟨some 7, none, .p (.mv (.t 42))⟩]
def b3a : List AIns := [⟨some 43, none, .p (.bin .add (.t 29) (.c (.int .i64 1)))⟩,
  ⟨some 29, none, .p (.mv (.t 43))⟩]
def c2R : ACode := .seq (.region a7G false) (.seq (.cond (.t 30) (.skip) (.exit 2)) (.seq (.block 3 (.seq (.region b3c false) (.region b3b false))) (.region b3a false)))
def b2Z : List AIns := [⟨some 44, none, .p (.mv (.t 8))⟩,
  ⟨some 45, none, .p (.mv (.t 7))⟩,
  ⟨some 46, none, .p (.mv (.t 9))⟩,
  ⟨some 47, none, .p (.mv (.t 4))⟩,
  ⟨some 48, none, .p (.bin .mul (.t 46) (.t 47))⟩,
  ⟨some 49, none, .p (.mv (.t 9))⟩,
  ⟨some 50, none, .p (.bin .add (.t 49) (.c (.int .i64 1)))⟩,
  ⟨some 51, none, .p (.mv (.t 4))⟩,
  ⟨some 52, none, .p (.bin .mul (.t 50) (.t 51))⟩,
  ⟨some 53, none, .p (.mv (.t 9))⟩,
  ⟨some 54, none, .p (.bin .add (.t 53) (.c (.int .i64 1)))⟩,
  ⟨some 55, none, .p (.mv (.t 4))⟩,
  ⟨some 56, none, .p (.bin .mul (.t 54) (.t 55))⟩,
  ⟨some 57, none, .p (.slc 2 (.t 45) (some (.t 48)) (some (.t 52)) (some (.t 56)))⟩,
  ⟨some 58, none, .e (.bslm 1 [(.t 57)])⟩,
  ⟨some 59, none, .e (.app 1 24 false (.t 44) (.t 58))⟩,
  ⟨some 8, none, .p (.mv (.t 59))⟩]
def b2Y : List AIns := [⟨some 60, none, .p (.bin .add (.t 25) (.c (.int .i64 1)))⟩,
  ⟨some 25, none, .p (.mv (.t 60))⟩]
def c2S : ACode := .seq (.region a9T false) (.seq (.cond (.t 26) (.skip) (.exit 0)) (.seq (.block 1 (.seq (.region b5Y false) (.seq (.seq (.region b5X false) (.block 2 (.loop c2R))) (.region b2Z false)))) (.region b2Y false)))
def b2X : List AIns := [⟨some 61, none, .p (.mv (.t 8))⟩,
  ⟨some 2, none, .p (.mv (.t 61))⟩,
  ⟨some 3, none, .p (.mv (.c (.int .i64 0)))⟩]
def c6a : ACode := .seq (.region a9W false) (.seq (.region a9V false) (.seq (.seq (.region a9U false) (.cond (.t 18) (.seq (.region b6c false) (.ret)) (.skip))) (.seq (.region b6b false) (.seq (.region b6a false) (.seq (.seq (.region b5Z false) (.block 0 (.loop c2S))) (.seq (.region b2X false) (.ret)))))))
theorem b6d : fchk Pr (fun _ k => (k == 14)) Try.f34 = some (c6a, [.tmp 2, .tmp 3], 62) := by kernel_rfl
theorem b6e : Pr.funcs[a8D]? = some Try.f34 := Try.func34
def b4l : List AIns := [⟨some 1, none, .e (.box 2 (.t 0))⟩,
  ⟨some 2, none, .e (.box 2 (.c (.agg [.bool false, .nil])))⟩]
def b4k : List AIns := [⟨some 3, none, .p (.fldp (.t 1) 0)⟩,
  ⟨some 4, none, .p (.load none (.t 3))⟩,
  ⟨some 5, none, .p (.un .not (.t 4))⟩,
  ⟨some 6, none, .p (.fldp (.t 1) 1)⟩,
  ⟨some 7, none, .p (.load none (.t 6))⟩,
  ⟨some 8, none, .call a0C [(.t 5), (.t 7)]⟩,
  ⟨none, none, .e (.store 2 (.t 2) (.t 8))⟩]
def c4O : ACode := .seq (.region b4l false) (.seq (.region b4k false) (.ret))
theorem c2c : fchk Pr (fun _ _ => false) Try.f36 = some (c4O, [.cell 2 (some 2)], 9) := by kernel_rfl
theorem c2d : Pr.funcs[a3E]? = some Try.f36 := Try.func36
def a9a : List AIns := [⟨some 3, none, .e (.box 1 (.t 1))⟩,
  ⟨some 4, none, .p (.mv (.c (.nil)))⟩,
  ⟨some 5, none, .p (.mv (.c (.int .i64 0)))⟩]
def a8Z : List AIns := [⟨some 13, none, .p (.mv (.t 0))⟩,
  ⟨some 14, none, .call a2b [(.t 13)]⟩,
  ⟨some 12, none, .p (.mv (.t 14))⟩,
  ⟨some 15, none, .p (.ext (.t 12) 0)⟩,
  ⟨some 16, none, .p (.ext (.t 12) 1)⟩,
  ⟨some 17, none, .p (.ext (.t 12) 2)⟩,
  ⟨some 6, none, .p (.mv (.t 15))⟩,
  ⟨some 7, none, .p (.mv (.t 16))⟩,
  ⟨some 8, none, .p (.mv (.t 17))⟩]
def a8Y : List AIns := [⟨some 19, none, .p (.load none (.t 3))⟩,
  ⟨some 20, none, .call a2b [(.t 19)]⟩,
  ⟨some 18, none, .p (.mv (.t 20))⟩,
  ⟨some 21, none, .p (.ext (.t 18) 0)⟩,
  ⟨some 22, none, .p (.ext (.t 18) 1)⟩,
  ⟨some 23, none, .p (.ext (.t 18) 2)⟩,
  ⟨some 9, none, .p (.mv (.t 21))⟩,
  ⟨some 10, none, .p (.mv (.t 22))⟩,
  ⟨some 11, none, .p (.mv (.t 23))⟩]
def a4U : List AIns := [⟨some 24, none, .p (.mv (.t 8))⟩,
  ⟨some 25, none, .p (.bin .neq (.t 24) (.c (.int .i64 0)))⟩,
  ⟨some 26, none, .p (.mv (.t 25))⟩,
  ⟨some 27, some (26, false), .p (.mv (.t 11))⟩,
  ⟨some 28, some (26, false), .p (.bin .neq (.t 27) (.c (.int .i64 0)))⟩,
  ⟨some 29, none, .p (.pick (.t 26) (.c (.bool true)) (.t 28))⟩,
  ⟨some 30, none, .p (.mv (.t 29))⟩,
  ⟨some 31, some (30, false), .p (.mv (.t 6))⟩,
  ⟨some 32, some (30, false), .p (.bin .gtr (.t 31) (.c (.int .i64 0)))⟩,
  ⟨some 33, some (30, false), .p (.mv (.t 32))⟩,
  ⟨some 34, some (33, true), .p (.mv (.t 7))⟩,
  ⟨some 35, some (33, true), .p (.mv (.t 9))⟩,
  ⟨some 36, some (33, true), .p (.bin .neq (.t 34) (.t 35))⟩,
  ⟨some 37, some (30, false), .p (.pick (.t 33) (.t 36) (.c (.bool false)))⟩,
  ⟨some 38, none, .p (.pick (.t 30) (.c (.bool true)) (.t 37))⟩]
def b7x : List AIns := [⟨some 4, none, .p (.mv (.c (.nil)))⟩,
  ⟨some 5, none, .p (.mv (.c (.int .i64 8)))⟩]
def a4T : List AIns := [⟨some 39, none, .p (.mv (.t 0))⟩,
  ⟨some 40, none, .p (.mkfn a2w [(.t 3)])⟩,
  ⟨some 41, none, .call a5e [(.t 39), (.t 40)]⟩,
  ⟨some 4, none, .p (.mv (.t 41))⟩,
  ⟨some 5, none, .p (.mv (.c (.int .i64 0)))⟩]
def b9S : ACode := .seq (.region a9a false) (.seq (.region a8Z false) (.seq (.region a8Y false) (.seq (.seq (.region a4U false) (.cond (.t 38) (.seq (.region b7x false) (.ret)) (.skip))) (.seq (.region a4T false) (.ret)))))
theorem b7y : fchk Pr (fun _ _ => false) Try.f37 = some (b9S, [.tmp 4, .tmp 5], 42) := by kernel_rfl
theorem b7z : Pr.funcs[a6i]? = some Try.f37 := Try.func37
def b4n : List AIns := [⟨some 2, none, .e (.box 2 (.t 0))⟩,
  ⟨some 3, none, .e (.box 2 (.t 1))⟩,
  ⟨some 4, none, .e (.box 2 (.c (.agg [.bool false, .nil])))⟩]
def b4m : List AIns := [⟨some 5, none, .p (.fldp (.t 2) 0)⟩,
  ⟨some 6, none, .p (.load none (.t 5))⟩,
  ⟨some 7, none, .p (.fldp (.t 3) 0)⟩,
  ⟨some 8, none, .p (.load none (.t 7))⟩,
  ⟨some 9, none, .p (.beq true (.t 6) (.t 8))⟩,
  ⟨some 10, none, .p (.fldp (.t 2) 1)⟩,
  ⟨some 11, none, .p (.load none (.t 10))⟩,
  ⟨some 12, none, .p (.fldp (.t 3) 1)⟩,
  ⟨some 13, none, .p (.load none (.t 12))⟩,
  ⟨some 14, none, .call a5x [(.t 11), (.t 13)]⟩,
  ⟨some 15, none, .call a0C [(.t 9), (.t 14)]⟩,
  ⟨none, none, .e (.store 2 (.t 4) (.t 15))⟩]
def c4P : ACode := .seq (.region b4n false) (.seq (.region b4m true) (.ret))
theorem c2e : fchk Pr (fun _ _ => false) Try.f38 = some (c4P, [.cell 4 (some 2)], 16) := by kernel_rfl
theorem c2f : Pr.funcs[a3F]? = some Try.f38 := Try.func38
end Go.Abs
set_option maxRecDepth 100000
noncomputable section
namespace Go.Abs
open Go.Proofs
def b5W : List AIns := [⟨some 2, none, .p (.mv (.c (.nil)))⟩,
  ⟨some 3, none, .p (.mv (.c (.int .i64 0)))⟩]
def b5V : List AIns := [⟨some 8, none, .p (.mv (.t 0))⟩,
  ⟨some 9, none, .p (.bin .lss (.t 8) (.c (.int .i64 0)))⟩,
  ⟨some 7, none, .p (.mv (.t 9))⟩]
def c2N : List AIns := [⟨some 2, none, .p (.mv (.c (.nil)))⟩,
  ⟨some 3, none, .p (.mv (.c (.int .i64 1)))⟩]
def b5U : List AIns := [⟨some 11, none, .p (.mv (.t 0))⟩,
  ⟨some 12, none, .p (.bin .gtr (.t 11) (.c (.int .i64 64)))⟩,
  ⟨some 10, none, .p (.mv (.t 12))⟩]
def c2M : List AIns := [⟨some 2, none, .p (.mv (.c (.nil)))⟩,
  ⟨some 3, none, .p (.mv (.c (.int .i64 2)))⟩]
def b5T : List AIns := [⟨some 4, none, .p (.mv (.c (.nil)))⟩]
def b5S : List AIns := [⟨some 13, none, .p (.mv (.t 0))⟩,
  ⟨some 14, none, .p (.mv (.c (.int .i64 0)))⟩]
def a9S : List AIns := [⟨some 15, none, .p (.bin .lss (.t 14) (.t 13))⟩]
def b5R : List AIns := [⟨some 16, none, .p (.mv (.t 14))⟩,
  ⟨some 5, none, .p (.mv (.t 16))⟩]
def b5Q : List AIns := [⟨some 17, none, .p (.mv (.t 0))⟩,
  ⟨some 18, none, .e (.mksl 2 32 (.agg [.bool false, .nil]) (.t 17) (.t 17))⟩,
  ⟨some 6, none, .p (.mv (.t 18))⟩]
def b2W : List AIns := [⟨some 19, none, .p (.mv (.t 6))⟩,
  ⟨some 20, none, .p (.mv (.t 5))⟩,
  ⟨some 21, none, .call a4q [(.c (.int .i64 1))]⟩,
  ⟨some 22, none, .p (.idxp 2 (.t 19) (.t 20))⟩,
  ⟨none, none, .e (.store 2 (.t 22) (.t 21))⟩]
def b2V : List AIns := [⟨some 23, none, .p (.mv (.t 4))⟩,
  ⟨some 24, none, .p (.mv (.t 6))⟩,
  ⟨some 25, none, .e (.bsl 1 [(.t 24)])⟩,
  ⟨some 26, none, .e (.app 1 24 false (.t 23) (.t 25))⟩,
  ⟨some 4, none, .p (.mv (.t 26))⟩]
def b2U : List AIns := [⟨some 27, none, .p (.bin .add (.t 14) (.c (.int .i64 1)))⟩,
  ⟨some 14, none, .p (.mv (.t 27))⟩]
def c2P : ACode := .seq (.region a9S false) (.seq (.cond (.t 15) (.skip) (.exit 1)) (.seq (.block 2 (.seq (.region b5R false) (.seq (.region b5Q false) (.seq (.region b2W false) (.region b2V false))))) (.region b2U false)))
def b2T : List AIns := [⟨some 28, none, .p (.mv (.t 4))⟩,
  ⟨some 2, none, .p (.mv (.t 28))⟩,
  ⟨some 3, none, .p (.mv (.c (.int .i64 0)))⟩]
def c5Z : ACode := .seq (.region b5W false) (.seq (.block 0 (.seq (.region b5V false) (.cond (.t 7) (.seq (.region c2N false) (.ret)) (.seq (.region b5U false) (.cond (.t 10) (.seq (.region c2M false) (.ret)) (.skip)))))) (.seq (.region b5T false) (.seq (.seq (.region b5S false) (.block 1 (.loop c2P))) (.seq (.region b2T false) (.ret)))))
theorem c2O : fchk Pr (fun _ _ => false) Try.f43 = some (c5Z, [.tmp 2, .tmp 3], 29) := by kernel_rfl
theorem c2Q : Pr.funcs[a8C]? = some Try.f43 := Try.func43
def b2u : List AIns := [⟨some 1, none, .e (.box 2 (.t 0))⟩,
  ⟨some 2, none, .p (.mv (.c (.int .i64 0)))⟩]
def b2t : List AIns := [⟨some 4, none, .p (.fldp (.t 1) 1)⟩,
  ⟨some 5, none, .p (.load none (.t 4))⟩,
  ⟨some 6, none, .call b2i [(.t 5)]⟩,
  ⟨some 7, none, .p (.bin .eql (.t 6) (.c (.int .i64 0)))⟩,
  ⟨some 3, none, .p (.mv (.t 7))⟩]
def b2r : List AIns := [⟨some 2, none, .p (.mv (.c (.int .i64 0)))⟩]
def b2q : List AIns := [⟨some 9, none, .p (.fldp (.t 1) 0)⟩,
  ⟨some 10, none, .p (.load none (.t 9))⟩,
  ⟨some 8, none, .p (.mv (.t 10))⟩]
def b2p : List AIns := [⟨some 2, none, .p (.mv (.c (.int .i64 (-1))))⟩]
def b2o : List AIns := [⟨some 2, none, .p (.mv (.c (.int .i64 1)))⟩]
def c2b : ACode := .seq (.region b2u false) (.seq (.block 0 (.seq (.region b2t false) (.cond (.t 3) (.seq (.region b2r false) (.ret)) (.seq (.region b2q false) (.cond (.t 8) (.seq (.region b2p false) (.ret)) (.skip)))))) (.seq (.region b2o false) (.ret)))
theorem c0y : fchk Pr (fun _ _ => false) Try.f44 = some (c2b, [.tmp 2], 11) := by kernel_rfl
theorem c0z : Pr.funcs[a0V]? = some Try.f44 := Try.func44
def b3q : List AIns := [⟨some 4, none, .p (.mv (.c (.int .i64 0)))⟩]
def b3p : List AIns := [⟨some 7, none, .p (.mv (.t 0))⟩,
  ⟨some 8, none, .p (.len (.t 7))⟩,
  ⟨some 9, none, .p (.mv (.t 1))⟩,
  ⟨some 10, none, .p (.len (.t 9))⟩,
  ⟨some 11, none, .p (.mnx false (.t 8) (.t 10))⟩,
  ⟨some 12, none, .p (.mv (.c (.int .i64 0)))⟩]
def a7N : List AIns := [⟨some 13, none, .p (.bin .lss (.t 12) (.t 11))⟩]
def b3o : List AIns := [⟨some 14, none, .p (.mv (.t 12))⟩,
  ⟨some 5, none, .p (.mv (.t 14))⟩]
def b3n : List AIns := [⟨some 15, none, .p (.mv (.t 0))⟩,
  ⟨some 16, none, .p (.mv (.t 5))⟩,
  ⟨some 17, none, .p (.idxp 2 (.t 15) (.t 16))⟩,
  ⟨some 18, none, .p (.load (some 2) (.t 17))⟩,
  ⟨some 19, none, .p (.mv (.t 1))⟩,
  ⟨some 20, none, .p (.mv (.t 5))⟩,
  ⟨some 21, none, .p (.idxp 2 (.t 19) (.t 20))⟩,
  ⟨some 22, none, .p (.load (some 2) (.t 21))⟩,
  ⟨some 23, none, .call a5d [(.t 18), (.t 22)]⟩,
  ⟨some 6, none, .p (.mv (.t 23))⟩]
def b3m : List AIns := [⟨some 24, none, .p (.mv (.t 6))⟩,
  ⟨some 25, none, .p (.bin .neq (.t 24) (.c (.int .i64 0)))⟩]
def b3l : List AIns := [⟨some 26, none, .p (.mv (.t 6))⟩,
  ⟨some 4, none, .p (.mv (.t 26))⟩]
def b3k : List AIns := [⟨some 27, none, .p (.bin .add (.t 12) (.c (.int .i64 1)))⟩,
  ⟨some 12, none, .p (.mv (.t 27))⟩]
def b3r : ACode := .seq (.region a7N false) (.seq (.cond (.t 13) (.skip) (.exit 0)) (.seq (.block 1 (.seq (.region b3o false) (.seq (.region b3n true) (.seq (.region b3m false) (.cond (.t 25) (.seq (.region b3l false) (.ret)) (.skip)))))) (.region b3k false)))
def a7M : List AIns := [⟨some 29, none, .p (.mv (.t 0))⟩,
  ⟨some 30, none, .p (.len (.t 29))⟩,
  ⟨some 31, none, .p (.mv (.t 1))⟩,
  ⟨some 32, none, .p (.len (.t 31))⟩,
  ⟨some 33, none, .p (.bin .lss (.t 30) (.t 32))⟩,
  ⟨some 28, none, .p (.mv (.t 33))⟩]
def a7L : List AIns := [⟨some 4, none, .p (.mv (.c (.int .i64 (-1))))⟩]
def a5V : List AIns := [⟨some 35, none, .p (.mv (.t 0))⟩,
  ⟨some 36, none, .p (.len (.t 35))⟩,
  ⟨some 37, none, .p (.mv (.t 1))⟩,
  ⟨some 38, none, .p (.len (.t 37))⟩,
  ⟨some 39, none, .p (.bin .gtr (.t 36) (.t 38))⟩,
  ⟨some 34, none, .p (.mv (.t 39))⟩]
def a5U : List AIns := [⟨some 4, none, .p (.mv (.c (.int .i64 1)))⟩]
def a5T : List AIns := [⟨some 4, none, .p (.mv (.c (.int .i64 0)))⟩]
def c2V : ACode := .seq (.region b3q false) (.seq (.seq (.region b3p false) (.block 0 (.loop b3r))) (.seq (.block 2 (.seq (.region a7M false) (.cond (.t 28) (.seq (.region a7L false) (.ret)) (.seq (.region a5V false) (.cond (.t 34) (.seq (.region a5U false) (.ret)) (.skip)))))) (.seq (.region a5T false) (.ret))))
theorem c1p : fchk Pr (fun _ _ => false) Try.f45 = some (c2V, [.tmp 4], 40) := by kernel_rfl
theorem c1q : Pr.funcs[a6j]? = some Try.f45 := Try.func45
def b3e : List AIns := [⟨some 2, none, .e (.box 2 (.t 0))⟩,
  ⟨some 4, none, .p (.mv (.c (.nil)))⟩]
def b3d : List AIns := [⟨some 5, none, .p (.mv (.t 1))⟩,
  ⟨some 6, none, .p (.mkfn a3A [(.t 2)])⟩,
  ⟨some 7, none, .call a5f [(.t 5), (.t 6)]⟩,
  ⟨some 4, none, .p (.mv (.t 7))⟩]
def c2T : ACode := .seq (.region b3e false) (.seq (.region b3d false) (.ret))
theorem c1m : fchk Pr (fun _ _ => false) Try.f46 = some (c2T, [.tmp 4], 8) := by kernel_rfl
theorem c1n : Pr.funcs[b0h]? = some Try.f46 := Try.func46
def a3z : List AIns := [⟨some 2, none, .p (.mv (.c (.int .i64 0)))⟩,
  ⟨some 3, none, .p (.mv (.c (.int .i64 0)))⟩,
  ⟨some 4, none, .p (.mv (.c (.int .i64 0)))⟩]
def a3y : List AIns := [⟨some 9, none, .p (.mv (.t 0))⟩,
  ⟨some 10, none, .call a2b [(.t 9)]⟩,
  ⟨some 8, none, .p (.mv (.t 10))⟩,
  ⟨some 11, none, .p (.ext (.t 8) 0)⟩,
  ⟨some 12, none, .p (.ext (.t 8) 1)⟩,
  ⟨some 13, none, .p (.ext (.t 8) 2)⟩,
  ⟨some 5, none, .p (.mv (.t 11))⟩,
  ⟨some 6, none, .p (.mv (.t 12))⟩,
  ⟨some 7, none, .p (.mv (.t 13))⟩]
def a3x : List AIns := [⟨some 14, none, .p (.mv (.t 7))⟩,
  ⟨some 15, none, .p (.bin .neq (.t 14) (.c (.int .i64 0)))⟩]
def b1e : List AIns := [⟨some 16, none, .p (.mv (.t 7))⟩,
  ⟨some 2, none, .p (.mv (.c (.int .i64 0)))⟩,
  ⟨some 3, none, .p (.mv (.c (.int .i64 0)))⟩,
  ⟨some 4, none, .p (.mv (.t 16))⟩]
def a3w : List AIns := [⟨some 17, none, .p (.mv (.t 5))⟩,
  ⟨some 18, none, .p (.bin .gtr (.t 17) (.c (.int .i64 64)))⟩,
  ⟨some 19, none, .p (.mv (.t 18))⟩,
  ⟨some 20, some (19, false), .p (.mv (.t 6))⟩,
  ⟨some 21, some (19, false), .p (.bin .gtr (.t 20) (.c (.int .i64 64)))⟩,
  ⟨some 22, none, .p (.pick (.t 19) (.c (.bool true)) (.t 21))⟩]
def a6a : List AIns := [⟨some 2, none, .p (.mv (.c (.int .i64 0)))⟩,
  ⟨some 3, none, .p (.mv (.c (.int .i64 0)))⟩,
  ⟨some 4, none, .p (.mv (.c (.int .i64 60)))⟩]
def b1d : List AIns := [⟨some 23, none, .p (.mv (.t 5))⟩,
  ⟨some 24, none, .p (.mv (.t 6))⟩,
  ⟨some 2, none, .p (.mv (.t 23))⟩,
  ⟨some 3, none, .p (.mv (.t 24))⟩,
  ⟨some 4, none, .p (.mv (.c (.int .i64 0)))⟩]
def c1G : ACode := .seq (.region a3z false) (.seq (.region a3y false) (.seq (.seq (.region a3x false) (.cond (.t 15) (.seq (.region b1e false) (.ret)) (.skip))) (.seq (.seq (.region a3w false) (.cond (.t 22) (.seq (.region a6a false) (.ret)) (.skip))) (.seq (.region b1d false) (.ret)))))
theorem a6b : fchk Pr (fun _ _ => false) Try.f49 = some (c1G, [.tmp 2, .tmp 3, .tmp 4], 25) := by kernel_rfl
theorem a6c : Pr.funcs[a4P]? = some Try.f49 := Try.func49
def a7Y : List AIns := [⟨some 4, none, .p (.mv (.c (.nil)))⟩,
  ⟨some 5, none, .p (.mv (.c (.nil)))⟩,
  ⟨some 6, none, .e (.box 2 (.c (.agg [.bool false, .nil])))⟩,
  ⟨some 7, none, .p (.mv (.c (.bool false)))⟩]
def a4g : List AIns := [⟨some 18, none, .p (.mv (.t 0))⟩,
  ⟨some 19, none, .call a6l [(.t 18)]⟩,
  ⟨some 8, none, .p (.mv (.t 19))⟩]
def a4f : List AIns := [⟨some 9, none, .p (.mv (.c (.nil)))⟩]
def a4e : List AIns := [⟨some 20, none, .call a4q [(.c (.int .i64 1))]⟩,
  ⟨some 10, none, .e (.box 2 (.c (.agg [.bool false, .nil])))⟩,
  ⟨none, none, .e (.store 2 (.t 10) (.t 20))⟩,
  ⟨some 11, none, .p (.mv (.c (.bool false)))⟩]
def a4d : List AIns := [⟨some 21, none, .p (.mv (.t 1))⟩,
  ⟨some 22, none, .p (.mv (.c (.int .i64 0)))⟩]
def a4c : List AIns := [⟨some 23, none, .p (.bin .lss (.t 22) (.t 21))⟩]
def a7X : List AIns := [⟨some 24, none, .p (.mv (.t 22))⟩,
  ⟨some 12, none, .p (.mv (.t 24))⟩]
def a7W : List AIns := [⟨some 25, none, .p (.mv (.t 9))⟩,
  ⟨some 26, none, .p (.len (.t 25))⟩,
  ⟨some 13, none, .p (.mv (.t 26))⟩]
def a7V : List AIns := [⟨some 27, none, .p (.mv (.t 13))⟩,
  ⟨some 14, none, .p (.mv (.t 27))⟩]
def a1H : List AIns := [⟨some 28, none, .p (.mv (.t 14))⟩,
  ⟨some 29, none, .p (.mv (.t 8))⟩,
  ⟨some 30, none, .p (.len (.t 29))⟩,
  ⟨some 31, none, .p (.bin .lss (.t 28) (.t 30))⟩,
  ⟨some 32, none, .p (.mv (.t 31))⟩,
  ⟨some 33, some (32, true), .p (.mv (.t 8))⟩,
  ⟨some 34, some (32, true), .p (.mv (.t 14))⟩,
  ⟨some 35, some (32, true), .p (.idxp 1 (.t 33) (.t 34))⟩,
  ⟨some 36, some (32, true), .p (.load none (.t 35))⟩,
  ⟨some 37, some (32, true), .p (.mv (.t 12))⟩,
  ⟨some 38, some (32, true), .p (.idxp 2 (.t 36) (.t 37))⟩,
  ⟨some 39, some (32, true), .p (.load (some 2) (.t 38))⟩,
  ⟨some 40, some (32, true), .call a0V [(.t 39)]⟩,
  ⟨some 41, some (32, true), .p (.bin .eql (.t 40) (.c (.int .i64 0)))⟩,
  ⟨some 42, none, .p (.pick (.t 32) (.t 41) (.c (.bool false)))⟩]
def a3h : List AIns := [⟨some 43, none, .p (.mv (.t 14))⟩,
  ⟨some 44, none, .p (.bin .add (.t 43) (.c (.int .i64 1)))⟩,
  ⟨some 14, none, .p (.mv (.t 44))⟩]
def b6N : ACode := .seq (.seq (.region a1H false) (.cond (.t 42) (.skip) (.exit 2))) (.block 3 (.region a3h false))
def a3g : List AIns := [⟨some 45, none, .p (.mv (.t 14))⟩,
  ⟨some 46, none, .p (.mv (.t 8))⟩,
  ⟨some 47, none, .p (.len (.t 46))⟩,
  ⟨some 48, none, .p (.bin .eql (.t 45) (.t 47))⟩]
def a3f : List AIns := [⟨some 49, none, .p (.mv (.t 14))⟩,
  ⟨some 50, none, .p (.mv (.t 13))⟩,
  ⟨some 51, none, .p (.bin .neq (.t 49) (.t 50))⟩]
def a6A : List AIns := [⟨some 52, none, .p (.mv (.t 8))⟩,
  ⟨some 53, none, .p (.mv (.t 14))⟩,
  ⟨some 54, none, .p (.mv (.t 8))⟩,
  ⟨some 55, none, .p (.mv (.t 13))⟩,
  ⟨some 56, none, .p (.mv (.t 8))⟩,
  ⟨some 57, none, .p (.mv (.t 13))⟩,
  ⟨some 58, none, .p (.idxp 1 (.t 56) (.t 57))⟩,
  ⟨some 59, none, .p (.load none (.t 58))⟩,
  ⟨some 60, none, .p (.mv (.t 8))⟩,
  ⟨some 61, none, .p (.mv (.t 14))⟩,
  ⟨some 62, none, .p (.idxp 1 (.t 60) (.t 61))⟩,
  ⟨some 63, none, .p (.load none (.t 62))⟩,
  ⟨some 64, none, .p (.idxp 1 (.t 52) (.t 53))⟩,
  ⟨none, none, .e (.store 1 (.t 64) (.t 59))⟩,
  ⟨some 65, none, .p (.idxp 1 (.t 54) (.t 55))⟩,
  ⟨none, none, .e (.store 1 (.t 65) (.t 63))⟩]
def a6z : List AIns := [⟨some 66, none, .p (.mv (.t 11))⟩,
  ⟨some 67, none, .p (.un .not (.t 66))⟩,
  ⟨some 11, none, .p (.mv (.t 67))⟩]
def a3e : List AIns := [⟨some 68, none, .p (.mv (.t 13))⟩,
  ⟨some 69, none, .p (.bin .add (.t 68) (.c (.int .i64 1)))⟩,
  ⟨some 15, none, .p (.mv (.t 69))⟩]
def a3d : List AIns := [⟨some 70, none, .p (.mv (.t 15))⟩,
  ⟨some 71, none, .p (.mv (.t 8))⟩,
  ⟨some 72, none, .p (.len (.t 71))⟩,
  ⟨some 73, none, .p (.bin .lss (.t 70) (.t 72))⟩]
def a6y : List AIns := [⟨some 76, none, .p (.mv (.t 8))⟩,
  ⟨some 77, none, .p (.mv (.t 15))⟩,
  ⟨some 78, none, .p (.idxp 1 (.t 76) (.t 77))⟩,
  ⟨some 79, none, .p (.load none (.t 78))⟩,
  ⟨some 80, none, .p (.len (.t 79))⟩,
  ⟨some 81, none, .p (.bin .sub (.t 80) (.c (.int .i64 1)))⟩,
  ⟨some 16, none, .p (.mv (.t 81))⟩]
def a3c : List AIns := [⟨some 82, none, .p (.mv (.t 16))⟩,
  ⟨some 83, none, .p (.mv (.t 12))⟩,
  ⟨some 84, none, .p (.bin .geq (.t 82) (.t 83))⟩]
def a6x : List AIns := [⟨some 87, none, .p (.mv (.t 8))⟩,
  ⟨some 88, none, .p (.mv (.t 13))⟩,
  ⟨some 89, none, .p (.idxp 1 (.t 87) (.t 88))⟩,
  ⟨some 90, none, .p (.load none (.t 89))⟩,
  ⟨some 91, none, .p (.mv (.t 12))⟩,
  ⟨some 92, none, .p (.idxp 2 (.t 90) (.t 91))⟩,
  ⟨some 93, none, .p (.load (some 2) (.t 92))⟩,
  ⟨some 94, none, .p (.mv (.t 8))⟩,
  ⟨some 95, none, .p (.mv (.t 15))⟩,
  ⟨some 96, none, .p (.idxp 1 (.t 94) (.t 95))⟩,
  ⟨some 97, none, .p (.load none (.t 96))⟩,
  ⟨some 98, none, .p (.mv (.t 16))⟩,
  ⟨some 99, none, .p (.idxp 2 (.t 97) (.t 98))⟩,
  ⟨some 100, none, .p (.load (some 2) (.t 99))⟩,
  ⟨some 101, none, .call a3F [(.t 93), (.t 100)]⟩,
  ⟨some 102, none, .p (.mv (.t 8))⟩,
  ⟨some 103, none, .p (.mv (.t 15))⟩,
  ⟨some 104, none, .p (.idxp 1 (.t 102) (.t 103))⟩,
  ⟨some 105, none, .p (.load none (.t 104))⟩,
  ⟨some 106, none, .p (.mv (.t 12))⟩,
  ⟨some 107, none, .p (.idxp 2 (.t 105) (.t 106))⟩,
  ⟨some 108, none, .p (.load (some 2) (.t 107))⟩,
  ⟨some 109, none, .p (.mv (.t 8))⟩,
  ⟨some 110, none, .p (.mv (.t 13))⟩,
  ⟨some 111, none, .p (.idxp 1 (.t 109) (.t 110))⟩,
  ⟨some 112, none, .p (.load none (.t 111))⟩,
  ⟨some 113, none, .p (.mv (.t 16))⟩,
  ⟨some 114, none, .p (.idxp 2 (.t 112) (.t 113))⟩,
  ⟨some 115, none, .p (.load (some 2) (.t 114))⟩,
  ⟨some 116, none, .call a3F [(.t 108), (.t 115)]⟩,
  ⟨some 117, none, .call a5u [(.t 101), (.t 116)]⟩,
  ⟨some 17, none, .e (.box 2 (.c (.agg [.bool false, .nil])))⟩,
  ⟨none, none, .e (.store 2 (.t 17) (.t 117))⟩]
def a6w : List AIns := [⟨some 119, none, .p (.mv (.t 8))⟩,
  ⟨some 120, none, .p (.mv (.t 15))⟩,
  ⟨some 121, none, .p (.idxp 1 (.t 119) (.t 120))⟩,
  ⟨some 122, none, .p (.load none (.t 121))⟩,
  ⟨some 123, none, .p (.mv (.t 16))⟩,
  ⟨some 124, none, .p (.load (some 2) (.t 17))⟩,
  ⟨some 125, none, .p (.load (some 2) (.t 10))⟩,
  ⟨some 126, none, .call a2T [(.t 124), (.t 125)]⟩,
  ⟨some 118, none, .p (.mv (.t 126))⟩,
  ⟨some 127, none, .p (.ext (.t 118) 0)⟩,
  ⟨some 128, none, .p (.ext (.t 118) 1)⟩,
  ⟨some 129, none, .p (.ext (.t 118) 2)⟩,
  ⟨some 130, none, .p (.idxp 2 (.t 122) (.t 123))⟩,
  ⟨none, none, .e (.store 2 (.t 130) (.t 127))⟩]
def a6v : List AIns := [⟨some 85, none, .p (.mv (.t 16))⟩,
  ⟨some 86, none, .p (.bin .sub (.t 85) (.c (.int .i64 1)))⟩,
  ⟨some 16, none, .p (.mv (.t 86))⟩]
def b6M : ACode := .seq (.seq (.region a3c false) (.cond (.t 84) (.skip) (.exit 6))) (.seq (.block 7 (.seq (.region a6x true) (.region a6w true))) (.region a6v false))
def a6u : List AIns := [⟨some 74, none, .p (.mv (.t 15))⟩,
  ⟨some 75, none, .p (.bin .add (.t 74) (.c (.int .i64 1)))⟩,
  ⟨some 15, none, .p (.mv (.t 75))⟩]
def a7Z : ACode := .seq (.seq (.region a3d false) (.cond (.t 73) (.skip) (.exit 4))) (.seq (.block 5 (.seq (.region a6y false) (.block 6 (.loop b6M)))) (.region a6u false))
def a3b : List AIns := [⟨some 131, none, .p (.mv (.t 8))⟩,
  ⟨some 132, none, .p (.mv (.t 13))⟩,
  ⟨some 133, none, .p (.idxp 1 (.t 131) (.t 132))⟩,
  ⟨some 134, none, .p (.load none (.t 133))⟩,
  ⟨some 135, none, .p (.mv (.t 12))⟩,
  ⟨some 136, none, .p (.idxp 2 (.t 134) (.t 135))⟩,
  ⟨some 137, none, .p (.load (some 2) (.t 136))⟩,
  ⟨none, none, .e (.store 2 (.t 10) (.t 137))⟩]
def a3a : List AIns := [⟨some 138, none, .p (.mv (.t 9))⟩,
  ⟨some 139, none, .p (.mv (.t 12))⟩,
  ⟨some 140, none, .e (.bsl 1 [(.t 139)])⟩,
  ⟨some 141, none, .e (.app 1 8 false (.t 138) (.t 140))⟩,
  ⟨some 9, none, .p (.mv (.t 141))⟩]
def a1Z : List AIns := [⟨some 142, none, .p (.bin .add (.t 22) (.c (.int .i64 1)))⟩,
  ⟨some 22, none, .p (.mv (.t 142))⟩]
def a4h : ACode := .seq (.region a4c false) (.seq (.cond (.t 23) (.skip) (.exit 0)) (.seq (.block 1 (.seq (.region a7X false) (.seq (.region a7W false) (.seq (.region a7V false) (.seq (.block 2 (.loop b6N)) (.seq (.seq (.region a3g false) (.cond (.t 48) (.exit 1) (.skip))) (.seq (.seq (.region a3f false) (.cond (.t 51) (.seq (.region a6A true) (.region a6z false)) (.skip))) (.seq (.seq (.region a3e false) (.block 4 (.loop a7Z))) (.seq (.region a3b false) (.region a3a false)))))))))) (.region a1Z false)))
def a1Y : List AIns := [⟨some 143, none, .p (.mv (.t 8))⟩,
  ⟨some 144, none, .p (.mv (.t 9))⟩,
  ⟨some 145, none, .p (.load (some 2) (.t 10))⟩,
  ⟨some 146, none, .p (.mv (.t 11))⟩,
  ⟨some 4, none, .p (.mv (.t 143))⟩,
  ⟨some 5, none, .p (.mv (.t 144))⟩,
  ⟨none, none, .e (.store 2 (.t 6) (.t 145))⟩,
  ⟨some 7, none, .p (.mv (.t 146))⟩]
def b7G : ACode := .seq (.region a7Y false) (.scope (.seq (.region a4g false) (.seq (.region a4f false) (.seq (.region a4e false) (.seq (.label 0) (.seq (.seq (.region a4d false) (.block 0 (.loop a4h))) (.seq (.region a1Y true) (.ret))))))))
theorem b6L : fchk Pr (fun _ _ => false) Try.f50 = some (b7G, [.tmp 4, .tmp 5, .cell 6 (some 2), .tmp 7], 147) := by kernel_rfl
theorem b6O : Pr.funcs[a1V]? = some Try.f50 := Try.func50
def a2K : List AIns := [⟨some 2, none, .p (.mv (.c (.int .i64 0)))⟩,
  ⟨some 3, none, .p (.mv (.c (.int .i64 0)))⟩]
def a2J : List AIns := [⟨some 8, none, .p (.mv (.t 0))⟩,
  ⟨some 9, none, .call a4P [(.t 8)]⟩,
  ⟨some 7, none, .p (.mv (.t 9))⟩,
  ⟨some 10, none, .p (.ext (.t 7) 0)⟩,
  ⟨some 11, none, .p (.ext (.t 7) 1)⟩,
  ⟨some 12, none, .p (.ext (.t 7) 2)⟩,
  ⟨some 4, none, .p (.mv (.t 10))⟩,
  ⟨some 5, none, .p (.mv (.t 11))⟩,
  ⟨some 6, none, .p (.mv (.t 12))⟩]
def a2I : List AIns := [⟨some 13, none, .p (.mv (.t 6))⟩,
  ⟨some 14, none, .p (.bin .eql (.t 13) (.c (.int .i64 0)))⟩,
  ⟨some 15, none, .p (.mv (.t 14))⟩,
  ⟨some 16, some (15, true), .p (.mv (.t 4))⟩,
  ⟨some 17, some (15, true), .p (.mv (.t 5))⟩,
  ⟨some 18, some (15, true), .p (.bin .neq (.t 16) (.t 17))⟩,
  ⟨some 19, none, .p (.pick (.t 15) (.t 18) (.c (.bool false)))⟩]
def a9n : List AIns := [⟨some 6, none, .p (.mv (.c (.int .i64 8)))⟩]
def a2H : List AIns := [⟨some 20, none, .p (.mv (.t 4))⟩,
  ⟨some 21, none, .p (.mv (.t 6))⟩,
  ⟨some 2, none, .p (.mv (.t 20))⟩,
  ⟨some 3, none, .p (.mv (.t 21))⟩]
def c0i : ACode := .seq (.region a2K false) (.seq (.region a2J false) (.seq (.seq (.region a2I false) (.cond (.t 19) (.region a9n false) (.skip))) (.seq (.region a2H false) (.ret))))
theorem a5a : fchk Pr (fun _ _ => false) Try.f55 = some (c0i, [.tmp 2, .tmp 3], 22) := by kernel_rfl
theorem a5b : Pr.funcs[a3B]? = some Try.f55 := Try.func55
def b6J : List AIns := [⟨some 2, none, .e (.box 2 (.c (.agg [.bool false, .nil])))⟩]
def b6I : List AIns := [⟨some 8, none, .p (.mv (.t 0))⟩,
  ⟨some 9, none, .p (.len (.t 8))⟩,
  ⟨some 3, none, .p (.mv (.t 9))⟩]
def b6H : List AIns := [⟨some 11, none, .p (.mv (.t 0))⟩,
  ⟨some 12, none, .p (.mv (.t 3))⟩,
  ⟨some 13, none, .call a1V [(.t 11), (.t 12)]⟩,
  ⟨some 10, none, .p (.mv (.t 13))⟩,
  ⟨some 14, none, .p (.ext (.t 10) 0)⟩,
  ⟨some 15, none, .p (.ext (.t 10) 1)⟩,
  ⟨some 16, none, .p (.ext (.t 10) 2)⟩,
  ⟨some 17, none, .p (.ext (.t 10) 3)⟩,
  ⟨some 6, none, .e (.box 2 (.c (.agg [.bool false, .nil])))⟩,
  ⟨some 4, none, .p (.mv (.t 14))⟩,
  ⟨some 5, none, .p (.mv (.t 15))⟩,
  ⟨none, none, .e (.store 2 (.t 6) (.t 16))⟩,
  ⟨some 7, none, .p (.mv (.t 17))⟩]
def b6G : List AIns := [⟨some 19, none, .p (.mv (.t 5))⟩,
  ⟨some 20, none, .p (.len (.t 19))⟩,
  ⟨some 21, none, .p (.mv (.t 3))⟩,
  ⟨some 22, none, .p (.bin .lss (.t 20) (.t 21))⟩,
  ⟨some 18, none, .p (.mv (.t 22))⟩]
def b6F : List AIns := [⟨some 23, none, .p (.bld [.bool false, .nil] [])⟩,
  ⟨none, none, .e (.store 2 (.t 2) (.t 23))⟩]
def b6E : List AIns := [⟨some 25, none, .p (.mv (.t 7))⟩,
  ⟨some 24, none, .p (.mv (.t 25))⟩]
def b6D : List AIns := [⟨some 26, none, .p (.load (some 2) (.t 6))⟩,
  ⟨some 27, none, .call a3E [(.t 26)]⟩,
  ⟨none, none, .e (.store 2 (.t 2) (.t 27))⟩]
def b6C : List AIns := [⟨some 28, none, .p (.load (some 2) (.t 6))⟩,
  ⟨some 29, none, .call a6f [(.t 28)]⟩,
  ⟨none, none, .e (.store 2 (.t 2) (.t 29))⟩]
def c6m : ACode := .seq (.region b6J false) (.seq (.region b6I false) (.seq (.region b6H false) (.seq (.block 0 (.seq (.region b6G false) (.cond (.t 18) (.seq (.region b6F false) (.ret)) (.seq (.region b6E false) (.cond (.t 24) (.seq (.region b6D false) (.ret)) (.skip)))))) (.seq (.region b6C false) (.ret)))))
theorem c3p : fchk Pr (fun _ _ => false) Try.f56 = some (c6m, [.cell 2 (some 2)], 30) := by kernel_rfl
theorem c3q : Pr.funcs[a5z]? = some Try.f56 := Try.func56
def a6Y : List AIns := [⟨some 2, none, .e (.box 2 (.t 0))⟩,
  ⟨some 3, none, .e (.box 2 (.t 1))⟩,
  ⟨some 4, none, .p (.mv (.c (.int .i64 0)))⟩]
def a6X : List AIns := [⟨some 7, none, .p (.load (some 2) (.t 2))⟩,
  ⟨some 8, none, .call a0V [(.t 7)]⟩,
  ⟨some 9, none, .p (.load (some 2) (.t 3))⟩,
  ⟨some 10, none, .call a0V [(.t 9)]⟩,
  ⟨some 5, none, .p (.mv (.t 8))⟩,
  ⟨some 6, none, .p (.mv (.t 10))⟩]
def a6W : List AIns := [⟨some 12, none, .p (.mv (.t 5))⟩,
  ⟨some 13, none, .p (.mv (.t 6))⟩,
  ⟨some 14, none, .p (.bin .lss (.t 12) (.t 13))⟩,
  ⟨some 11, none, .p (.mv (.t 14))⟩]
def a6V : List AIns := [⟨some 4, none, .p (.mv (.c (.int .i64 (-1))))⟩]
def a6U : List AIns := [⟨some 16, none, .p (.mv (.t 5))⟩,
  ⟨some 17, none, .p (.mv (.t 6))⟩,
  ⟨some 18, none, .p (.bin .gtr (.t 16) (.t 17))⟩,
  ⟨some 15, none, .p (.mv (.t 18))⟩]
def a6T : List AIns := [⟨some 4, none, .p (.mv (.c (.int .i64 1)))⟩]
def a6S : List AIns := [⟨some 19, none, .p (.mv (.t 5))⟩,
  ⟨some 20, none, .p (.fldp (.t 2) 1)⟩,
  ⟨some 21, none, .p (.load none (.t 20))⟩,
  ⟨some 22, none, .p (.fldp (.t 3) 1)⟩,
  ⟨some 23, none, .p (.load none (.t 22))⟩,
  ⟨some 24, none, .call a4r [(.t 21), (.t 23)]⟩,
  ⟨some 25, none, .p (.bin .mul (.t 19) (.t 24))⟩,
  ⟨some 4, none, .p (.mv (.t 25))⟩]
def b7n : ACode := .seq (.region a6Y false) (.seq (.region a6X true) (.seq (.block 0 (.seq (.region a6W false) (.cond (.t 11) (.seq (.region a6V false) (.ret)) (.seq (.region a6U false) (.cond (.t 15) (.seq (.region a6T false) (.ret)) (.skip)))))) (.seq (.region a6S false) (.ret))))
theorem b4q : fchk Pr (fun _ _ => false) Try.f58 = some (b7n, [.tmp 4], 26) := by kernel_rfl
theorem b4r : Pr.funcs[a5d]? = some Try.f58 := Try.func58
def b4y : List AIns := [⟨some 1, none, .e (.box 2 (.t 0))⟩,
  ⟨some 2, none, .e (.box 2 (.c (.agg [.bool false, .nil])))⟩]
def b4x : List AIns := [⟨some 3, none, .p (.fldp (.t 1) 1)⟩,
  ⟨some 4, none, .p (.load none (.t 3))⟩,
  ⟨some 5, none, .call a0C [(.c (.bool false)), (.t 4)]⟩,
  ⟨none, none, .e (.store 2 (.t 2) (.t 5))⟩]
def c4S : ACode := .seq (.region b4y false) (.seq (.region b4x false) (.ret))
theorem c2l : fchk Pr (fun _ _ => false) Try.f59 = some (c4S, [.cell 2 (some 2)], 6) := by kernel_rfl
theorem c2m : Pr.funcs[b2h]? = some Try.f59 := Try.func59
def b7O : List AIns := [⟨some 2, none, .e (.box 2 (.c (.agg [.bool false, .nil])))⟩]
def b7N : List AIns := [⟨some 4, none, .p (.mv (.t 0))⟩,
  ⟨some 5, none, .p (.conv .u64 (.t 4))⟩,
  ⟨some 3, none, .p (.mv (.t 5))⟩]
def b7M : List AIns := [⟨some 6, none, .p (.mv (.t 0))⟩,
  ⟨some 7, none, .p (.bin .lss (.t 6) (.c (.int .i64 0)))⟩]
def b7L : List AIns := [⟨some 8, none, .p (.mv (.t 3))⟩,
  ⟨some 9, none, .p (.un .neg (.t 8))⟩,
  ⟨some 3, none, .p (.mv (.t 9))⟩]
def b1p : List AIns := [⟨some 10, none, .p (.mv (.t 0))⟩,
  ⟨some 11, none, .p (.bin .lss (.t 10) (.c (.int .i64 0)))⟩,
  ⟨some 12, none, .p (.mv (.t 3))⟩,
  ⟨some 13, none, .p (.conv .u32 (.t 12))⟩,
  ⟨some 14, none, .p (.mv (.t 3))⟩,
  ⟨some 15, none, .p (.bin .shr (.t 14) (.c (.int .u64 32)))⟩,
  ⟨some 16, none, .p (.conv .u32 (.t 15))⟩,
  ⟨some 17, none, .e (.bsl 1 [(.t 13), (.t 16)])⟩,
  ⟨some 18, none, .call a0C [(.t 11), (.t 17)]⟩,
  ⟨none, none, .e (.store 2 (.t 2) (.t 18))⟩]
def c6A : ACode := .seq (.region b7O false) (.seq (.region b7N false) (.seq (.seq (.region b7M false) (.cond (.t 7) (.region b7L false) (.skip))) (.seq (.region b1p false) (.ret))))
theorem c4M : fchk Pr (fun _ _ => false) Try.f60 = some (c6A, [.cell 2 (some 2)], 19) := by kernel_rfl
theorem c4N : Pr.funcs[a4q]? = some Try.f60 := Try.func60
def a6t : List AIns := [⟨some 6, none, .e (.box 2 (.c (.agg [.bool false, .nil])))⟩]
def a6s : List AIns := [⟨some 7, none, .p (.mv (.c (.nil)))⟩]
def a6r : List AIns := [⟨some 10, none, .p (.mv (.t 0))⟩,
  ⟨some 11, none, .p (.len (.t 10))⟩,
  ⟨some 12, none, .p (.mv (.c (.int .i64 0)))⟩]
def a2Z : List AIns := [⟨some 13, none, .p (.bin .lss (.t 12) (.t 11))⟩]
def a6q : List AIns := [⟨some 14, none, .p (.mv (.t 12))⟩,
  ⟨some 8, none, .p (.mv (.t 14))⟩]
def a2Y : List AIns := [⟨some 15, none, .p (.mv (.t 8))⟩,
  ⟨some 16, none, .p (.mv (.t 1))⟩,
  ⟨some 17, none, .p (.bin .neq (.t 15) (.t 16))⟩]
def a6p : List AIns := [⟨some 18, none, .p (.mv (.t 7))⟩,
  ⟨some 19, none, .p (.mv (.t 0))⟩,
  ⟨some 20, none, .p (.mv (.t 8))⟩,
  ⟨some 21, none, .p (.idxp 1 (.t 19) (.t 20))⟩,
  ⟨some 22, none, .p (.load none (.t 21))⟩,
  ⟨some 23, none, .p (.mv (.t 2))⟩,
  ⟨some 24, none, .p (.slc 2 (.t 22) none (some (.t 23)) none)⟩,
  ⟨some 25, none, .e (.app 2 32 false (.c (.nil)) (.t 24))⟩,
  ⟨some 26, none, .p (.mv (.t 0))⟩,
  ⟨some 27, none, .p (.mv (.t 8))⟩,
  ⟨some 28, none, .p (.idxp 1 (.t 26) (.t 27))⟩,
  ⟨some 29, none, .p (.load none (.t 28))⟩,
  ⟨some 30, none, .p (.mv (.t 2))⟩,
  ⟨some 31, none, .p (.bin .add (.t 30) (.c (.int .i64 1)))⟩,
  ⟨some 32, none, .p (.slc 2 (.t 29) (some (.t 31)) none none)⟩,
  ⟨some 33, none, .e (.app 2 32 false (.t 25) (.t 32))⟩,
  ⟨some 34, none, .e (.bslm 1 [(.t 33)])⟩,
  ⟨some 35, none, .e (.app 1 24 false (.t 18) (.t 34))⟩,
  ⟨some 7, none, .p (.mv (.t 35))⟩]
def a5q : List AIns := []
def a5p : List AIns := []
def a2X : List AIns := [⟨some 36, none, .p (.bin .add (.t 12) (.c (.int .i64 1)))⟩,
  ⟨some 12, none, .p (.mv (.t 36))⟩]
def b3J : ACode := .seq (.region a2Z false) (.seq (.cond (.t 13) (.skip) (.exit 0)) (.seq (.block 1 (.seq (.region a6q false) (.seq (.region a2Y false) (.cond (.t 17) (.regionX a6p a5q a5p [(0, 0), (8, 8), (26, 26), (27, 27), (28, 28), (2, 2), (30, 30), (29, 29), (31, 31)]) (.skip))))) (.region a2X false)))
def a6o : List AIns := [⟨some 37, none, .p (.mv (.t 7))⟩,
  ⟨some 38, none, .call a5z [(.t 37)]⟩,
  ⟨some 9, none, .e (.box 2 (.c (.agg [.bool false, .nil])))⟩,
  ⟨none, none, .e (.store 2 (.t 9) (.t 38))⟩]
def a2W : List AIns := [⟨some 39, none, .p (.mv (.t 1))⟩,
  ⟨some 40, none, .p (.mv (.t 2))⟩,
  ⟨some 41, none, .p (.bin .add (.t 39) (.t 40))⟩,
  ⟨some 42, none, .p (.bin .rem (.t 41) (.c (.int .i64 2)))⟩,
  ⟨some 43, none, .p (.bin .eql (.t 42) (.c (.int .i64 1)))⟩]
def a5s : List AIns := [⟨some 44, none, .p (.load (some 2) (.t 9))⟩,
  ⟨some 45, none, .call a3E [(.t 44)]⟩,
  ⟨none, none, .e (.store 2 (.t 6) (.t 45))⟩]
def a5r : List AIns := [⟨some 46, none, .p (.load (some 2) (.t 9))⟩,
  ⟨none, none, .e (.store 2 (.t 6) (.t 46))⟩]
def b6K : ACode := .seq (.region a6t false) (.seq (.region a6s false) (.seq (.seq (.region a6r false) (.block 0 (.loop b3J))) (.seq (.region a6o false) (.seq (.seq (.region a2W false) (.cond (.t 43) (.seq (.region a5s false) (.ret)) (.skip))) (.seq (.region a5r false) (.ret))))))
theorem b3I : fchk Pr (fun _ k => (k == 16)) Try.f66 = some (b6K, [.cell 6 (some 2)], 47) := by kernel_rfl
theorem b3K : Pr.funcs[a4s]? = some Try.f66 := Try.func66
def b1b : List AIns := [⟨some 3, none, .e (.box 2 (.t 1))⟩,
  ⟨some 4, none, .p (.mv (.c (.nil)))⟩,
  ⟨some 5, none, .e (.box 2 (.c (.agg [.bool false, .nil])))⟩]
def b1a : List AIns := [⟨some 18, none, .p (.load (some 2) (.t 3))⟩,
  ⟨some 19, none, .call b2h [(.t 18)]⟩,
  ⟨some 6, none, .e (.box 2 (.c (.agg [.bool false, .nil])))⟩,
  ⟨none, none, .e (.store 2 (.t 6) (.t 19))⟩]
def b0Z : List AIns := [⟨some 20, none, .p (.mv (.t 0))⟩,
  ⟨some 21, none, .p (.len (.t 20))⟩,
  ⟨some 22, none, .p (.mv (.c (.int .i64 0)))⟩]
def a5Z : List AIns := [⟨some 23, none, .p (.bin .lss (.t 22) (.t 21))⟩]
def b0Y : List AIns := [⟨some 24, none, .p (.idxp 2 (.t 20) (.t 22))⟩,
  ⟨some 25, none, .p (.load (some 2) (.t 24))⟩,
  ⟨some 8, none, .e (.box 2 (.c (.agg [.bool false, .nil])))⟩,
  ⟨none, none, .e (.store 2 (.t 8) (.t 25))⟩]
def b0X : List AIns := [⟨some 26, none, .p (.load (some 2) (.t 6))⟩,
  ⟨some 27, none, .p (.load (some 2) (.t 8))⟩,
  ⟨some 28, none, .call b2g [(.t 26), (.t 27)]⟩,
  ⟨none, none, .e (.store 2 (.t 6) (.t 28))⟩]
def b0W : List AIns := [⟨some 29, none, .p (.bin .add (.t 22) (.c (.int .i64 1)))⟩,
  ⟨some 22, none, .p (.mv (.t 29))⟩]
def c0g : ACode := .seq (.region a5Z false) (.seq (.cond (.t 23) (.skip) (.exit 0)) (.seq (.block 1 (.seq (.region b0Y false) (.region b0X false))) (.region b0W false)))
def b0V : List AIns := [⟨some 30, none, .p (.load (some 2) (.t 3))⟩,
  ⟨some 31, none, .call a0V [(.t 30)]⟩,
  ⟨some 32, none, .p (.bin .lss (.t 31) (.c (.int .i64 0)))⟩]
def b0U : List AIns := [⟨some 33, none, .p (.load (some 2) (.t 6))⟩,
  ⟨some 34, none, .call a3E [(.t 33)]⟩,
  ⟨none, none, .e (.store 2 (.t 6) (.t 34))⟩]
def a5Y : List AIns := [⟨some 9, none, .p (.mv (.c (.nil)))⟩]
def a4Z : List AIns := [⟨some 35, none, .p (.mv (.t 0))⟩,
  ⟨some 36, none, .p (.len (.t 35))⟩,
  ⟨some 37, none, .p (.mv (.c (.int .i64 0)))⟩]
def a4Y : List AIns := [⟨some 38, none, .p (.bin .lss (.t 37) (.t 36))⟩]
def a9m : List AIns := [⟨some 39, none, .p (.idxp 2 (.t 35) (.t 37))⟩,
  ⟨some 40, none, .p (.load (some 2) (.t 39))⟩,
  ⟨some 11, none, .e (.box 2 (.c (.agg [.bool false, .nil])))⟩,
  ⟨none, none, .e (.store 2 (.t 11) (.t 40))⟩]
def a9l : List AIns := [⟨some 42, none, .p (.load (some 2) (.t 11))⟩,
  ⟨some 43, none, .p (.load (some 2) (.t 6))⟩,
  ⟨some 44, none, .call a2T [(.t 42), (.t 43)]⟩,
  ⟨some 41, none, .p (.mv (.t 44))⟩,
  ⟨some 45, none, .p (.ext (.t 41) 0)⟩,
  ⟨some 46, none, .p (.ext (.t 41) 1)⟩,
  ⟨some 47, none, .p (.ext (.t 41) 2)⟩,
  ⟨some 12, none, .e (.box 2 (.c (.agg [.bool false, .nil])))⟩,
  ⟨some 13, none, .e (.box 2 (.c (.agg [.bool false, .nil])))⟩,
  ⟨none, none, .e (.store 2 (.t 12) (.t 45))⟩,
  ⟨none, none, .e (.store 2 (.t 13) (.t 46))⟩,
  ⟨some 14, none, .p (.mv (.t 47))⟩]
def a9k : List AIns := [⟨some 48, none, .p (.mv (.t 9))⟩,
  ⟨some 49, none, .p (.load (some 2) (.t 12))⟩,
  ⟨some 50, none, .e (.bsl 2 [(.t 49)])⟩,
  ⟨some 51, none, .e (.app 2 32 false (.t 48) (.t 50))⟩,
  ⟨some 9, none, .p (.mv (.t 51))⟩]
def a9j : List AIns := [⟨some 52, none, .p (.bin .add (.t 37) (.c (.int .i64 1)))⟩,
  ⟨some 37, none, .p (.mv (.t 52))⟩]
def b1c : ACode := .seq (.region a4Y false) (.seq (.cond (.t 38) (.skip) (.exit 2)) (.seq (.block 3 (.seq (.region a9m false) (.seq (.region a9l false) (.region a9k false)))) (.region a9j false)))
def a4X : List AIns := [⟨some 54, none, .p (.load (some 2) (.t 3))⟩,
  ⟨some 55, none, .p (.load (some 2) (.t 6))⟩,
  ⟨some 56, none, .call a2T [(.t 54), (.t 55)]⟩,
  ⟨some 53, none, .p (.mv (.t 56))⟩,
  ⟨some 57, none, .p (.ext (.t 53) 0)⟩,
  ⟨some 58, none, .p (.ext (.t 53) 1)⟩,
  ⟨some 59, none, .p (.ext (.t 53) 2)⟩,
  ⟨some 15, none, .e (.box 2 (.c (.agg [.bool false, .nil])))⟩,
  ⟨some 16, none, .e (.box 2 (.c (.agg [.bool false, .nil])))⟩,
  ⟨none, none, .e (.store 2 (.t 15) (.t 57))⟩,
  ⟨none, none, .e (.store 2 (.t 16) (.t 58))⟩,
  ⟨some 17, none, .p (.mv (.t 59))⟩]
def a4W : List AIns := [⟨some 60, none, .p (.mv (.t 9))⟩,
  ⟨some 61, none, .p (.load (some 2) (.t 15))⟩,
  ⟨some 4, none, .p (.mv (.t 60))⟩,
  ⟨none, none, .e (.store 2 (.t 5) (.t 61))⟩]
def c1F : ACode := .seq (.region b1b false) (.seq (.region b1a false) (.seq (.seq (.region b0Z false) (.block 0 (.loop c0g))) (.seq (.seq (.region b0V false) (.cond (.t 32) (.region b0U false) (.skip))) (.seq (.region a5Y false) (.seq (.seq (.region a4Z false) (.block 2 (.loop b1c))) (.seq (.region a4X false) (.seq (.region a4W true) (.ret))))))))
theorem c0f : fchk Pr (fun _ _ => false) Try.f67 = some (c1F, [.tmp 4, .cell 5 (some 2)], 62) := by kernel_rfl
theorem c0h : Pr.funcs[a4O]? = some Try.f67 := Try.func67
def a7K : List AIns := [⟨some 2, none, .p (.mv (.c (.int .i64 0)))⟩,
  ⟨some 3, none, .p (.mv (.c (.int .i64 0)))⟩,
  ⟨some 4, none, .p (.mv (.c (.int .i64 0)))⟩]
def a7J : List AIns := [⟨some 7, none, .p (.mv (.t 0))⟩,
  ⟨some 8, none, .p (.len (.t 7))⟩,
  ⟨some 9, none, .p (.bin .eql (.t 8) (.c (.int .i64 0)))⟩]
def b3h : List AIns := [⟨some 2, none, .p (.mv (.c (.int .i64 0)))⟩,
  ⟨some 3, none, .p (.mv (.c (.int .i64 0)))⟩,
  ⟨some 4, none, .p (.mv (.c (.int .i64 0)))⟩]
def a7I : List AIns := [⟨some 10, none, .p (.mv (.t 0))⟩,
  ⟨some 11, none, .p (.len (.t 10))⟩,
  ⟨some 12, none, .p (.mv (.c (.int .i64 0)))⟩]
def a2N : List AIns := [⟨some 13, none, .p (.bin .lss (.t 12) (.t 11))⟩]
def a4M : List AIns := [⟨some 14, none, .p (.idxp 1 (.t 10) (.t 12))⟩,
  ⟨some 15, none, .p (.load none (.t 14))⟩,
  ⟨some 6, none, .p (.mv (.t 15))⟩]
def a4L : List AIns := [⟨some 16, none, .p (.mv (.t 6))⟩,
  ⟨some 17, none, .p (.len (.t 16))⟩,
  ⟨some 18, none, .p (.mv (.t 0))⟩,
  ⟨some 19, none, .p (.idxp 1 (.t 18) (.c (.int .i64 0)))⟩,
  ⟨some 20, none, .p (.load none (.t 19))⟩,
  ⟨some 21, none, .p (.len (.t 20))⟩,
  ⟨some 22, none, .p (.bin .neq (.t 17) (.t 21))⟩]
def b3g : List AIns := [⟨some 2, none, .p (.mv (.c (.int .i64 0)))⟩,
  ⟨some 3, none, .p (.mv (.c (.int .i64 0)))⟩,
  ⟨some 4, none, .p (.mv (.c (.int .i64 8)))⟩]
def a7H : List AIns := [⟨some 23, none, .p (.bin .add (.t 12) (.c (.int .i64 1)))⟩,
  ⟨some 12, none, .p (.mv (.t 23))⟩]
def c1o : ACode := .seq (.region a2N false) (.seq (.cond (.t 13) (.skip) (.exit 0)) (.seq (.block 1 (.seq (.region a4M false) (.seq (.region a4L false) (.cond (.t 22) (.seq (.region b3g false) (.ret)) (.skip))))) (.region a7H false)))
def b3f : List AIns := [⟨some 24, none, .p (.mv (.t 0))⟩,
  ⟨some 25, none, .p (.len (.t 24))⟩,
  ⟨some 26, none, .p (.mv (.t 0))⟩,
  ⟨some 27, none, .p (.idxp 1 (.t 26) (.c (.int .i64 0)))⟩,
  ⟨some 28, none, .p (.load none (.t 27))⟩,
  ⟨some 29, none, .p (.len (.t 28))⟩,
  ⟨some 2, none, .p (.mv (.t 25))⟩,
  ⟨some 3, none, .p (.mv (.t 29))⟩,
  ⟨some 4, none, .p (.mv (.c (.int .i64 0)))⟩]
def c2U : ACode := .seq (.region a7K false) (.seq (.seq (.region a7J false) (.cond (.t 9) (.seq (.region b3h false) (.ret)) (.skip))) (.seq (.seq (.region a7I false) (.block 0 (.loop c1o))) (.seq (.region b3f true) (.ret))))
theorem b3i : fchk Pr (fun _ _ => false) Try.f70 = some (c2U, [.tmp 2, .tmp 3, .tmp 4], 30) := by kernel_rfl
theorem b3j : Pr.funcs[a2b]? = some Try.f70 := Try.func70
def b2w : List AIns := [⟨some 1, none, .e (.box 2 (.t 0))⟩,
  ⟨some 2, none, .e (.box 2 (.c (.agg [.bool false, .nil])))⟩]
def b2v : List AIns := [⟨some 3, none, .p (.fldp (.t 1) 0)⟩,
  ⟨some 4, none, .p (.load none (.t 3))⟩,
  ⟨some 5, none, .p (.fldp (.t 1) 1)⟩,
  ⟨some 6, none, .p (.load none (.t 5))⟩,
  ⟨some 7, none, .call a0C [(.t 4), (.t 6)]⟩,
  ⟨none, none, .e (.store 2 (.t 2) (.t 7))⟩]
def c2i : ACode := .seq (.region b2w false) (.seq (.region b2v false) (.ret))
theorem c0A : fchk Pr (fun _ _ => false) Try.f71 = some (c2i, [.cell 2 (some 2)], 8) := by kernel_rfl
theorem c0B : Pr.funcs[a6f]? = some Try.f71 := Try.func71
def b2m : List AIns := [⟨some 4, none, .e (.box 2 (.c (.agg [.bool false, .nil])))⟩]
def b2l : List AIns := [⟨some 7, none, .p (.mv (.t 1))⟩,
  ⟨some 8, none, .p (.len (.t 7))⟩,
  ⟨some 5, none, .p (.mv (.t 8))⟩]
def a6R : List AIns := [⟨some 9, none, .p (.mv (.t 5))⟩,
  ⟨some 10, none, .p (.bin .gtr (.t 9) (.c (.int .i64 0)))⟩,
  ⟨some 11, none, .p (.mv (.t 10))⟩,
  ⟨some 12, some (11, true), .p (.mv (.t 1))⟩,
  ⟨some 13, some (11, true), .p (.mv (.t 5))⟩,
  ⟨some 14, some (11, true), .p (.bin .sub (.t 13) (.c (.int .i64 1)))⟩,
  ⟨some 15, some (11, true), .p (.idxp 1 (.t 12) (.t 14))⟩,
  ⟨some 16, some (11, true), .p (.load none (.t 15))⟩,
  ⟨some 17, some (11, true), .p (.bin .eql (.t 16) (.c (.int .u32 0)))⟩,
  ⟨some 18, none, .p (.pick (.t 11) (.t 17) (.c (.bool false)))⟩]
def b2k : List AIns := [⟨some 19, none, .p (.mv (.t 5))⟩,
  ⟨some 20, none, .p (.bin .sub (.t 19) (.c (.int .i64 1)))⟩,
  ⟨some 5, none, .p (.mv (.t 20))⟩]
def b2n : ACode := .seq (.seq (.region a6R false) (.cond (.t 18) (.skip) (.exit 0))) (.block 1 (.region b2k false))
def a4B : List AIns := [⟨some 21, none, .p (.mv (.t 5))⟩,
  ⟨some 22, none, .p (.bin .eql (.t 21) (.c (.int .i64 0)))⟩]
def a4A : List AIns := [⟨some 23, none, .p (.bld [.bool false, .nil] [])⟩,
  ⟨none, none, .e (.store 2 (.t 4) (.t 23))⟩]
def a4z : List AIns := [⟨some 24, none, .p (.mv (.t 5))⟩,
  ⟨some 25, none, .e (.mksl 1 4 (.int .u32 0) (.t 24) (.t 24))⟩,
  ⟨some 6, none, .p (.mv (.t 25))⟩]
def a4y : List AIns := [⟨some 26, none, .p (.mv (.t 6))⟩,
  ⟨some 27, none, .p (.mv (.t 1))⟩,
  ⟨some 28, none, .e (.cpy 1 (.t 26) (.t 27))⟩]
def a4x : List AIns := [⟨some 29, none, .p (.mv (.t 0))⟩,
  ⟨some 30, none, .p (.mv (.t 6))⟩,
  ⟨some 31, none, .p (.bld [.bool false, .nil] [(0, 1, (.t 29)), (1, 1, (.t 30))])⟩,
  ⟨none, none, .e (.store 2 (.t 4) (.t 31))⟩]
def c1Y : ACode := .seq (.region b2m false) (.seq (.region b2l false) (.seq (.block 0 (.loop b2n)) (.seq (.seq (.region a4B false) (.cond (.t 22) (.seq (.region a4A false) (.ret)) (.skip))) (.seq (.region a4z false) (.seq (.region a4y false) (.seq (.region a4x false) (.ret)))))))
theorem c0w : fchk Pr (fun _ _ => false) Try.f73 = some (c1Y, [.cell 4 (some 2)], 32) := by kernel_rfl
theorem c0x : Pr.funcs[a0C]? = some Try.f73 := Try.func73
def a7u : List AIns := [⟨some 4, none, .p (.mv (.c (.nil)))⟩]
def a7t : List AIns := [⟨some 8, none, .p (.mv (.t 0))⟩,
  ⟨some 9, none, .p (.len (.t 8))⟩,
  ⟨some 10, none, .e (.mksl 1 24 (.nil) (.c (.int .i64 0)) (.t 9))⟩,
  ⟨some 5, none, .p (.mv (.t 10))⟩]
def a7s : List AIns := [⟨some 11, none, .p (.mv (.t 0))⟩,
  ⟨some 12, none, .p (.len (.t 11))⟩,
  ⟨some 13, none, .p (.mv (.c (.int .i64 0)))⟩]
def a3S : List AIns := [⟨some 14, none, .p (.bin .lss (.t 13) (.t 12))⟩]
def a7r : List AIns := [⟨some 15, none, .p (.idxp 1 (.t 11) (.t 13))⟩,
  ⟨some 16, none, .p (.load none (.t 15))⟩,
  ⟨some 7, none, .p (.mv (.t 16))⟩]
def a7q : List AIns := [⟨some 17, none, .p (.mv (.t 5))⟩,
  ⟨some 18, none, .p (.mv (.t 1))⟩,
  ⟨some 19, none, .p (.mv (.t 7))⟩,
  ⟨some 20, none, .callv (.t 18) [(.t 19)]⟩,
  ⟨some 21, none, .e (.bsl 1 [(.t 20)])⟩,
  ⟨some 22, none, .e (.app 1 24 false (.t 17) (.t 21))⟩,
  ⟨some 5, none, .p (.mv (.t 22))⟩]
def a7p : List AIns := [⟨some 23, none, .p (.bin .add (.t 13) (.c (.int .i64 1)))⟩,
  ⟨some 13, none, .p (.mv (.t 23))⟩]
def b5L : ACode := .seq (.region a3S false) (.seq (.cond (.t 14) (.skip) (.exit 0)) (.seq (.block 1 (.seq (.region a7r false) (.region a7q false))) (.region a7p false)))
def a7o : List AIns := [⟨some 24, none, .p (.mv (.t 5))⟩,
  ⟨some 4, none, .p (.mv (.t 24))⟩]
def b7p : ACode := .seq (.region a7u false) (.seq (.region a7t false) (.seq (.seq (.region a7s false) (.block 0 (.loop b5L))) (.seq (.region a7o false) (.ret))))
theorem b5K : fchk Pr (fun _ _ => false) Try.f74 = some (b7p, [.tmp 4], 25) := by kernel_rfl
theorem b5M : Pr.funcs[a5e]? = some Try.f74 := Try.func74
def a6n : List AIns := [⟨some 3, none, .p (.mv (.c (.nil)))⟩]
def a6m : List AIns := [⟨some 4, none, .p (.mv (.t 0))⟩,
  ⟨some 5, none, .p (.load none (.t 1))⟩,
  ⟨some 6, none, .call a6h [(.t 4), (.t 5)]⟩,
  ⟨some 3, none, .p (.mv (.t 6))⟩]
def b6f : ACode := .seq (.region a6n false) (.seq (.region a6m false) (.ret))
theorem b3F : fchk Pr (fun _ _ => false) Try.f75 = some (b6f, [.tmp 3], 7) := by kernel_rfl
theorem b3G : Pr.funcs[a2w]? = some Try.f75 := Try.func75
def a8V : List AIns := [⟨some 4, none, .p (.mv (.c (.nil)))⟩]
def a8U : List AIns := [⟨some 10, none, .p (.mv (.t 1))⟩,
  ⟨some 11, none, .p (.len (.t 10))⟩,
  ⟨some 12, none, .p (.bin .eql (.t 11) (.c (.int .i64 0)))⟩]
def a8T : List AIns := [⟨some 4, none, .p (.mv (.c (.nil)))⟩]
def a8S : List AIns := [⟨some 13, none, .p (.mv (.t 1))⟩,
  ⟨some 14, none, .p (.idxp 1 (.t 13) (.c (.int .i64 0)))⟩,
  ⟨some 15, none, .p (.load none (.t 14))⟩,
  ⟨some 16, none, .p (.len (.t 15))⟩,
  ⟨some 17, none, .e (.mksl 2 32 (.agg [.bool false, .nil]) (.t 16) (.t 16))⟩,
  ⟨some 5, none, .p (.mv (.t 17))⟩]
def a8R : List AIns := [⟨some 18, none, .p (.mv (.t 1))⟩,
  ⟨some 19, none, .p (.len (.t 18))⟩,
  ⟨some 20, none, .p (.mv (.c (.int .i64 0)))⟩]
def a4S : List AIns := [⟨some 21, none, .p (.bin .lss (.t 20) (.t 19))⟩]
def a8Q : List AIns := [⟨some 22, none, .p (.mv (.t 20))⟩,
  ⟨some 23, none, .p (.idxp 1 (.t 18) (.t 20))⟩,
  ⟨some 24, none, .p (.load none (.t 23))⟩,
  ⟨some 6, none, .p (.mv (.t 22))⟩,
  ⟨some 7, none, .p (.mv (.t 24))⟩]
def a8P : List AIns := [⟨some 25, none, .p (.mv (.t 7))⟩,
  ⟨some 26, none, .p (.len (.t 25))⟩,
  ⟨some 27, none, .p (.mv (.c (.int .i64 0)))⟩]
def a4R : List AIns := [⟨some 28, none, .p (.bin .lss (.t 27) (.t 26))⟩]
def a8O : List AIns := [⟨some 29, none, .p (.mv (.t 27))⟩,
  ⟨some 30, none, .p (.idxp 2 (.t 25) (.t 27))⟩,
  ⟨some 31, none, .p (.load (some 2) (.t 30))⟩,
  ⟨some 9, none, .e (.box 2 (.c (.agg [.bool false, .nil])))⟩,
  ⟨some 8, none, .p (.mv (.t 29))⟩,
  ⟨none, none, .e (.store 2 (.t 9) (.t 31))⟩]
def a7F : List AIns := [⟨some 32, none, .p (.mv (.t 5))⟩,
  ⟨some 33, none, .p (.mv (.t 8))⟩,
  ⟨some 34, none, .p (.mv (.t 5))⟩,
  ⟨some 35, none, .p (.mv (.t 8))⟩,
  ⟨some 36, none, .p (.idxp 2 (.t 34) (.t 35))⟩,
  ⟨some 37, none, .p (.load (some 2) (.t 36))⟩,
  ⟨some 38, none, .p (.mv (.t 0))⟩,
  ⟨some 39, none, .p (.mv (.t 6))⟩,
  ⟨some 40, none, .p (.idxp 2 (.t 38) (.t 39))⟩,
  ⟨some 41, none, .p (.load (some 2) (.t 40))⟩,
  ⟨some 42, none, .p (.load (some 2) (.t 9))⟩,
  ⟨some 43, none, .call a3F [(.t 41), (.t 42)]⟩,
  ⟨some 44, none, .call a3G [(.t 37), (.t 43)]⟩,
  ⟨some 45, none, .p (.idxp 2 (.t 32) (.t 33))⟩,
  ⟨none, none, .e (.store 2 (.t 45) (.t 44))⟩]
def a7E : List AIns := [⟨some 46, none, .p (.bin .add (.t 27) (.c (.int .i64 1)))⟩,
  ⟨some 27, none, .p (.mv (.t 46))⟩]
def b7s : ACode := .seq (.region a4R false) (.seq (.cond (.t 28) (.skip) (.exit 2)) (.seq (.block 3 (.seq (.region a8O false) (.region a7F true))) (.region a7E false)))
def a7D : List AIns := [⟨some 47, none, .p (.bin .add (.t 20) (.c (.int .i64 1)))⟩,
  ⟨some 20, none, .p (.mv (.t 47))⟩]
def b7t : ACode := .seq (.region a4S false) (.seq (.cond (.t 21) (.skip) (.exit 0)) (.seq (.block 1 (.seq (.region a8Q false) (.seq (.region a8P false) (.block 2 (.loop b7s))))) (.region a7D false)))
def a7C : List AIns := [⟨some 48, none, .p (.mv (.t 5))⟩,
  ⟨some 4, none, .p (.mv (.t 48))⟩]
def b9Q : ACode := .seq (.region a8V false) (.seq (.seq (.region a8U false) (.cond (.t 12) (.seq (.region a8T false) (.ret)) (.skip))) (.seq (.region a8S false) (.seq (.seq (.region a8R false) (.block 0 (.loop b7t))) (.seq (.region a7C false) (.ret)))))
theorem b7r : fchk Pr (fun _ _ => false) Try.f76 = some (b9Q, [.tmp 4], 49) := by kernel_rfl
theorem b7u : Pr.funcs[a6h]? = some Try.f76 := Try.func76
def b8B : List AIns := [⟨some 4, none, .p (.mv (.c (.nil)))⟩]
def b8A : List AIns := [⟨some 9, none, .p (.mv (.t 0))⟩,
  ⟨some 10, none, .call a0i [(.t 9)]⟩,
  ⟨some 11, none, .p (.mv (.t 1))⟩,
  ⟨some 12, none, .call a0i [(.t 11)]⟩,
  ⟨some 0, none, .p (.mv (.t 10))⟩,
  ⟨some 1, none, .p (.mv (.t 12))⟩]
def b8z : List AIns := [⟨some 13, none, .p (.mv (.t 0))⟩,
  ⟨some 14, none, .p (.len (.t 13))⟩,
  ⟨some 15, none, .p (.mv (.t 1))⟩,
  ⟨some 16, none, .p (.len (.t 15))⟩,
  ⟨some 17, none, .p (.bin .add (.t 14) (.t 16))⟩,
  ⟨some 18, none, .e (.mksl 1 4 (.int .u32 0) (.t 17) (.t 17))⟩,
  ⟨some 5, none, .p (.mv (.t 18))⟩]
def b8y : List AIns := [⟨some 19, none, .p (.mv (.t 0))⟩,
  ⟨some 20, none, .p (.len (.t 19))⟩,
  ⟨some 21, none, .p (.mv (.c (.int .i64 0)))⟩]
def b1E : List AIns := [⟨some 22, none, .p (.bin .lss (.t 21) (.t 20))⟩]
def b8x : List AIns := [⟨some 23, none, .p (.mv (.t 21))⟩,
  ⟨some 6, none, .p (.mv (.t 23))⟩]
def b8w : List AIns := [⟨some 7, none, .p (.mv (.c (.int .u64 0)))⟩]
def b8v : List AIns := [⟨some 24, none, .p (.mv (.t 1))⟩,
  ⟨some 25, none, .p (.len (.t 24))⟩,
  ⟨some 26, none, .p (.mv (.c (.int .i64 0)))⟩]
def b1D : List AIns := [⟨some 27, none, .p (.bin .lss (.t 26) (.t 25))⟩]
def b8u : List AIns := [⟨some 28, none, .p (.mv (.t 26))⟩,
  ⟨some 8, none, .p (.mv (.t 28))⟩]
def b5r : List AIns := [⟨some 29, none, .p (.mv (.t 7))⟩,
  ⟨some 30, none, .p (.mv (.t 0))⟩,
  ⟨some 31, none, .p (.mv (.t 6))⟩,
  ⟨some 32, none, .p (.idxp 1 (.t 30) (.t 31))⟩,
  ⟨some 33, none, .p (.load none (.t 32))⟩,
  ⟨some 34, none, .p (.conv .u64 (.t 33))⟩,
  ⟨some 35, none, .p (.mv (.t 1))⟩,
  ⟨some 36, none, .p (.mv (.t 8))⟩,
  ⟨some 37, none, .p (.idxp 1 (.t 35) (.t 36))⟩,
  ⟨some 38, none, .p (.load none (.t 37))⟩,
  ⟨some 39, none, .p (.conv .u64 (.t 38))⟩,
  ⟨some 40, none, .p (.bin .mul (.t 34) (.t 39))⟩,
  ⟨some 41, none, .p (.mv (.t 5))⟩,
  ⟨some 42, none, .p (.mv (.t 6))⟩,
  ⟨some 43, none, .p (.mv (.t 8))⟩,
  ⟨some 44, none, .p (.bin .add (.t 42) (.t 43))⟩,
  ⟨some 45, none, .p (.idxp 1 (.t 41) (.t 44))⟩,
  ⟨some 46, none, .p (.load none (.t 45))⟩,
  ⟨some 47, none, .p (.conv .u64 (.t 46))⟩,
  ⟨some 48, none, .p (.bin .add (.t 40) (.t 47))⟩,
  ⟨some 49, none, .p (.bin .add (.t 29) (.t 48))⟩,
  ⟨some 7, none, .p (.mv (.t 49))⟩]
def b5q : List AIns := [⟨some 50, none, .p (.mv (.t 5))⟩,
  ⟨some 51, none, .p (.mv (.t 6))⟩,
  ⟨some 52, none, .p (.mv (.t 8))⟩,
  ⟨some 53, none, .p (.bin .add (.t 51) (.t 52))⟩,
  ⟨some 54, none, .p (.mv (.t 7))⟩,
  ⟨some 55, none, .p (.conv .u32 (.t 54))⟩,
  ⟨some 56, none, .p (.idxp 1 (.t 50) (.t 53))⟩,
  ⟨none, none, .e (.store 1 (.t 56) (.t 55))⟩]
def b5p : List AIns := [⟨some 57, none, .p (.mv (.t 7))⟩,
  ⟨some 58, none, .p (.bin .shr (.t 57) (.c (.int .u64 32)))⟩,
  ⟨some 7, none, .p (.mv (.t 58))⟩]
def b5o : List AIns := [⟨some 59, none, .p (.bin .add (.t 26) (.c (.int .i64 1)))⟩,
  ⟨some 26, none, .p (.mv (.t 59))⟩]
def b8C : ACode := .seq (.region b1D false) (.seq (.cond (.t 27) (.skip) (.exit 2)) (.seq (.block 3 (.seq (.region b8u false) (.seq (.region b5r true) (.seq (.region b5q false) (.region b5p false))))) (.region b5o false)))
def b5n : List AIns := [⟨some 60, none, .p (.mv (.t 5))⟩,
  ⟨some 61, none, .p (.mv (.t 6))⟩,
  ⟨some 62, none, .p (.mv (.t 1))⟩,
  ⟨some 63, none, .p (.len (.t 62))⟩,
  ⟨some 64, none, .p (.bin .add (.t 61) (.t 63))⟩,
  ⟨some 65, none, .p (.mv (.t 7))⟩,
  ⟨some 66, none, .p (.conv .u32 (.t 65))⟩,
  ⟨some 67, none, .p (.idxp 1 (.t 60) (.t 64))⟩,
  ⟨none, none, .e (.store 1 (.t 67) (.t 66))⟩]
def b5m : List AIns := [⟨some 68, none, .p (.bin .add (.t 21) (.c (.int .i64 1)))⟩,
  ⟨some 21, none, .p (.mv (.t 68))⟩]
def b8D : ACode := .seq (.region b1E false) (.seq (.cond (.t 22) (.skip) (.exit 0)) (.seq (.block 1 (.seq (.region b8x false) (.seq (.region b8w false) (.seq (.seq (.region b8v false) (.block 2 (.loop b8C))) (.region b5n false))))) (.region b5m false)))
def a9L : List AIns := [⟨some 69, none, .p (.mv (.t 5))⟩,
  ⟨some 70, none, .call a0i [(.t 69)]⟩,
  ⟨some 4, none, .p (.mv (.t 70))⟩]
def c7D : ACode := .seq (.region b8B false) (.seq (.region b8A false) (.seq (.region b8z false) (.seq (.seq (.region b8y false) (.block 0 (.loop b8D))) (.seq (.region a9L false) (.ret)))))
theorem c5H : fchk Pr (fun _ _ => false) Try.f77 = some (c7D, [.tmp 4], 71) := by kernel_rfl
theorem c5I : Pr.funcs[a5x]? = some Try.f77 := Try.func77
def b0q : List AIns := [⟨some 2, none, .e (.box 2 (.t 0))⟩,
  ⟨some 3, none, .e (.box 2 (.t 1))⟩,
  ⟨some 4, none, .e (.box 2 (.c (.agg [.bool false, .nil])))⟩,
  ⟨some 5, none, .e (.box 2 (.c (.agg [.bool false, .nil])))⟩,
  ⟨some 6, none, .p (.mv (.c (.int .i64 0)))⟩]
def b0p : List AIns := [⟨some 13, none, .p (.fldp (.t 2) 1)⟩,
  ⟨some 14, none, .p (.load none (.t 13))⟩,
  ⟨some 15, none, .p (.fldp (.t 3) 1)⟩,
  ⟨some 16, none, .p (.load none (.t 15))⟩,
  ⟨some 17, none, .call b1o [(.t 14), (.t 16)]⟩,
  ⟨some 12, none, .p (.mv (.t 17))⟩,
  ⟨some 18, none, .p (.ext (.t 12) 0)⟩,
  ⟨some 19, none, .p (.ext (.t 12) 1)⟩,
  ⟨some 20, none, .p (.ext (.t 12) 2)⟩,
  ⟨some 7, none, .p (.mv (.t 18))⟩,
  ⟨some 8, none, .p (.mv (.t 19))⟩,
  ⟨some 9, none, .p (.mv (.t 20))⟩]
def b0o : List AIns := [⟨some 21, none, .p (.mv (.t 9))⟩,
  ⟨some 22, none, .p (.bin .neq (.t 21) (.c (.int .i64 0)))⟩]
def b9u : List AIns := [⟨some 23, none, .p (.bld [.bool false, .nil] [])⟩,
  ⟨some 24, none, .p (.bld [.bool false, .nil] [])⟩,
  ⟨none, none, .e (.store 2 (.t 4) (.t 23))⟩,
  ⟨none, none, .e (.store 2 (.t 5) (.t 24))⟩,
  ⟨some 6, none, .p (.mv (.c (.int .i64 11)))⟩]
def b0n : List AIns := [⟨some 25, none, .p (.fldp (.t 2) 0)⟩,
  ⟨some 26, none, .p (.load none (.t 25))⟩,
  ⟨some 27, none, .p (.fldp (.t 3) 0)⟩,
  ⟨some 28, none, .p (.load none (.t 27))⟩,
  ⟨some 29, none, .p (.beq true (.t 26) (.t 28))⟩,
  ⟨some 30, none, .p (.mv (.t 7))⟩,
  ⟨some 31, none, .call a0C [(.t 29), (.t 30)]⟩,
  ⟨some 32, none, .p (.fldp (.t 2) 0)⟩,
  ⟨some 33, none, .p (.load none (.t 32))⟩,
  ⟨some 34, none, .p (.mv (.t 8))⟩,
  ⟨some 35, none, .call a0C [(.t 33), (.t 34)]⟩]
def a8L : List AIns := [⟨some 10, none, .e (.box 2 (.c (.agg [.bool false, .nil])))⟩,
  ⟨some 11, none, .e (.box 2 (.c (.agg [.bool false, .nil])))⟩,
  ⟨none, none, .e (.store 2 (.t 10) (.t 31))⟩,
  ⟨none, none, .e (.store 2 (.t 11) (.t 35))⟩]
def a8K : List AIns := [⟨some 11, none, .e (.box 2 (.c (.agg [.bool false, .nil])))⟩,
  ⟨some 10, none, .e (.box 2 (.c (.agg [.bool false, .nil])))⟩,
  ⟨none, none, .e (.store 2 (.t 10) (.t 31))⟩,
  ⟨none, none, .e (.store 2 (.t 11) (.t 35))⟩]
def b0m : List AIns := [⟨some 36, none, .p (.load (some 2) (.t 11))⟩,
  ⟨some 37, none, .call a0V [(.t 36)]⟩,
  ⟨some 38, none, .p (.bin .neq (.t 37) (.c (.int .i64 0)))⟩,
  ⟨some 39, none, .p (.mv (.t 38))⟩,
  ⟨some 40, some (39, true), .p (.load (some 2) (.t 11))⟩,
  ⟨some 41, some (39, true), .call a0V [(.t 40)]⟩,
  ⟨some 42, some (39, true), .p (.load (some 2) (.t 3))⟩,
  ⟨some 43, some (39, true), .call a0V [(.t 42)]⟩,
  ⟨some 44, some (39, true), .p (.bin .neq (.t 41) (.t 43))⟩,
  ⟨some 45, none, .p (.pick (.t 39) (.t 44) (.c (.bool false)))⟩]
def b9t : List AIns := [⟨some 46, none, .p (.load (some 2) (.t 10))⟩,
  ⟨some 47, none, .call a4q [(.c (.int .i64 1))]⟩,
  ⟨some 48, none, .call a5u [(.t 46), (.t 47)]⟩,
  ⟨some 49, none, .p (.load (some 2) (.t 11))⟩,
  ⟨some 50, none, .p (.load (some 2) (.t 3))⟩,
  ⟨some 51, none, .call a3G [(.t 49), (.t 50)]⟩,
  ⟨none, none, .e (.store 2 (.t 10) (.t 48))⟩,
  ⟨none, none, .e (.store 2 (.t 11) (.t 51))⟩]
def b0l : List AIns := [⟨some 52, none, .p (.load (some 2) (.t 10))⟩,
  ⟨some 53, none, .p (.load (some 2) (.t 11))⟩,
  ⟨none, none, .e (.store 2 (.t 4) (.t 52))⟩,
  ⟨none, none, .e (.store 2 (.t 5) (.t 53))⟩,
  ⟨some 6, none, .p (.mv (.c (.int .i64 0)))⟩]
def a8J : List AIns := []
def a8I : List AIns := []
def c0C : ACode := .seq (.region b0q false) (.seq (.region b0p false) (.seq (.seq (.region b0o false) (.cond (.t 22) (.seq (.region b9u false) (.ret)) (.skip))) (.seq (.regionX b0n a8L a8K []) (.seq (.seq (.region b0m true) (.cond (.t 45) (.region b9t true) (.skip))) (.seq (.regionX b0l a8J a8I [(11, 4)]) (.ret))))))
theorem b9v : fchk Pr (fun _ _ => false) Try.f78 = some (c0C, [.cell 4 (some 2), .cell 5 (some 2), .tmp 6], 54) := by kernel_rfl
theorem b9w : Pr.funcs[a2T]? = some Try.f78 := Try.func78
def b5G : List AIns := [⟨some 2, none, .p (.mv (.c (.int .i64 0)))⟩]
def b5F : List AIns := [⟨some 3, none, .p (.mv (.t 0))⟩,
  ⟨some 4, none, .call a0i [(.t 3)]⟩,
  ⟨some 0, none, .p (.mv (.t 4))⟩]
def b5E : List AIns := [⟨some 5, none, .p (.mv (.t 0))⟩,
  ⟨some 6, none, .p (.len (.t 5))⟩,
  ⟨some 7, none, .p (.bin .eql (.t 6) (.c (.int .i64 0)))⟩]
def b5D : List AIns := [⟨some 2, none, .p (.mv (.c (.int .i64 0)))⟩]
def b5C : List AIns := [⟨some 8, none, .p (.mv (.t 0))⟩,
  ⟨some 9, none, .p (.len (.t 8))⟩,
  ⟨some 10, none, .p (.bin .sub (.t 9) (.c (.int .i64 1)))⟩,
  ⟨some 11, none, .p (.bin .mul (.c (.int .i64 32)) (.t 10))⟩,
  ⟨some 12, none, .p (.mv (.t 0))⟩,
  ⟨some 13, none, .p (.mv (.t 0))⟩,
  ⟨some 14, none, .p (.len (.t 13))⟩,
  ⟨some 15, none, .p (.bin .sub (.t 14) (.c (.int .i64 1)))⟩,
  ⟨some 16, none, .p (.idxp 1 (.t 12) (.t 15))⟩,
  ⟨some 17, none, .p (.load none (.t 16))⟩,
  ⟨some 18, none, .call a0R [(.t 17)]⟩,
  ⟨some 19, none, .p (.bin .add (.t 11) (.t 18))⟩,
  ⟨some 2, none, .p (.mv (.t 19))⟩]
def c5S : ACode := .seq (.region b5G false) (.seq (.region b5F false) (.seq (.seq (.region b5E false) (.cond (.t 7) (.seq (.region b5D false) (.ret)) (.skip))) (.seq (.region b5C false) (.ret))))
theorem c2J : fchk Pr (fun _ _ => false) Try.f82 = some (c5S, [.tmp 2], 20) := by kernel_rfl
theorem c2K : Pr.funcs[b2i]? = some Try.f82 := Try.func82
def a7B : List AIns := [⟨some 4, none, .p (.mv (.c (.nil)))⟩]
def a7A : List AIns := [⟨some 8, none, .p (.mv (.t 0))⟩,
  ⟨some 9, none, .p (.len (.t 8))⟩,
  ⟨some 10, none, .e (.mksl 2 32 (.agg [.bool false, .nil]) (.c (.int .i64 0)) (.t 9))⟩,
  ⟨some 5, none, .p (.mv (.t 10))⟩]
def a7z : List AIns := [⟨some 11, none, .p (.mv (.t 0))⟩,
  ⟨some 12, none, .p (.len (.t 11))⟩,
  ⟨some 13, none, .p (.mv (.c (.int .i64 0)))⟩]
def a3T : List AIns := [⟨some 14, none, .p (.bin .lss (.t 13) (.t 12))⟩]
def a7y : List AIns := [⟨some 15, none, .p (.idxp 2 (.t 11) (.t 13))⟩,
  ⟨some 16, none, .p (.load (some 2) (.t 15))⟩,
  ⟨some 7, none, .e (.box 2 (.c (.agg [.bool false, .nil])))⟩,
  ⟨none, none, .e (.store 2 (.t 7) (.t 16))⟩]
def a7x : List AIns := [⟨some 17, none, .p (.mv (.t 5))⟩,
  ⟨some 18, none, .p (.mv (.t 1))⟩,
  ⟨some 19, none, .p (.load (some 2) (.t 7))⟩,
  ⟨some 20, none, .callv (.t 18) [(.t 19)]⟩,
  ⟨some 21, none, .e (.bsl 2 [(.t 20)])⟩,
  ⟨some 22, none, .e (.app 2 32 false (.t 17) (.t 21))⟩,
  ⟨some 5, none, .p (.mv (.t 22))⟩]
def a7w : List AIns := [⟨some 23, none, .p (.bin .add (.t 13) (.c (.int .i64 1)))⟩,
  ⟨some 13, none, .p (.mv (.t 23))⟩]
def b5O : ACode := .seq (.region a3T false) (.seq (.cond (.t 14) (.skip) (.exit 0)) (.seq (.block 1 (.seq (.region a7y false) (.region a7x false))) (.region a7w false)))
def a7v : List AIns := [⟨some 24, none, .p (.mv (.t 5))⟩,
  ⟨some 4, none, .p (.mv (.t 24))⟩]
def b7q : ACode := .seq (.region a7B false) (.seq (.region a7A false) (.seq (.seq (.region a7z false) (.block 0 (.loop b5O))) (.seq (.region a7v false) (.ret))))
theorem b5N : fchk Pr (fun _ _ => false) Try.f83 = some (b7q, [.tmp 4], 25) := by kernel_rfl
theorem b5P : Pr.funcs[a5f]? = some Try.f83 := Try.func83
def a8X : List AIns := [⟨some 2, none, .e (.box 2 (.t 0))⟩,
  ⟨some 3, none, .e (.box 2 (.c (.agg [.bool false, .nil])))⟩]
def a8W : List AIns := [⟨some 4, none, .p (.load (some 2) (.t 1))⟩,
  ⟨some 5, none, .p (.load (some 2) (.t 2))⟩,
  ⟨some 6, none, .call a3F [(.t 4), (.t 5)]⟩,
  ⟨none, none, .e (.store 2 (.t 3) (.t 6))⟩]
def b9R : ACode := .seq (.region a8X false) (.seq (.region a8W false) (.ret))
theorem b7v : fchk Pr (fun _ _ => false) Try.f84 = some (b9R, [.cell 3 (some 2)], 7) := by kernel_rfl
theorem b7w : Pr.funcs[a3A]? = some Try.f84 := Try.func84
def a9v : List AIns := [⟨some 2, none, .p (.mv (.c (.nil)))⟩]
def a9u : List AIns := [⟨some 6, none, .p (.mv (.t 0))⟩,
  ⟨some 7, none, .p (.len (.t 6))⟩,
  ⟨some 8, none, .e (.mksl 1 24 (.nil) (.t 7) (.t 7))⟩,
  ⟨some 3, none, .p (.mv (.t 8))⟩]
def a9t : List AIns := [⟨some 9, none, .p (.mv (.t 0))⟩,
  ⟨some 10, none, .p (.len (.t 9))⟩,
  ⟨some 11, none, .p (.mv (.c (.int .i64 0)))⟩]
def a5c : List AIns := [⟨some 12, none, .p (.bin .lss (.t 11) (.t 10))⟩]
def a9s : List AIns := [⟨some 13, none, .p (.mv (.t 11))⟩,
  ⟨some 14, none, .p (.idxp 1 (.t 9) (.t 11))⟩,
  ⟨some 15, none, .p (.load none (.t 14))⟩,
  ⟨some 4, none, .p (.mv (.t 13))⟩,
  ⟨some 5, none, .p (.mv (.t 15))⟩]
def a9r : List AIns := [⟨some 16, none, .p (.mv (.t 3))⟩,
  ⟨some 17, none, .p (.mv (.t 4))⟩,
  ⟨some 18, none, .p (.mv (.t 5))⟩,
  ⟨some 19, none, .p (.len (.t 18))⟩,
  ⟨some 20, none, .e (.mksl 2 32 (.agg [.bool false, .nil]) (.t 19) (.t 19))⟩,
  ⟨some 21, none, .p (.idxp 1 (.t 16) (.t 17))⟩,
  ⟨none, none, .e (.store 1 (.t 21) (.t 20))⟩]
def a9q : List AIns := [⟨some 22, none, .p (.mv (.t 3))⟩,
  ⟨some 23, none, .p (.mv (.t 4))⟩,
  ⟨some 24, none, .p (.idxp 1 (.t 22) (.t 23))⟩,
  ⟨some 25, none, .p (.load none (.t 24))⟩,
  ⟨some 26, none, .p (.mv (.t 5))⟩,
  ⟨some 27, none, .e (.cpy 2 (.t 25) (.t 26))⟩]
def a9p : List AIns := [⟨some 28, none, .p (.bin .add (.t 11) (.c (.int .i64 1)))⟩,
  ⟨some 11, none, .p (.mv (.t 28))⟩]
def b7E : ACode := .seq (.region a5c false) (.seq (.cond (.t 12) (.skip) (.exit 0)) (.seq (.block 1 (.seq (.region a9s false) (.seq (.region a9r false) (.region a9q false)))) (.region a9p false)))
def a9o : List AIns := [⟨some 29, none, .p (.mv (.t 3))⟩,
  ⟨some 2, none, .p (.mv (.t 29))⟩]
def c0j : ACode := .seq (.region a9v false) (.seq (.region a9u false) (.seq (.seq (.region a9t false) (.block 0 (.loop b7E))) (.seq (.region a9o false) (.ret))))
theorem b7D : fchk Pr (fun _ _ => false) Try.f85 = some (c0j, [.tmp 2], 30) := by kernel_rfl
theorem b7F : Pr.funcs[a6l]? = some Try.f85 := Try.func85
def b4j : List AIns := [⟨some 2, none, .e (.box 2 (.t 0))⟩,
  ⟨some 3, none, .e (.box 2 (.t 1))⟩,
  ⟨some 4, none, .e (.box 2 (.c (.agg [.bool false, .nil])))⟩]
def b4i : List AIns := [⟨some 5, none, .p (.load (some 2) (.t 2))⟩,
  ⟨some 6, none, .p (.load (some 2) (.t 3))⟩,
  ⟨some 7, none, .call a3E [(.t 6)]⟩,
  ⟨some 8, none, .call a3G [(.t 5), (.t 7)]⟩,
  ⟨none, none, .e (.store 2 (.t 4) (.t 8))⟩]
def c4L : ACode := .seq (.region b4j false) (.seq (.region b4i true) (.ret))
theorem c1Z : fchk Pr (fun _ _ => false) Try.f86 = some (c4L, [.cell 4 (some 2)], 9) := by kernel_rfl
theorem c2a : Pr.funcs[a5u]? = some Try.f86 := Try.func86
def b8Z : List AIns := [⟨some 4, none, .p (.mv (.c (.int .i64 0)))⟩]
def b8Y : List AIns := [⟨some 6, none, .p (.mv (.t 0))⟩,
  ⟨some 7, none, .call a0i [(.t 6)]⟩,
  ⟨some 8, none, .p (.mv (.t 1))⟩,
  ⟨some 9, none, .call a0i [(.t 8)]⟩,
  ⟨some 0, none, .p (.mv (.t 7))⟩,
  ⟨some 1, none, .p (.mv (.t 9))⟩]
def b8X : List AIns := [⟨some 10, none, .p (.mv (.t 0))⟩,
  ⟨some 11, none, .p (.len (.t 10))⟩,
  ⟨some 12, none, .p (.mv (.t 1))⟩,
  ⟨some 13, none, .p (.len (.t 12))⟩,
  ⟨some 14, none, .p (.bin .neq (.t 11) (.t 13))⟩]
def b8W : List AIns := [⟨some 15, none, .p (.mv (.t 0))⟩,
  ⟨some 16, none, .p (.len (.t 15))⟩,
  ⟨some 17, none, .p (.mv (.t 1))⟩,
  ⟨some 18, none, .p (.len (.t 17))⟩,
  ⟨some 19, none, .p (.bin .lss (.t 16) (.t 18))⟩]
def b8V : List AIns := [⟨some 4, none, .p (.mv (.c (.int .i64 (-1))))⟩]
def b8U : List AIns := [⟨some 4, none, .p (.mv (.c (.int .i64 1)))⟩]
def b8T : List AIns := [⟨some 20, none, .p (.mv (.t 0))⟩,
  ⟨some 21, none, .p (.len (.t 20))⟩,
  ⟨some 22, none, .p (.bin .sub (.t 21) (.c (.int .i64 1)))⟩,
  ⟨some 5, none, .p (.mv (.t 22))⟩]
def b1H : List AIns := [⟨some 23, none, .p (.mv (.t 5))⟩,
  ⟨some 24, none, .p (.bin .geq (.t 23) (.c (.int .i64 0)))⟩]
def b8S : List AIns := [⟨some 27, none, .p (.mv (.t 0))⟩,
  ⟨some 28, none, .p (.mv (.t 5))⟩,
  ⟨some 29, none, .p (.idxp 1 (.t 27) (.t 28))⟩,
  ⟨some 30, none, .p (.load none (.t 29))⟩,
  ⟨some 31, none, .p (.mv (.t 1))⟩,
  ⟨some 32, none, .p (.mv (.t 5))⟩,
  ⟨some 33, none, .p (.idxp 1 (.t 31) (.t 32))⟩,
  ⟨some 34, none, .p (.load none (.t 33))⟩,
  ⟨some 35, none, .p (.bin .neq (.t 30) (.t 34))⟩]
def b8R : List AIns := [⟨some 36, none, .p (.mv (.t 0))⟩,
  ⟨some 37, none, .p (.mv (.t 5))⟩,
  ⟨some 38, none, .p (.idxp 1 (.t 36) (.t 37))⟩,
  ⟨some 39, none, .p (.load none (.t 38))⟩,
  ⟨some 40, none, .p (.mv (.t 1))⟩,
  ⟨some 41, none, .p (.mv (.t 5))⟩,
  ⟨some 42, none, .p (.idxp 1 (.t 40) (.t 41))⟩,
  ⟨some 43, none, .p (.load none (.t 42))⟩,
  ⟨some 44, none, .p (.bin .lss (.t 39) (.t 43))⟩]
def b5B : List AIns := [⟨some 4, none, .p (.mv (.c (.int .i64 (-1))))⟩]
def b5A : List AIns := [⟨some 4, none, .p (.mv (.c (.int .i64 1)))⟩]
def b5z : List AIns := [⟨some 25, none, .p (.mv (.t 5))⟩,
  ⟨some 26, none, .p (.bin .sub (.t 25) (.c (.int .i64 1)))⟩,
  ⟨some 5, none, .p (.mv (.t 26))⟩]
def b9a : ACode := .seq (.seq (.region b1H false) (.cond (.t 24) (.skip) (.exit 0))) (.seq (.block 1 (.seq (.region b8S true) (.cond (.t 35) (.seq (.seq (.region b8R true) (.cond (.t 44) (.seq (.region b5B false) (.ret)) (.skip))) (.seq (.region b5A false) (.ret))) (.skip)))) (.region b5z false))
def a9N : List AIns := [⟨some 4, none, .p (.mv (.c (.int .i64 0)))⟩]
def c7G : ACode := .seq (.region b8Z false) (.seq (.region b8Y false) (.seq (.seq (.region b8X false) (.cond (.t 14) (.seq (.seq (.region b8W false) (.cond (.t 19) (.seq (.region b8V false) (.ret)) (.skip))) (.seq (.region b8U false) (.ret))) (.skip))) (.seq (.seq (.region b8T false) (.block 0 (.loop b9a))) (.seq (.region a9N false) (.ret)))))
theorem c5Q : fchk Pr (fun _ _ => false) Try.f92 = some (c7G, [.tmp 4], 45) := by kernel_rfl
theorem c5R : Pr.funcs[a4r]? = some Try.f92 := Try.func92
end Go.Abs
set_option maxRecDepth 100000
noncomputable section
namespace Go.Abs
open Go.Proofs
def b4p : List AIns := [⟨some 2, none, .e (.box 2 (.t 0))⟩,
  ⟨some 3, none, .e (.box 2 (.t 1))⟩,
  ⟨some 4, none, .e (.box 2 (.c (.agg [.bool false, .nil])))⟩]
def b4o : List AIns := [⟨some 5, none, .p (.fldp (.t 2) 1)⟩,
  ⟨some 6, none, .p (.load none (.t 5))⟩,
  ⟨some 7, none, .p (.fldp (.t 3) 1)⟩,
  ⟨some 8, none, .p (.load none (.t 7))⟩,
  ⟨some 9, none, .call b7m [(.t 6), (.t 8)]⟩,
  ⟨some 10, none, .call a0C [(.c (.bool false)), (.t 9)]⟩,
  ⟨none, none, .e (.store 2 (.t 4) (.t 10))⟩]
def c4Q : ACode := .seq (.region b4p false) (.seq (.region b4o false) (.ret))
theorem c2g : fchk Pr (fun _ _ => false) Try.f101 = some (c4Q, [.cell 4 (some 2)], 11) := by kernel_rfl
theorem c2h : Pr.funcs[b2g]? = some Try.f101 := Try.func101
def b4w : List AIns := [⟨some 2, none, .e (.box 2 (.t 0))⟩,
  ⟨some 3, none, .e (.box 2 (.t 1))⟩,
  ⟨some 4, none, .e (.box 2 (.c (.agg [.bool false, .nil])))⟩]
def b4v : List AIns := [⟨some 7, none, .p (.fldp (.t 2) 0)⟩,
  ⟨some 8, none, .p (.load none (.t 7))⟩,
  ⟨some 9, none, .p (.fldp (.t 3) 0)⟩,
  ⟨some 10, none, .p (.load none (.t 9))⟩,
  ⟨some 11, none, .p (.beq false (.t 8) (.t 10))⟩]
def b4u : List AIns := [⟨some 12, none, .p (.fldp (.t 2) 0)⟩,
  ⟨some 13, none, .p (.load none (.t 12))⟩,
  ⟨some 14, none, .p (.fldp (.t 2) 1)⟩,
  ⟨some 15, none, .p (.load none (.t 14))⟩,
  ⟨some 16, none, .p (.fldp (.t 3) 1)⟩,
  ⟨some 17, none, .p (.load none (.t 16))⟩,
  ⟨some 18, none, .call a5y [(.t 15), (.t 17)]⟩,
  ⟨some 19, none, .call a0C [(.t 13), (.t 18)]⟩,
  ⟨none, none, .e (.store 2 (.t 4) (.t 19))⟩]
def b4t : List AIns := [⟨some 20, none, .p (.fldp (.t 2) 1)⟩,
  ⟨some 21, none, .p (.load none (.t 20))⟩,
  ⟨some 22, none, .p (.fldp (.t 3) 1)⟩,
  ⟨some 23, none, .p (.load none (.t 22))⟩,
  ⟨some 24, none, .call a4r [(.t 21), (.t 23)]⟩,
  ⟨some 25, none, .p (.bin .lss (.t 24) (.c (.int .i64 0)))⟩]
def b4s : List AIns := [⟨some 26, none, .p (.load (some 2) (.t 3))⟩,
  ⟨some 27, none, .p (.load (some 2) (.t 2))⟩,
  ⟨none, none, .e (.store 2 (.t 2) (.t 26))⟩,
  ⟨none, none, .e (.store 2 (.t 3) (.t 27))⟩]
def a9x : List AIns := [⟨some 29, none, .p (.fldp (.t 2) 1)⟩,
  ⟨some 30, none, .p (.load none (.t 29))⟩,
  ⟨some 31, none, .p (.fldp (.t 3) 1)⟩,
  ⟨some 32, none, .p (.load none (.t 31))⟩,
  ⟨some 33, none, .call b7l [(.t 30), (.t 32)]⟩,
  ⟨some 28, none, .p (.mv (.t 33))⟩,
  ⟨some 34, none, .p (.ext (.t 28) 0)⟩,
  ⟨some 35, none, .p (.ext (.t 28) 1)⟩,
  ⟨some 5, none, .p (.mv (.t 34))⟩,
  ⟨some 6, none, .p (.mv (.t 35))⟩]
def a9w : List AIns := [⟨some 36, none, .p (.fldp (.t 2) 0)⟩,
  ⟨some 37, none, .p (.load none (.t 36))⟩,
  ⟨some 38, none, .p (.mv (.t 5))⟩,
  ⟨some 39, none, .call a0C [(.t 37), (.t 38)]⟩,
  ⟨none, none, .e (.store 2 (.t 4) (.t 39))⟩]
def c4R : ACode := .seq (.region b4w false) (.seq (.seq (.region b4v false) (.cond (.t 11) (.seq (.region b4u true) (.ret)) (.skip))) (.seq (.seq (.region b4t false) (.cond (.t 25) (.region b4s false) (.skip))) (.seq (.region a9x false) (.seq (.region a9w false) (.ret)))))
theorem c2j : fchk Pr (fun _ _ => false) Try.f102 = some (c4R, [.cell 4 (some 2)], 40) := by kernel_rfl
theorem c2k : Pr.funcs[a3G]? = some Try.f102 := Try.func102
def a9D : List AIns := [⟨some 2, none, .p (.mv (.c (.nil)))⟩]
def a3M : List AIns := [⟨some 3, none, .p (.mv (.t 0))⟩,
  ⟨some 4, none, .p (.len (.t 3))⟩,
  ⟨some 5, none, .p (.bin .gtr (.t 4) (.c (.int .i64 0)))⟩,
  ⟨some 6, none, .p (.mv (.t 5))⟩,
  ⟨some 7, some (6, true), .p (.mv (.t 0))⟩,
  ⟨some 8, some (6, true), .p (.mv (.t 0))⟩,
  ⟨some 9, some (6, true), .p (.len (.t 8))⟩,
  ⟨some 10, some (6, true), .p (.bin .sub (.t 9) (.c (.int .i64 1)))⟩,
  ⟨some 11, some (6, true), .p (.idxp 1 (.t 7) (.t 10))⟩,
  ⟨some 12, some (6, true), .p (.load none (.t 11))⟩,
  ⟨some 13, some (6, true), .p (.bin .eql (.t 12) (.c (.int .u32 0)))⟩,
  ⟨some 14, none, .p (.pick (.t 6) (.t 13) (.c (.bool false)))⟩]
def a9C : List AIns := [⟨some 15, none, .p (.mv (.t 0))⟩,
  ⟨some 16, none, .p (.mv (.t 0))⟩,
  ⟨some 17, none, .p (.len (.t 16))⟩,
  ⟨some 18, none, .p (.bin .sub (.t 17) (.c (.int .i64 1)))⟩,
  ⟨some 19, none, .p (.slc 1 (.t 15) none (some (.t 18)) none)⟩,
  ⟨some 0, none, .p (.mv (.t 19))⟩]
def b4V : ACode := .seq (.seq (.region a3M false) (.cond (.t 14) (.skip) (.exit 0))) (.block 1 (.region a9C false))
def a2D : List AIns := [⟨some 20, none, .p (.mv (.t 0))⟩,
  ⟨some 2, none, .p (.mv (.t 20))⟩]
def c5v : ACode := .seq (.region a9D false) (.seq (.block 0 (.loop b4V)) (.seq (.region a2D false) (.ret)))
theorem b4U : fchk Pr (fun _ _ => false) Try.f103 = some (c5v, [.tmp 2], 21) := by kernel_rfl
theorem b4W : Pr.funcs[a0i]? = some Try.f103 := Try.func103
def b8Q : List AIns := [⟨some 4, none, .p (.mv (.c (.nil)))⟩,
  ⟨some 5, none, .p (.mv (.c (.nil)))⟩,
  ⟨some 6, none, .p (.mv (.c (.int .i64 0)))⟩]
def b8P : List AIns := [⟨some 14, none, .p (.mv (.t 0))⟩,
  ⟨some 15, none, .call a0i [(.t 14)]⟩,
  ⟨some 16, none, .p (.mv (.t 1))⟩,
  ⟨some 17, none, .call a0i [(.t 16)]⟩,
  ⟨some 0, none, .p (.mv (.t 15))⟩,
  ⟨some 1, none, .p (.mv (.t 17))⟩]
def b8O : List AIns := [⟨some 19, none, .p (.mv (.t 1))⟩,
  ⟨some 20, none, .p (.len (.t 19))⟩,
  ⟨some 21, none, .p (.bin .eql (.t 20) (.c (.int .i64 0)))⟩,
  ⟨some 18, none, .p (.mv (.t 21))⟩]
def c5M : List AIns := [⟨some 4, none, .p (.mv (.c (.nil)))⟩,
  ⟨some 5, none, .p (.mv (.c (.nil)))⟩,
  ⟨some 6, none, .p (.mv (.c (.int .i64 11)))⟩]
def b8N : List AIns := [⟨some 23, none, .p (.mv (.t 0))⟩,
  ⟨some 24, none, .p (.mv (.t 1))⟩,
  ⟨some 25, none, .call a4r [(.t 23), (.t 24)]⟩,
  ⟨some 26, none, .p (.bin .lss (.t 25) (.c (.int .i64 0)))⟩,
  ⟨some 22, none, .p (.mv (.t 26))⟩]
def b8M : List AIns := [⟨some 27, none, .p (.mv (.t 0))⟩,
  ⟨some 28, none, .call a5w [(.t 27)]⟩,
  ⟨some 4, none, .p (.mv (.c (.nil)))⟩,
  ⟨some 5, none, .p (.mv (.t 28))⟩,
  ⟨some 6, none, .p (.mv (.c (.int .i64 0)))⟩]
def b1G : List AIns := [⟨some 30, none, .p (.mv (.t 1))⟩,
  ⟨some 31, none, .p (.len (.t 30))⟩,
  ⟨some 32, none, .p (.bin .eql (.t 31) (.c (.int .i64 1)))⟩,
  ⟨some 29, none, .p (.mv (.t 32))⟩]
def b8L : List AIns := [⟨some 34, none, .p (.mv (.t 0))⟩,
  ⟨some 35, none, .p (.mv (.t 1))⟩,
  ⟨some 36, none, .p (.idxp 1 (.t 35) (.c (.int .i64 0)))⟩,
  ⟨some 37, none, .p (.load none (.t 36))⟩,
  ⟨some 38, none, .call b0g [(.t 34), (.t 37)]⟩,
  ⟨some 33, none, .p (.mv (.t 38))⟩,
  ⟨some 39, none, .p (.ext (.t 33) 0)⟩,
  ⟨some 40, none, .p (.ext (.t 33) 1)⟩,
  ⟨some 7, none, .p (.mv (.t 39))⟩,
  ⟨some 8, none, .p (.mv (.t 40))⟩]
def b8K : List AIns := [⟨some 41, none, .p (.mv (.t 7))⟩,
  ⟨some 42, none, .p (.mv (.t 8))⟩,
  ⟨some 43, none, .e (.bsl 1 [(.t 42)])⟩,
  ⟨some 44, none, .call a0i [(.t 43)]⟩,
  ⟨some 4, none, .p (.mv (.t 41))⟩,
  ⟨some 5, none, .p (.mv (.t 44))⟩,
  ⟨some 6, none, .p (.mv (.c (.int .i64 0)))⟩]
def b8J : List AIns := [⟨some 45, none, .p (.mv (.t 1))⟩,
  ⟨some 46, none, .p (.mv (.t 1))⟩,
  ⟨some 47, none, .p (.len (.t 46))⟩,
  ⟨some 48, none, .p (.bin .sub (.t 47) (.c (.int .i64 1)))⟩,
  ⟨some 49, none, .p (.idxp 1 (.t 45) (.t 48))⟩,
  ⟨some 50, none, .p (.load none (.t 49))⟩,
  ⟨some 51, none, .call a0W [(.t 50)]⟩,
  ⟨some 9, none, .p (.mv (.t 51))⟩]
def b5y : List AIns := [⟨some 52, none, .p (.mv (.t 1))⟩,
  ⟨some 53, none, .p (.mv (.t 9))⟩,
  ⟨some 54, none, .call b1n [(.t 52), (.t 53)]⟩,
  ⟨some 10, none, .p (.mv (.t 54))⟩]
def b5x : List AIns := [⟨some 55, none, .p (.mv (.t 0))⟩,
  ⟨some 56, none, .p (.mv (.t 9))⟩,
  ⟨some 57, none, .call b1n [(.t 55), (.t 56)]⟩,
  ⟨some 58, none, .e (.bsl 1 [(.c (.int .u32 0)), (.c (.int .u32 0))])⟩,
  ⟨some 59, none, .e (.app 1 4 false (.t 57) (.t 58))⟩,
  ⟨some 60, none, .p (.mv (.t 0))⟩,
  ⟨some 61, none, .p (.len (.t 60))⟩,
  ⟨some 62, none, .p (.bin .add (.t 61) (.c (.int .i64 1)))⟩,
  ⟨some 63, none, .p (.slc 1 (.t 59) none (some (.t 62)) none)⟩,
  ⟨some 11, none, .p (.mv (.t 63))⟩]
def b5w : List AIns := [⟨some 64, none, .p (.mv (.t 0))⟩,
  ⟨some 65, none, .p (.len (.t 64))⟩,
  ⟨some 66, none, .p (.mv (.t 1))⟩,
  ⟨some 67, none, .p (.len (.t 66))⟩,
  ⟨some 68, none, .p (.bin .sub (.t 65) (.t 67))⟩,
  ⟨some 69, none, .p (.bin .add (.t 68) (.c (.int .i64 1)))⟩,
  ⟨some 70, none, .e (.mksl 1 4 (.int .u32 0) (.t 69) (.t 69))⟩,
  ⟨some 12, none, .p (.mv (.t 70))⟩]
def b5v : List AIns := [⟨some 71, none, .p (.mv (.t 0))⟩,
  ⟨some 72, none, .p (.len (.t 71))⟩,
  ⟨some 73, none, .p (.mv (.t 1))⟩,
  ⟨some 74, none, .p (.len (.t 73))⟩,
  ⟨some 75, none, .p (.bin .sub (.t 72) (.t 74))⟩,
  ⟨some 13, none, .p (.mv (.t 75))⟩]
def a9M : List AIns := [⟨some 76, none, .p (.mv (.t 13))⟩,
  ⟨some 77, none, .p (.bin .geq (.t 76) (.c (.int .i64 0)))⟩]
def b5u : List AIns := [⟨some 80, none, .p (.mv (.t 12))⟩,
  ⟨some 81, none, .p (.mv (.t 13))⟩,
  ⟨some 82, none, .p (.mv (.t 11))⟩,
  ⟨some 83, none, .p (.mv (.t 13))⟩,
  ⟨some 84, none, .p (.mv (.t 13))⟩,
  ⟨some 85, none, .p (.mv (.t 10))⟩,
  ⟨some 86, none, .p (.len (.t 85))⟩,
  ⟨some 87, none, .p (.bin .add (.t 84) (.t 86))⟩,
  ⟨some 88, none, .p (.bin .add (.t 87) (.c (.int .i64 1)))⟩,
  ⟨some 89, none, .p (.slc 1 (.t 82) (some (.t 83)) (some (.t 88)) none)⟩,
  ⟨some 90, none, .p (.mv (.t 10))⟩,
  ⟨some 91, none, .call a6g [(.t 89), (.t 90)]⟩,
  ⟨some 92, none, .p (.idxp 1 (.t 80) (.t 81))⟩,
  ⟨none, none, .e (.store 1 (.t 92) (.t 91))⟩]
def b5t : List AIns := [⟨some 78, none, .p (.mv (.t 13))⟩,
  ⟨some 79, none, .p (.bin .sub (.t 78) (.c (.int .i64 1)))⟩,
  ⟨some 13, none, .p (.mv (.t 79))⟩]
def c5O : ACode := .seq (.seq (.region a9M false) (.cond (.t 77) (.skip) (.exit 1))) (.seq (.block 2 (.region b5u false)) (.region b5t false))
def b5s : List AIns := [⟨some 93, none, .p (.mv (.t 12))⟩,
  ⟨some 94, none, .call a0i [(.t 93)]⟩,
  ⟨some 95, none, .p (.mv (.t 11))⟩,
  ⟨some 96, none, .call a0i [(.t 95)]⟩,
  ⟨some 97, none, .p (.mv (.t 9))⟩,
  ⟨some 98, none, .call b1m [(.t 96), (.t 97)]⟩,
  ⟨some 4, none, .p (.mv (.t 94))⟩,
  ⟨some 5, none, .p (.mv (.t 98))⟩,
  ⟨some 6, none, .p (.mv (.c (.int .i64 0)))⟩]
def c7F : ACode := .seq (.region b8Q false) (.seq (.region b8P false) (.seq (.block 0 (.seq (.region b8O false) (.cond (.t 18) (.seq (.region c5M false) (.ret)) (.seq (.region b8N false) (.cond (.t 22) (.seq (.region b8M false) (.ret)) (.seq (.region b1G false) (.cond (.t 29) (.seq (.region b8L false) (.seq (.region b8K false) (.ret))) (.skip)))))))) (.seq (.region b8J false) (.seq (.region b5y false) (.seq (.region b5x false) (.seq (.region b5w false) (.seq (.seq (.region b5v false) (.block 1 (.loop c5O))) (.seq (.region b5s false) (.ret)))))))))
theorem c5N : fchk Pr (fun _ _ => false) Try.f104 = some (c7F, [.tmp 4, .tmp 5, .tmp 6], 99) := by kernel_rfl
theorem c5P : Pr.funcs[b1o]? = some Try.f104 := Try.func104
def a4J : List AIns := [⟨some 2, none, .p (.mv (.c (.int .i64 0)))⟩]
def a4I : List AIns := [⟨some 3, none, .p (.mv (.t 0))⟩,
  ⟨some 4, none, .p (.bin .geq (.t 3) (.c (.int .u32 65536)))⟩]
def a4H : List AIns := [⟨some 5, none, .p (.mv (.t 0))⟩,
  ⟨some 6, none, .p (.bin .shr (.t 5) (.c (.int .u64 16)))⟩,
  ⟨some 0, none, .p (.mv (.t 6))⟩]
def a4G : List AIns := [⟨some 2, none, .p (.mv (.c (.int .i64 16)))⟩]
def a2m : List AIns := [⟨some 7, none, .p (.mv (.t 0))⟩,
  ⟨some 8, none, .p (.bin .geq (.t 7) (.c (.int .u32 256)))⟩]
def a2l : List AIns := [⟨some 9, none, .p (.mv (.t 0))⟩,
  ⟨some 10, none, .p (.bin .shr (.t 9) (.c (.int .u64 8)))⟩,
  ⟨some 0, none, .p (.mv (.t 10))⟩]
def a2k : List AIns := [⟨some 11, none, .p (.mv (.t 2))⟩,
  ⟨some 12, none, .p (.bin .add (.t 11) (.c (.int .i64 8)))⟩,
  ⟨some 2, none, .p (.mv (.t 12))⟩]
def a1A : List AIns := [⟨some 13, none, .p (.mv (.t 2))⟩,
  ⟨some 14, none, .p (.mv (.t 0))⟩,
  ⟨some 15, none, .p (.conv .u8 (.t 14))⟩,
  ⟨some 16, none, .p (.idxs (.c (.str c9B)) (.t 15))⟩,
  ⟨some 17, none, .p (.conv .i64 (.t 16))⟩,
  ⟨some 18, none, .p (.bin .add (.t 13) (.t 17))⟩,
  ⟨some 2, none, .p (.mv (.t 18))⟩]
def b1M : ACode := .seq (.region a4J false) (.seq (.seq (.region a4I false) (.cond (.t 4) (.seq (.region a4H false) (.region a4G false)) (.skip))) (.seq (.seq (.region a2m false) (.cond (.t 8) (.seq (.region a2l false) (.region a2k false)) (.skip))) (.seq (.region a1A false) (.ret))))
theorem b0L : fchk Pr (fun _ _ => false) Try.f109 = some (b1M, [.tmp 2], 19) := by kernel_rfl
theorem b0M : Pr.funcs[a0R]? = some Try.f109 := Try.func109
def b8I : List AIns := [⟨some 4, none, .p (.mv (.c (.nil)))⟩]
def b8H : List AIns := [⟨some 10, none, .p (.mv (.t 0))⟩,
  ⟨some 11, none, .call a5w [(.t 10)]⟩,
  ⟨some 12, none, .p (.mv (.t 1))⟩,
  ⟨some 13, none, .call a5w [(.t 12)]⟩,
  ⟨some 5, none, .p (.mv (.t 11))⟩,
  ⟨some 6, none, .p (.mv (.t 13))⟩]
def b1F : List AIns := [⟨some 14, none, .p (.mv (.t 6))⟩,
  ⟨some 15, none, .p (.len (.t 14))⟩,
  ⟨some 16, none, .p (.bin .gtr (.t 15) (.c (.int .i64 0)))⟩]
def b8G : List AIns := [⟨some 18, none, .p (.mv (.t 5))⟩,
  ⟨some 19, none, .p (.mv (.t 6))⟩,
  ⟨some 20, none, .call b1o [(.t 18), (.t 19)]⟩,
  ⟨some 17, none, .p (.mv (.t 20))⟩,
  ⟨some 21, none, .p (.ext (.t 17) 0)⟩,
  ⟨some 22, none, .p (.ext (.t 17) 1)⟩,
  ⟨some 23, none, .p (.ext (.t 17) 2)⟩,
  ⟨some 7, none, .p (.mv (.t 21))⟩,
  ⟨some 8, none, .p (.mv (.t 22))⟩,
  ⟨some 9, none, .p (.mv (.t 23))⟩]
def b8F : List AIns := [⟨some 24, none, .p (.mv (.t 6))⟩,
  ⟨some 25, none, .p (.mv (.t 8))⟩,
  ⟨some 5, none, .p (.mv (.t 24))⟩,
  ⟨some 6, none, .p (.mv (.t 25))⟩]
def c5K : ACode := .seq (.seq (.region b1F false) (.cond (.t 16) (.skip) (.exit 0))) (.block 1 (.seq (.region b8G false) (.region b8F false)))
def b8E : List AIns := [⟨some 26, none, .p (.mv (.t 5))⟩,
  ⟨some 4, none, .p (.mv (.t 26))⟩]
def c7E : ACode := .seq (.region b8I false) (.seq (.region b8H false) (.seq (.block 0 (.loop c5K)) (.seq (.region b8E false) (.ret))))
theorem c5J : fchk Pr (fun _ _ => false) Try.f117 = some (c7E, [.tmp 4], 27) := by kernel_rfl
theorem c5L : Pr.funcs[b7m]? = some Try.f117 := Try.func117
def b9g : List AIns := [⟨some 4, none, .p (.mv (.c (.nil)))⟩]
def b9f : List AIns := [⟨some 8, none, .p (.mv (.t 0))⟩,
  ⟨some 9, none, .p (.len (.t 8))⟩,
  ⟨some 10, none, .p (.mv (.t 1))⟩,
  ⟨some 11, none, .p (.len (.t 10))⟩,
  ⟨some 12, none, .p (.bin .lss (.t 9) (.t 11))⟩]
def b9e : List AIns := [⟨some 13, none, .p (.mv (.t 1))⟩,
  ⟨some 14, none, .p (.mv (.t 0))⟩,
  ⟨some 0, none, .p (.mv (.t 13))⟩,
  ⟨some 1, none, .p (.mv (.t 14))⟩]
def b1L : List AIns := [⟨some 15, none, .p (.mv (.t 0))⟩,
  ⟨some 16, none, .p (.len (.t 15))⟩,
  ⟨some 17, none, .p (.bin .add (.t 16) (.c (.int .i64 1)))⟩,
  ⟨some 18, none, .e (.mksl 1 4 (.int .u32 0) (.t 17) (.t 17))⟩,
  ⟨some 5, none, .p (.mv (.t 18))⟩]
def b1K : List AIns := [⟨some 6, none, .p (.mv (.c (.int .u64 0)))⟩]
def b1J : List AIns := [⟨some 19, none, .p (.mv (.t 0))⟩,
  ⟨some 20, none, .p (.len (.t 19))⟩,
  ⟨some 21, none, .p (.mv (.c (.int .i64 0)))⟩]
def b1I : List AIns := [⟨some 22, none, .p (.bin .lss (.t 21) (.t 20))⟩]
def b9d : List AIns := [⟨some 23, none, .p (.mv (.t 21))⟩,
  ⟨some 7, none, .p (.mv (.t 23))⟩]
def b9c : List AIns := [⟨some 24, none, .p (.mv (.t 6))⟩,
  ⟨some 25, none, .p (.mv (.t 0))⟩,
  ⟨some 26, none, .p (.mv (.t 7))⟩,
  ⟨some 27, none, .p (.idxp 1 (.t 25) (.t 26))⟩,
  ⟨some 28, none, .p (.load none (.t 27))⟩,
  ⟨some 29, none, .p (.conv .u64 (.t 28))⟩,
  ⟨some 30, none, .p (.bin .add (.t 24) (.t 29))⟩,
  ⟨some 6, none, .p (.mv (.t 30))⟩]
def b9b : List AIns := [⟨some 31, none, .p (.mv (.t 7))⟩,
  ⟨some 32, none, .p (.mv (.t 1))⟩,
  ⟨some 33, none, .p (.len (.t 32))⟩,
  ⟨some 34, none, .p (.bin .lss (.t 31) (.t 33))⟩]
def b5H : List AIns := [⟨some 35, none, .p (.mv (.t 6))⟩,
  ⟨some 36, none, .p (.mv (.t 1))⟩,
  ⟨some 37, none, .p (.mv (.t 7))⟩,
  ⟨some 38, none, .p (.idxp 1 (.t 36) (.t 37))⟩,
  ⟨some 39, none, .p (.load none (.t 38))⟩,
  ⟨some 40, none, .p (.conv .u64 (.t 39))⟩,
  ⟨some 41, none, .p (.bin .add (.t 35) (.t 40))⟩,
  ⟨some 6, none, .p (.mv (.t 41))⟩]
def a9Q : List AIns := [⟨some 42, none, .p (.mv (.t 5))⟩,
  ⟨some 43, none, .p (.mv (.t 7))⟩,
  ⟨some 44, none, .p (.mv (.t 6))⟩,
  ⟨some 45, none, .p (.conv .u32 (.t 44))⟩,
  ⟨some 46, none, .p (.idxp 1 (.t 42) (.t 43))⟩,
  ⟨none, none, .e (.store 1 (.t 46) (.t 45))⟩]
def a9P : List AIns := [⟨some 47, none, .p (.mv (.t 6))⟩,
  ⟨some 48, none, .p (.bin .shr (.t 47) (.c (.int .u64 32)))⟩,
  ⟨some 6, none, .p (.mv (.t 48))⟩]
def a9O : List AIns := [⟨some 49, none, .p (.bin .add (.t 21) (.c (.int .i64 1)))⟩,
  ⟨some 21, none, .p (.mv (.t 49))⟩]
def a8r : ACode := .seq (.region b1I false) (.seq (.cond (.t 22) (.skip) (.exit 0)) (.seq (.block 1 (.seq (.region b9d false) (.seq (.region b9c false) (.seq (.seq (.region b9b false) (.cond (.t 34) (.region b5H false) (.skip))) (.seq (.region a9Q false) (.region a9P false)))))) (.region a9O false)))
def a3O : List AIns := [⟨some 50, none, .p (.mv (.t 5))⟩,
  ⟨some 51, none, .p (.mv (.t 0))⟩,
  ⟨some 52, none, .p (.len (.t 51))⟩,
  ⟨some 53, none, .p (.mv (.t 6))⟩,
  ⟨some 54, none, .p (.conv .u32 (.t 53))⟩,
  ⟨some 55, none, .p (.idxp 1 (.t 50) (.t 52))⟩,
  ⟨none, none, .e (.store 1 (.t 55) (.t 54))⟩]
def a3N : List AIns := [⟨some 56, none, .p (.mv (.t 5))⟩,
  ⟨some 57, none, .call a0i [(.t 56)]⟩,
  ⟨some 4, none, .p (.mv (.t 57))⟩]
def c7H : ACode := .seq (.region b9g false) (.seq (.seq (.region b9f false) (.cond (.t 12) (.region b9e false) (.skip))) (.seq (.region b1L false) (.seq (.region b1K false) (.seq (.seq (.region b1J false) (.block 0 (.loop a8r))) (.seq (.region a3O false) (.seq (.region a3N false) (.ret)))))))
theorem c5T : fchk Pr (fun _ _ => false) Try.f118 = some (c7H, [.tmp 4], 58) := by kernel_rfl
theorem c5U : Pr.funcs[a5y]? = some Try.f118 := Try.func118
def b8t : List AIns := [⟨some 4, none, .p (.mv (.c (.nil)))⟩,
  ⟨some 5, none, .p (.mv (.c (.int .i64 0)))⟩]
def b8s : List AIns := [⟨some 6, none, .p (.mv (.t 0))⟩,
  ⟨some 7, none, .p (.mv (.t 1))⟩,
  ⟨some 8, none, .call a4r [(.t 6), (.t 7)]⟩,
  ⟨some 9, none, .p (.bin .lss (.t 8) (.c (.int .i64 0)))⟩]
def c5D : List AIns := [⟨some 4, none, .p (.mv (.c (.nil)))⟩,
  ⟨some 5, none, .p (.mv (.c (.int .i64 10)))⟩]
def b8r : List AIns := [⟨some 10, none, .p (.mv (.t 0))⟩,
  ⟨some 11, none, .call a0i [(.t 10)]⟩,
  ⟨some 12, none, .p (.mv (.t 1))⟩,
  ⟨some 13, none, .call a0i [(.t 12)]⟩,
  ⟨some 14, none, .call a5v [(.t 11), (.t 13)]⟩,
  ⟨some 4, none, .p (.mv (.t 14))⟩,
  ⟨some 5, none, .p (.mv (.c (.int .i64 0)))⟩]
def c7C : ACode := .seq (.region b8t false) (.seq (.seq (.region b8s false) (.cond (.t 9) (.seq (.region c5D false) (.ret)) (.skip))) (.seq (.region b8r false) (.ret)))
theorem c5E : fchk Pr (fun _ _ => false) Try.f119 = some (c7C, [.tmp 4, .tmp 5], 15) := by kernel_rfl
theorem c5F : Pr.funcs[b7l]? = some Try.f119 := Try.func119
def b5l : List AIns := [⟨some 2, none, .p (.mv (.c (.nil)))⟩]
def b5k : List AIns := [⟨some 3, none, .p (.mv (.t 0))⟩,
  ⟨some 4, none, .call a0i [(.t 3)]⟩,
  ⟨some 5, none, .e (.app 1 4 false (.c (.nil)) (.t 4))⟩,
  ⟨some 2, none, .p (.mv (.t 5))⟩]
def c5G : ACode := .seq (.region b5l false) (.seq (.region b5k false) (.ret))
theorem c2H : fchk Pr (fun _ _ => false) Try.f120 = some (c5G, [.tmp 2], 6) := by kernel_rfl
theorem c2I : Pr.funcs[a5w]? = some Try.f120 := Try.func120
def b2J : List AIns := [⟨some 4, none, .p (.mv (.c (.nil)))⟩,
  ⟨some 5, none, .p (.mv (.c (.int .u32 0)))⟩]
def b2I : List AIns := [⟨some 9, none, .p (.mv (.t 0))⟩,
  ⟨some 10, none, .p (.len (.t 9))⟩,
  ⟨some 11, none, .e (.mksl 1 4 (.int .u32 0) (.t 10) (.t 10))⟩,
  ⟨some 6, none, .p (.mv (.t 11))⟩]
def b2H : List AIns := [⟨some 7, none, .p (.mv (.c (.int .u64 0)))⟩]
def b2G : List AIns := [⟨some 12, none, .p (.mv (.t 0))⟩,
  ⟨some 13, none, .p (.len (.t 12))⟩,
  ⟨some 14, none, .p (.bin .sub (.t 13) (.c (.int .i64 1)))⟩,
  ⟨some 8, none, .p (.mv (.t 14))⟩]
def a7j : List AIns := [⟨some 15, none, .p (.mv (.t 8))⟩,
  ⟨some 16, none, .p (.bin .geq (.t 15) (.c (.int .i64 0)))⟩]
def b2F : List AIns := [⟨some 19, none, .p (.mv (.t 7))⟩,
  ⟨some 20, none, .p (.bin .shl (.t 19) (.c (.int .u64 32)))⟩,
  ⟨some 21, none, .p (.mv (.t 0))⟩,
  ⟨some 22, none, .p (.mv (.t 8))⟩,
  ⟨some 23, none, .p (.idxp 1 (.t 21) (.t 22))⟩,
  ⟨some 24, none, .p (.load none (.t 23))⟩,
  ⟨some 25, none, .p (.conv .u64 (.t 24))⟩,
  ⟨some 26, none, .p (.bin .or (.t 20) (.t 25))⟩,
  ⟨some 7, none, .p (.mv (.t 26))⟩]
def b2E : List AIns := [⟨some 27, none, .p (.mv (.t 6))⟩,
  ⟨some 28, none, .p (.mv (.t 8))⟩,
  ⟨some 29, none, .p (.mv (.t 7))⟩,
  ⟨some 30, none, .p (.mv (.t 1))⟩,
  ⟨some 31, none, .p (.conv .u64 (.t 30))⟩,
  ⟨some 32, none, .p (.bin .quo (.t 29) (.t 31))⟩,
  ⟨some 33, none, .p (.conv .u32 (.t 32))⟩,
  ⟨some 34, none, .p (.idxp 1 (.t 27) (.t 28))⟩,
  ⟨none, none, .e (.store 1 (.t 34) (.t 33))⟩]
def b2D : List AIns := [⟨some 35, none, .p (.mv (.t 7))⟩,
  ⟨some 36, none, .p (.mv (.t 1))⟩,
  ⟨some 37, none, .p (.conv .u64 (.t 36))⟩,
  ⟨some 38, none, .p (.bin .rem (.t 35) (.t 37))⟩,
  ⟨some 7, none, .p (.mv (.t 38))⟩]
def b2C : List AIns := [⟨some 17, none, .p (.mv (.t 8))⟩,
  ⟨some 18, none, .p (.bin .sub (.t 17) (.c (.int .i64 1)))⟩,
  ⟨some 8, none, .p (.mv (.t 18))⟩]
def c1g : ACode := .seq (.seq (.region a7j false) (.cond (.t 16) (.skip) (.exit 0))) (.seq (.block 1 (.seq (.region b2F false) (.seq (.region b2E false) (.region b2D false)))) (.region b2C false))
def b2B : List AIns := [⟨some 39, none, .p (.mv (.t 6))⟩,
  ⟨some 40, none, .call a0i [(.t 39)]⟩,
  ⟨some 41, none, .p (.mv (.t 7))⟩,
  ⟨some 42, none, .p (.conv .u32 (.t 41))⟩,
  ⟨some 4, none, .p (.mv (.t 40))⟩,
  ⟨some 5, none, .p (.mv (.t 42))⟩]
def c2D : ACode := .seq (.region b2J false) (.seq (.region b2I false) (.seq (.region b2H false) (.seq (.seq (.region b2G false) (.block 0 (.loop c1g))) (.seq (.region b2B false) (.ret)))))
theorem c1f : fchk Pr (fun _ _ => false) Try.f121 = some (c2D, [.tmp 4, .tmp 5], 43) := by kernel_rfl
theorem c1h : Pr.funcs[b0g]? = some Try.f121 := Try.func121
def a1G : List AIns := [⟨some 2, none, .p (.mv (.c (.int .i64 0)))⟩]
def a1F : List AIns := [⟨some 3, none, .p (.mv (.t 0))⟩,
  ⟨some 4, none, .call a0R [(.t 3)]⟩,
  ⟨some 5, none, .p (.bin .sub (.c (.int .i64 32)) (.t 4))⟩,
  ⟨some 2, none, .p (.mv (.t 5))⟩]
def a4u : ACode := .seq (.region a1G false) (.seq (.region a1F false) (.ret))
theorem a3P : fchk Pr (fun _ _ => false) Try.f122 = some (a4u, [.tmp 2], 6) := by kernel_rfl
theorem a3Q : Pr.funcs[a0W]? = some Try.f122 := Try.func122
def b8q : List AIns := [⟨some 4, none, .p (.mv (.c (.nil)))⟩]
def b8p : List AIns := [⟨some 10, none, .p (.mv (.t 0))⟩,
  ⟨some 11, none, .call a0i [(.t 10)]⟩,
  ⟨some 0, none, .p (.mv (.t 11))⟩]
def b8o : List AIns := [⟨some 12, none, .p (.mv (.t 0))⟩,
  ⟨some 13, none, .p (.len (.t 12))⟩,
  ⟨some 14, none, .p (.bin .eql (.t 13) (.c (.int .i64 0)))⟩]
def c5y : List AIns := [⟨some 4, none, .p (.mv (.c (.nil)))⟩]
def b8n : List AIns := [⟨some 15, none, .p (.mv (.t 1))⟩,
  ⟨some 16, none, .p (.bin .quo (.t 15) (.c (.int .i64 32)))⟩,
  ⟨some 17, none, .p (.mv (.t 1))⟩,
  ⟨some 18, none, .p (.bin .rem (.t 17) (.c (.int .i64 32)))⟩,
  ⟨some 19, none, .p (.conv .u64 (.t 18))⟩,
  ⟨some 5, none, .p (.mv (.t 16))⟩,
  ⟨some 6, none, .p (.mv (.t 19))⟩]
def b8m : List AIns := [⟨some 20, none, .p (.mv (.t 0))⟩,
  ⟨some 21, none, .p (.len (.t 20))⟩,
  ⟨some 22, none, .p (.mv (.t 5))⟩,
  ⟨some 23, none, .p (.bin .add (.t 21) (.t 22))⟩,
  ⟨some 24, none, .p (.bin .add (.t 23) (.c (.int .i64 1)))⟩,
  ⟨some 25, none, .e (.mksl 1 4 (.int .u32 0) (.t 24) (.t 24))⟩,
  ⟨some 7, none, .p (.mv (.t 25))⟩]
def b8l : List AIns := [⟨some 26, none, .p (.mv (.t 0))⟩,
  ⟨some 27, none, .p (.len (.t 26))⟩,
  ⟨some 28, none, .p (.mv (.c (.int .i64 0)))⟩]
def b1C : List AIns := [⟨some 29, none, .p (.bin .lss (.t 28) (.t 27))⟩]
def b8k : List AIns := [⟨some 30, none, .p (.mv (.t 28))⟩,
  ⟨some 8, none, .p (.mv (.t 30))⟩]
def b8j : List AIns := [⟨some 31, none, .p (.mv (.t 0))⟩,
  ⟨some 32, none, .p (.mv (.t 8))⟩,
  ⟨some 33, none, .p (.idxp 1 (.t 31) (.t 32))⟩,
  ⟨some 34, none, .p (.load none (.t 33))⟩,
  ⟨some 35, none, .p (.conv .u64 (.t 34))⟩,
  ⟨some 36, none, .p (.mv (.t 6))⟩,
  ⟨some 37, none, .p (.bin .shl (.t 35) (.t 36))⟩,
  ⟨some 9, none, .p (.mv (.t 37))⟩]
def b5b : List AIns := [⟨some 38, none, .p (.mv (.t 7))⟩,
  ⟨some 39, none, .p (.mv (.t 8))⟩,
  ⟨some 40, none, .p (.mv (.t 5))⟩,
  ⟨some 41, none, .p (.bin .add (.t 39) (.t 40))⟩,
  ⟨some 42, none, .p (.idxp 1 (.t 38) (.t 41))⟩,
  ⟨some 43, none, .p (.load none (.t 42))⟩,
  ⟨some 44, none, .p (.mv (.t 9))⟩,
  ⟨some 45, none, .p (.conv .u32 (.t 44))⟩,
  ⟨some 46, none, .p (.bin .or (.t 43) (.t 45))⟩,
  ⟨some 47, none, .p (.idxp 1 (.t 38) (.t 41))⟩,
  ⟨none, none, .e (.store 1 (.t 47) (.t 46))⟩]
def b5a : List AIns := [⟨some 48, none, .p (.mv (.t 7))⟩,
  ⟨some 49, none, .p (.mv (.t 8))⟩,
  ⟨some 50, none, .p (.mv (.t 5))⟩,
  ⟨some 51, none, .p (.bin .add (.t 49) (.t 50))⟩,
  ⟨some 52, none, .p (.bin .add (.t 51) (.c (.int .i64 1)))⟩,
  ⟨some 53, none, .p (.mv (.t 9))⟩,
  ⟨some 54, none, .p (.bin .shr (.t 53) (.c (.int .u64 32)))⟩,
  ⟨some 55, none, .p (.conv .u32 (.t 54))⟩,
  ⟨some 56, none, .p (.idxp 1 (.t 48) (.t 52))⟩,
  ⟨none, none, .e (.store 1 (.t 56) (.t 55))⟩]
def b4Z : List AIns := [⟨some 57, none, .p (.bin .add (.t 28) (.c (.int .i64 1)))⟩,
  ⟨some 28, none, .p (.mv (.t 57))⟩]
def c5A : ACode := .seq (.region b1C false) (.seq (.cond (.t 29) (.skip) (.exit 0)) (.seq (.block 1 (.seq (.region b8k false) (.seq (.region b8j false) (.seq (.region b5b false) (.region b5a false))))) (.region b4Z false)))
def b4Y : List AIns := [⟨some 58, none, .p (.mv (.t 7))⟩,
  ⟨some 59, none, .call a0i [(.t 58)]⟩,
  ⟨some 4, none, .p (.mv (.t 59))⟩]
def c7B : ACode := .seq (.region b8q false) (.seq (.region b8p false) (.seq (.seq (.region b8o false) (.cond (.t 14) (.seq (.region c5y false) (.ret)) (.skip))) (.seq (.region b8n false) (.seq (.region b8m false) (.seq (.seq (.region b8l false) (.block 0 (.loop c5A))) (.seq (.region b4Y false) (.ret)))))))
theorem c5z : fchk Pr (fun _ _ => false) Try.f123 = some (c7B, [.tmp 4], 60) := by kernel_rfl
theorem c5B : Pr.funcs[b1n]? = some Try.f123 := Try.func123
def b2R : List AIns := [⟨some 4, none, .p (.mv (.c (.int .u32 0)))⟩]
def b2Q : List AIns := [⟨some 15, none, .p (.mv (.t 1))⟩,
  ⟨some 16, none, .p (.len (.t 15))⟩,
  ⟨some 5, none, .p (.mv (.t 16))⟩]
def b2P : List AIns := [⟨some 17, none, .p (.mv (.t 0))⟩,
  ⟨some 18, none, .p (.mv (.t 5))⟩,
  ⟨some 19, none, .p (.idxp 1 (.t 17) (.t 18))⟩,
  ⟨some 20, none, .p (.load none (.t 19))⟩,
  ⟨some 21, none, .p (.conv .u64 (.t 20))⟩,
  ⟨some 22, none, .p (.bin .shl (.t 21) (.c (.int .u64 32)))⟩,
  ⟨some 23, none, .p (.mv (.t 0))⟩,
  ⟨some 24, none, .p (.mv (.t 5))⟩,
  ⟨some 25, none, .p (.bin .sub (.t 24) (.c (.int .i64 1)))⟩,
  ⟨some 26, none, .p (.idxp 1 (.t 23) (.t 25))⟩,
  ⟨some 27, none, .p (.load none (.t 26))⟩,
  ⟨some 28, none, .p (.conv .u64 (.t 27))⟩,
  ⟨some 29, none, .p (.bin .or (.t 22) (.t 28))⟩,
  ⟨some 6, none, .p (.mv (.t 29))⟩]
def b2O : List AIns := [⟨some 30, none, .p (.mv (.t 6))⟩,
  ⟨some 31, none, .p (.mv (.t 1))⟩,
  ⟨some 32, none, .p (.mv (.t 5))⟩,
  ⟨some 33, none, .p (.bin .sub (.t 32) (.c (.int .i64 1)))⟩,
  ⟨some 34, none, .p (.idxp 1 (.t 31) (.t 33))⟩,
  ⟨some 35, none, .p (.load none (.t 34))⟩,
  ⟨some 36, none, .p (.conv .u64 (.t 35))⟩,
  ⟨some 37, none, .p (.bin .quo (.t 30) (.t 36))⟩,
  ⟨some 38, none, .p (.mnx false (.t 37) (.c (.int .u64 4294967295)))⟩,
  ⟨some 7, none, .p (.mv (.t 38))⟩]
def b2N : List AIns := [⟨some 8, none, .p (.mv (.c (.int .u64 0)))⟩,
  ⟨some 9, none, .p (.mv (.c (.int .u64 0)))⟩]
def b2M : List AIns := [⟨some 39, none, .p (.mv (.t 5))⟩,
  ⟨some 40, none, .p (.bin .add (.t 39) (.c (.int .i64 1)))⟩,
  ⟨some 41, none, .p (.mv (.c (.int .i64 0)))⟩]
def a7n : List AIns := [⟨some 42, none, .p (.bin .lss (.t 41) (.t 40))⟩]
def b2L : List AIns := [⟨some 43, none, .p (.mv (.t 41))⟩,
  ⟨some 10, none, .p (.mv (.t 43))⟩]
def b2K : List AIns := [⟨some 44, none, .p (.mv (.t 8))⟩,
  ⟨some 11, none, .p (.mv (.t 44))⟩]
def a7m : List AIns := [⟨some 45, none, .p (.mv (.t 10))⟩,
  ⟨some 46, none, .p (.mv (.t 5))⟩,
  ⟨some 47, none, .p (.bin .lss (.t 45) (.t 46))⟩]
def b0I : List AIns := [⟨some 48, none, .p (.mv (.t 11))⟩,
  ⟨some 49, none, .p (.mv (.t 7))⟩,
  ⟨some 50, none, .p (.mv (.t 1))⟩,
  ⟨some 51, none, .p (.mv (.t 10))⟩,
  ⟨some 52, none, .p (.idxp 1 (.t 50) (.t 51))⟩,
  ⟨some 53, none, .p (.load none (.t 52))⟩,
  ⟨some 54, none, .p (.conv .u64 (.t 53))⟩,
  ⟨some 55, none, .p (.bin .mul (.t 49) (.t 54))⟩,
  ⟨some 56, none, .p (.bin .add (.t 48) (.t 55))⟩,
  ⟨some 11, none, .p (.mv (.t 56))⟩]
def a5S : List AIns := [⟨some 57, none, .p (.mv (.t 11))⟩,
  ⟨some 58, none, .p (.bin .shr (.t 57) (.c (.int .u64 32)))⟩,
  ⟨some 8, none, .p (.mv (.t 58))⟩]
def a5R : List AIns := [⟨some 59, none, .p (.mv (.t 0))⟩,
  ⟨some 60, none, .p (.mv (.t 10))⟩,
  ⟨some 61, none, .p (.idxp 1 (.t 59) (.t 60))⟩,
  ⟨some 62, none, .p (.load none (.t 61))⟩,
  ⟨some 63, none, .p (.conv .u64 (.t 62))⟩,
  ⟨some 64, none, .p (.mv (.t 11))⟩,
  ⟨some 65, none, .p (.conv .u32 (.t 64))⟩,
  ⟨some 66, none, .p (.conv .u64 (.t 65))⟩,
  ⟨some 67, none, .p (.bin .sub (.t 63) (.t 66))⟩,
  ⟨some 68, none, .p (.mv (.t 9))⟩,
  ⟨some 69, none, .p (.bin .sub (.t 67) (.t 68))⟩,
  ⟨some 12, none, .p (.mv (.t 69))⟩]
def a5Q : List AIns := [⟨some 70, none, .p (.mv (.t 0))⟩,
  ⟨some 71, none, .p (.mv (.t 10))⟩,
  ⟨some 72, none, .p (.mv (.t 12))⟩,
  ⟨some 73, none, .p (.conv .u32 (.t 72))⟩,
  ⟨some 74, none, .p (.idxp 1 (.t 70) (.t 71))⟩,
  ⟨none, none, .e (.store 1 (.t 74) (.t 73))⟩]
def a5P : List AIns := [⟨some 75, none, .p (.mv (.t 12))⟩,
  ⟨some 76, none, .p (.bin .shr (.t 75) (.c (.int .u64 63)))⟩,
  ⟨some 9, none, .p (.mv (.t 76))⟩]
def a5O : List AIns := [⟨some 77, none, .p (.bin .add (.t 41) (.c (.int .i64 1)))⟩,
  ⟨some 41, none, .p (.mv (.t 77))⟩]
def a4E : ACode := .seq (.region a7n false) (.seq (.cond (.t 42) (.skip) (.exit 0)) (.seq (.block 1 (.seq (.region b2L false) (.seq (.region b2K false) (.seq (.seq (.region a7m false) (.cond (.t 47) (.region b0I false) (.skip))) (.seq (.region a5S false) (.seq (.region a5R false) (.seq (.region a5Q false) (.region a5P false)))))))) (.region a5O false)))
def a3t : List AIns := [⟨some 78, none, .p (.mv (.t 9))⟩,
  ⟨some 79, none, .p (.bin .gtr (.t 78) (.c (.int .u64 0)))⟩]
def b0H : List AIns := [⟨some 80, none, .p (.mv (.t 7))⟩,
  ⟨some 81, none, .p (.bin .sub (.t 80) (.c (.int .u64 1)))⟩,
  ⟨some 7, none, .p (.mv (.t 81))⟩]
def b0G : List AIns := [⟨some 13, none, .p (.mv (.c (.int .u64 0)))⟩]
def b0F : List AIns := [⟨some 82, none, .p (.mv (.t 5))⟩,
  ⟨some 83, none, .p (.bin .add (.t 82) (.c (.int .i64 1)))⟩,
  ⟨some 84, none, .p (.mv (.c (.int .i64 0)))⟩]
def a5N : List AIns := [⟨some 85, none, .p (.bin .lss (.t 84) (.t 83))⟩]
def b0E : List AIns := [⟨some 86, none, .p (.mv (.t 84))⟩,
  ⟨some 14, none, .p (.mv (.t 86))⟩]
def b0D : List AIns := [⟨some 87, none, .p (.mv (.t 13))⟩,
  ⟨some 88, none, .p (.mv (.t 0))⟩,
  ⟨some 89, none, .p (.mv (.t 14))⟩,
  ⟨some 90, none, .p (.idxp 1 (.t 88) (.t 89))⟩,
  ⟨some 91, none, .p (.load none (.t 90))⟩,
  ⟨some 92, none, .p (.conv .u64 (.t 91))⟩,
  ⟨some 93, none, .p (.bin .add (.t 87) (.t 92))⟩,
  ⟨some 13, none, .p (.mv (.t 93))⟩]
def a5M : List AIns := [⟨some 94, none, .p (.mv (.t 14))⟩,
  ⟨some 95, none, .p (.mv (.t 5))⟩,
  ⟨some 96, none, .p (.bin .lss (.t 94) (.t 95))⟩]
def b0C : List AIns := [⟨some 97, none, .p (.mv (.t 13))⟩,
  ⟨some 98, none, .p (.mv (.t 1))⟩,
  ⟨some 99, none, .p (.mv (.t 14))⟩,
  ⟨some 100, none, .p (.idxp 1 (.t 98) (.t 99))⟩,
  ⟨some 101, none, .p (.load none (.t 100))⟩,
  ⟨some 102, none, .p (.conv .u64 (.t 101))⟩,
  ⟨some 103, none, .p (.bin .add (.t 97) (.t 102))⟩,
  ⟨some 13, none, .p (.mv (.t 103))⟩]
def a5L : List AIns := [⟨some 104, none, .p (.mv (.t 0))⟩,
  ⟨some 105, none, .p (.mv (.t 14))⟩,
  ⟨some 106, none, .p (.mv (.t 13))⟩,
  ⟨some 107, none, .p (.conv .u32 (.t 106))⟩,
  ⟨some 108, none, .p (.idxp 1 (.t 104) (.t 105))⟩,
  ⟨none, none, .e (.store 1 (.t 108) (.t 107))⟩]
def a5K : List AIns := [⟨some 109, none, .p (.mv (.t 13))⟩,
  ⟨some 110, none, .p (.bin .shr (.t 109) (.c (.int .u64 32)))⟩,
  ⟨some 13, none, .p (.mv (.t 110))⟩]
def a5J : List AIns := [⟨some 111, none, .p (.bin .add (.t 84) (.c (.int .i64 1)))⟩,
  ⟨some 84, none, .p (.mv (.t 111))⟩]
def a4D : ACode := .seq (.region a5N false) (.seq (.cond (.t 85) (.skip) (.exit 4)) (.seq (.block 5 (.seq (.region b0E false) (.seq (.region b0D false) (.seq (.seq (.region a5M false) (.cond (.t 96) (.region b0C false) (.skip))) (.seq (.region a5L false) (.region a5K false)))))) (.region a5J false)))
def b0B : List AIns := [⟨some 112, none, .p (.mv (.t 9))⟩,
  ⟨some 113, none, .p (.mv (.t 13))⟩,
  ⟨some 114, none, .p (.bin .sub (.t 112) (.t 113))⟩,
  ⟨some 9, none, .p (.mv (.t 114))⟩]
def b2S : ACode := .seq (.seq (.region a3t false) (.cond (.t 79) (.skip) (.exit 2))) (.block 3 (.seq (.region b0H false) (.seq (.region b0G false) (.seq (.seq (.region b0F false) (.block 4 (.loop a4D))) (.region b0B false)))))
def a3s : List AIns := [⟨some 115, none, .p (.mv (.t 7))⟩,
  ⟨some 116, none, .p (.conv .u32 (.t 115))⟩,
  ⟨some 4, none, .p (.mv (.t 116))⟩]
def c2G : ACode := .seq (.region b2R false) (.seq (.region b2Q false) (.seq (.region b2P true) (.seq (.region b2O false) (.seq (.region b2N false) (.seq (.seq (.region b2M false) (.block 0 (.loop a4E))) (.seq (.block 2 (.loop b2S)) (.seq (.region a3s false) (.ret))))))))
theorem c1i : fchk Pr (fun _ _ => false) Try.f124 = some (c2G, [.tmp 4], 117) := by kernel_rfl
theorem c1j : Pr.funcs[a6g]? = some Try.f124 := Try.func124
def b8h : List AIns := [⟨some 4, none, .p (.mv (.c (.nil)))⟩]
def b8g : List AIns := [⟨some 10, none, .p (.mv (.t 0))⟩,
  ⟨some 11, none, .call a0i [(.t 10)]⟩,
  ⟨some 0, none, .p (.mv (.t 11))⟩]
def b8f : List AIns := [⟨some 12, none, .p (.mv (.t 1))⟩,
  ⟨some 13, none, .p (.bin .quo (.t 12) (.c (.int .i64 32)))⟩,
  ⟨some 14, none, .p (.mv (.t 1))⟩,
  ⟨some 15, none, .p (.bin .rem (.t 14) (.c (.int .i64 32)))⟩,
  ⟨some 16, none, .p (.conv .u64 (.t 15))⟩,
  ⟨some 5, none, .p (.mv (.t 13))⟩,
  ⟨some 6, none, .p (.mv (.t 16))⟩]
def b1B : List AIns := [⟨some 17, none, .p (.mv (.t 5))⟩,
  ⟨some 18, none, .p (.mv (.t 0))⟩,
  ⟨some 19, none, .p (.len (.t 18))⟩,
  ⟨some 20, none, .p (.bin .geq (.t 17) (.t 19))⟩]
def b8e : List AIns := [⟨some 4, none, .p (.mv (.c (.nil)))⟩]
def b8d : List AIns := [⟨some 21, none, .p (.mv (.t 0))⟩,
  ⟨some 22, none, .p (.len (.t 21))⟩,
  ⟨some 23, none, .p (.mv (.t 5))⟩,
  ⟨some 24, none, .p (.bin .sub (.t 22) (.t 23))⟩,
  ⟨some 25, none, .e (.mksl 1 4 (.int .u32 0) (.t 24) (.t 24))⟩,
  ⟨some 7, none, .p (.mv (.t 25))⟩]
def b8c : List AIns := [⟨some 26, none, .p (.mv (.t 7))⟩,
  ⟨some 27, none, .p (.len (.t 26))⟩,
  ⟨some 28, none, .p (.mv (.c (.int .i64 0)))⟩]
def b1A : List AIns := [⟨some 29, none, .p (.bin .lss (.t 28) (.t 27))⟩]
def b8b : List AIns := [⟨some 30, none, .p (.mv (.t 28))⟩,
  ⟨some 8, none, .p (.mv (.t 30))⟩]
def b8a : List AIns := [⟨some 31, none, .p (.mv (.t 0))⟩,
  ⟨some 32, none, .p (.mv (.t 8))⟩,
  ⟨some 33, none, .p (.mv (.t 5))⟩,
  ⟨some 34, none, .p (.bin .add (.t 32) (.t 33))⟩,
  ⟨some 35, none, .p (.idxp 1 (.t 31) (.t 34))⟩,
  ⟨some 36, none, .p (.load none (.t 35))⟩,
  ⟨some 37, none, .p (.conv .u64 (.t 36))⟩,
  ⟨some 9, none, .p (.mv (.t 37))⟩]
def a9H : List AIns := [⟨some 38, none, .p (.mv (.t 8))⟩,
  ⟨some 39, none, .p (.mv (.t 5))⟩,
  ⟨some 40, none, .p (.bin .add (.t 38) (.t 39))⟩,
  ⟨some 41, none, .p (.bin .add (.t 40) (.c (.int .i64 1)))⟩,
  ⟨some 42, none, .p (.mv (.t 0))⟩,
  ⟨some 43, none, .p (.len (.t 42))⟩,
  ⟨some 44, none, .p (.bin .lss (.t 41) (.t 43))⟩]
def b4X : List AIns := [⟨some 45, none, .p (.mv (.t 9))⟩,
  ⟨some 46, none, .p (.mv (.t 0))⟩,
  ⟨some 47, none, .p (.mv (.t 8))⟩,
  ⟨some 48, none, .p (.mv (.t 5))⟩,
  ⟨some 49, none, .p (.bin .add (.t 47) (.t 48))⟩,
  ⟨some 50, none, .p (.bin .add (.t 49) (.c (.int .i64 1)))⟩,
  ⟨some 51, none, .p (.idxp 1 (.t 46) (.t 50))⟩,
  ⟨some 52, none, .p (.load none (.t 51))⟩,
  ⟨some 53, none, .p (.conv .u64 (.t 52))⟩,
  ⟨some 54, none, .p (.bin .shl (.t 53) (.c (.int .u64 32)))⟩,
  ⟨some 55, none, .p (.bin .or (.t 45) (.t 54))⟩,
  ⟨some 9, none, .p (.mv (.t 55))⟩]
def a9G : List AIns := [⟨some 56, none, .p (.mv (.t 7))⟩,
  ⟨some 57, none, .p (.mv (.t 8))⟩,
  ⟨some 58, none, .p (.mv (.t 9))⟩,
  ⟨some 59, none, .p (.mv (.t 6))⟩,
  ⟨some 60, none, .p (.bin .shr (.t 58) (.t 59))⟩,
  ⟨some 61, none, .p (.conv .u32 (.t 60))⟩,
  ⟨some 62, none, .p (.idxp 1 (.t 56) (.t 57))⟩,
  ⟨none, none, .e (.store 1 (.t 62) (.t 61))⟩]
def a9F : List AIns := [⟨some 63, none, .p (.bin .add (.t 28) (.c (.int .i64 1)))⟩,
  ⟨some 28, none, .p (.mv (.t 63))⟩]
def b8i : ACode := .seq (.region b1A false) (.seq (.cond (.t 29) (.skip) (.exit 0)) (.seq (.block 1 (.seq (.region b8b false) (.seq (.region b8a false) (.seq (.seq (.region a9H false) (.cond (.t 44) (.region b4X false) (.skip))) (.region a9G false))))) (.region a9F false)))
def a9E : List AIns := [⟨some 64, none, .p (.mv (.t 7))⟩,
  ⟨some 65, none, .call a0i [(.t 64)]⟩,
  ⟨some 4, none, .p (.mv (.t 65))⟩]
def c7A : ACode := .seq (.region b8h false) (.seq (.region b8g false) (.seq (.region b8f false) (.seq (.seq (.region b1B false) (.cond (.t 20) (.seq (.region b8e false) (.ret)) (.skip))) (.seq (.region b8d false) (.seq (.seq (.region b8c false) (.block 0 (.loop b8i))) (.seq (.region a9E false) (.ret)))))))
theorem c5w : fchk Pr (fun _ _ => false) Try.f125 = some (c7A, [.tmp 4], 66) := by kernel_rfl
theorem c5x : Pr.funcs[b1m]? = some Try.f125 := Try.func125
def b5j : List AIns := [⟨some 4, none, .p (.mv (.c (.nil)))⟩]
def b5i : List AIns := [⟨some 9, none, .p (.mv (.t 0))⟩,
  ⟨some 10, none, .p (.len (.t 9))⟩,
  ⟨some 11, none, .e (.mksl 1 4 (.int .u32 0) (.t 10) (.t 10))⟩,
  ⟨some 5, none, .p (.mv (.t 11))⟩]
def b5h : List AIns := [⟨some 6, none, .p (.mv (.c (.int .u64 0)))⟩]
def b5g : List AIns := [⟨some 12, none, .p (.mv (.t 0))⟩,
  ⟨some 13, none, .p (.len (.t 12))⟩,
  ⟨some 14, none, .p (.mv (.c (.int .i64 0)))⟩]
def a9J : List AIns := [⟨some 15, none, .p (.bin .lss (.t 14) (.t 13))⟩]
def b5f : List AIns := [⟨some 16, none, .p (.mv (.t 14))⟩,
  ⟨some 7, none, .p (.mv (.t 16))⟩]
def b5e : List AIns := [⟨some 17, none, .p (.mv (.t 0))⟩,
  ⟨some 18, none, .p (.mv (.t 7))⟩,
  ⟨some 19, none, .p (.idxp 1 (.t 17) (.t 18))⟩,
  ⟨some 20, none, .p (.load none (.t 19))⟩,
  ⟨some 21, none, .p (.conv .u64 (.t 20))⟩,
  ⟨some 22, none, .p (.mv (.t 6))⟩,
  ⟨some 23, none, .p (.bin .sub (.t 21) (.t 22))⟩,
  ⟨some 8, none, .p (.mv (.t 23))⟩]
def b5d : List AIns := [⟨some 24, none, .p (.mv (.t 7))⟩,
  ⟨some 25, none, .p (.mv (.t 1))⟩,
  ⟨some 26, none, .p (.len (.t 25))⟩,
  ⟨some 27, none, .p (.bin .lss (.t 24) (.t 26))⟩]
def b5c : List AIns := [⟨some 28, none, .p (.mv (.t 8))⟩,
  ⟨some 29, none, .p (.mv (.t 1))⟩,
  ⟨some 30, none, .p (.mv (.t 7))⟩,
  ⟨some 31, none, .p (.idxp 1 (.t 29) (.t 30))⟩,
  ⟨some 32, none, .p (.load none (.t 31))⟩,
  ⟨some 33, none, .p (.conv .u64 (.t 32))⟩,
  ⟨some 34, none, .p (.bin .sub (.t 28) (.t 33))⟩,
  ⟨some 8, none, .p (.mv (.t 34))⟩]
def a9I : List AIns := [⟨some 35, none, .p (.mv (.t 5))⟩,
  ⟨some 36, none, .p (.mv (.t 7))⟩,
  ⟨some 37, none, .p (.mv (.t 8))⟩,
  ⟨some 38, none, .p (.conv .u32 (.t 37))⟩,
  ⟨some 39, none, .p (.idxp 1 (.t 35) (.t 36))⟩,
  ⟨none, none, .e (.store 1 (.t 39) (.t 38))⟩]
def a7l : List AIns := [⟨some 40, none, .p (.mv (.t 8))⟩,
  ⟨some 41, none, .p (.bin .shr (.t 40) (.c (.int .u64 63)))⟩,
  ⟨some 6, none, .p (.mv (.t 41))⟩]
def a7k : List AIns := [⟨some 42, none, .p (.bin .add (.t 14) (.c (.int .i64 1)))⟩,
  ⟨some 14, none, .p (.mv (.t 42))⟩]
def a9K : ACode := .seq (.region a9J false) (.seq (.cond (.t 15) (.skip) (.exit 0)) (.seq (.block 1 (.seq (.region b5f false) (.seq (.region b5e false) (.seq (.seq (.region b5d false) (.cond (.t 27) (.region b5c false) (.skip))) (.seq (.region a9I false) (.region a7l false)))))) (.region a7k false)))
def a4C : List AIns := [⟨some 43, none, .p (.mv (.t 5))⟩,
  ⟨some 44, none, .call a0i [(.t 43)]⟩,
  ⟨some 4, none, .p (.mv (.t 44))⟩]
def c5C : ACode := .seq (.region b5j false) (.seq (.region b5i false) (.seq (.region b5h false) (.seq (.seq (.region b5g false) (.block 0 (.loop a9K))) (.seq (.region a4C false) (.ret)))))
theorem c2E : fchk Pr (fun _ _ => false) Try.f136 = some (c5C, [.tmp 4], 45) := by kernel_rfl
theorem c2F : Pr.funcs[a5v]? = some Try.f136 := Try.func136
end Go.Abs

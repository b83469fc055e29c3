/- The abstract code of the functions, printed by gen.py; the kernel checks it against the translation. -/
import Derived.Test.YtofbhhncpjegfaaNum
set_option maxRecDepth 100000
noncomputable section
namespace Go.Abs
open Go.Proofs
/-! trammellaw04.MatSames -/
def law04_MatSames_r0 : List AIns := [⟨some 4, none, .p (.mv (.c (.bool false)))⟩]
def law04_MatSames_r1 : List AIns := [⟨some 5, none, .p (.mv (.t 0))⟩,
  ⟨some 6, none, .call F_law04_ownm [(.t 5)]⟩,
  ⟨some 7, none, .p (.mv (.t 1))⟩,
  ⟨some 8, none, .call F_law04_ownm [(.t 7)]⟩,
  ⟨some 9, none, .call F_mat_Same [(.t 6), (.t 8)]⟩,
  ⟨some 10, none, .p (.mv (.t 0))⟩,
  ⟨some 11, none, .p (.mv (.t 1))⟩,
  ⟨some 12, none, .call F_ref04_Same [(.t 10), (.t 11)]⟩,
  ⟨some 13, none, .p (.beq false (.t 9) (.t 12))⟩,
  ⟨some 14, none, .p (.mv (.t 13))⟩,
  ⟨some 15, some (14, true), .p (.mv (.t 0))⟩,
  ⟨some 16, some (14, true), .call F_law04_ownm [(.t 15)]⟩,
  ⟨some 17, some (14, true), .p (.mv (.t 0))⟩,
  ⟨some 18, some (14, true), .call F_ref04_Form [(.t 17)]⟩,
  ⟨some 19, some (14, true), .call F_mat_Same [(.t 16), (.t 18)]⟩,
  ⟨some 20, none, .p (.pick (.t 14) (.t 19) (.c (.bool false)))⟩,
  ⟨some 4, none, .p (.mv (.t 20))⟩]
def law04_MatSames_c : ACode := .seq (.region law04_MatSames_r0 false) (.seq (.region law04_MatSames_r1 false) (.ret))
theorem law04_MatSames_ok : fchk Pr (fun _ _ => false) Try.f3 = some (law04_MatSames_c, [.tmp 4], 21) := by kernel_rfl
theorem law04_MatSames_fn : Pr.funcs[F_law04_MatSames]? = some Try.f3 := Try.func3
/-! trammellaw04.MatShapes -/
def law04_MatShapes_r0 : List AIns := [⟨some 4, none, .p (.mv (.c (.bool false)))⟩]
def law04_MatShapes_r1 : List AIns := [⟨some 14, none, .p (.mv (.t 0))⟩,
  ⟨some 15, none, .call F_law04_ownm [(.t 14)]⟩,
  ⟨some 16, none, .call F_mat_Shape [(.t 15)]⟩,
  ⟨some 13, none, .p (.mv (.t 16))⟩,
  ⟨some 17, none, .p (.ext (.t 13) 0)⟩,
  ⟨some 18, none, .p (.ext (.t 13) 1)⟩,
  ⟨some 19, none, .p (.ext (.t 13) 2)⟩,
  ⟨some 5, none, .p (.mv (.t 17))⟩,
  ⟨some 6, none, .p (.mv (.t 18))⟩,
  ⟨some 7, none, .p (.mv (.t 19))⟩]
def law04_MatShapes_r2 : List AIns := [⟨some 21, none, .p (.mv (.t 0))⟩,
  ⟨some 22, none, .call F_ref04_Shape [(.t 21)]⟩,
  ⟨some 20, none, .p (.mv (.t 22))⟩,
  ⟨some 23, none, .p (.ext (.t 20) 0)⟩,
  ⟨some 24, none, .p (.ext (.t 20) 1)⟩,
  ⟨some 25, none, .p (.ext (.t 20) 2)⟩,
  ⟨some 8, none, .p (.mv (.t 23))⟩,
  ⟨some 9, none, .p (.mv (.t 24))⟩,
  ⟨some 10, none, .p (.mv (.t 25))⟩]
def law04_MatShapes_r3 : List AIns := [⟨some 26, none, .p (.mv (.t 7))⟩,
  ⟨some 27, none, .p (.mv (.t 10))⟩,
  ⟨some 28, none, .p (.bin .neq (.t 26) (.t 27))⟩,
  ⟨some 29, none, .p (.mv (.t 28))⟩,
  ⟨some 30, some (29, false), .p (.mv (.t 5))⟩,
  ⟨some 31, some (29, false), .p (.mv (.t 8))⟩,
  ⟨some 32, some (29, false), .p (.bin .neq (.t 30) (.t 31))⟩,
  ⟨some 33, none, .p (.pick (.t 29) (.c (.bool true)) (.t 32))⟩,
  ⟨some 34, none, .p (.mv (.t 33))⟩,
  ⟨some 35, some (34, false), .p (.mv (.t 6))⟩,
  ⟨some 36, some (34, false), .p (.mv (.t 9))⟩,
  ⟨some 37, some (34, false), .p (.bin .neq (.t 35) (.t 36))⟩,
  ⟨some 38, none, .p (.pick (.t 34) (.c (.bool true)) (.t 37))⟩,
  ⟨some 39, none, .p (.mv (.t 38))⟩,
  ⟨some 40, some (39, false), .p (.mv (.t 0))⟩,
  ⟨some 41, some (39, false), .call F_law04_ownm [(.t 40)]⟩,
  ⟨some 42, some (39, false), .call F_mat_Bits [(.t 41)]⟩,
  ⟨some 43, some (39, false), .p (.mv (.t 0))⟩,
  ⟨some 44, some (39, false), .call F_ref04_Bits [(.t 43)]⟩,
  ⟨some 45, some (39, false), .p (.bin .neq (.t 42) (.t 44))⟩,
  ⟨some 46, none, .p (.pick (.t 39) (.c (.bool true)) (.t 45))⟩]
def law04_MatShapes_r4 : List AIns := [⟨some 4, none, .p (.mv (.c (.bool false)))⟩]
def law04_MatShapes_r5 : List AIns := [⟨some 48, none, .p (.mv (.t 1))⟩,
  ⟨some 49, none, .call F_mat_Unit [(.t 48)]⟩,
  ⟨some 47, none, .p (.mv (.t 49))⟩,
  ⟨some 50, none, .p (.ext (.t 47) 0)⟩,
  ⟨some 51, none, .p (.ext (.t 47) 1)⟩,
  ⟨some 11, none, .p (.mv (.t 50))⟩,
  ⟨some 7, none, .p (.mv (.t 51))⟩]
def law04_MatShapes_r6 : List AIns := [⟨some 53, none, .p (.mv (.t 1))⟩,
  ⟨some 54, none, .call F_ref04_Unit [(.t 53)]⟩,
  ⟨some 52, none, .p (.mv (.t 54))⟩,
  ⟨some 55, none, .p (.ext (.t 52) 0)⟩,
  ⟨some 56, none, .p (.ext (.t 52) 1)⟩,
  ⟨some 12, none, .p (.mv (.t 55))⟩,
  ⟨some 10, none, .p (.mv (.t 56))⟩]
def law04_MatShapes_r7 : List AIns := [⟨some 57, none, .p (.mv (.t 7))⟩,
  ⟨some 58, none, .p (.mv (.t 10))⟩,
  ⟨some 59, none, .p (.bin .eql (.t 57) (.t 58))⟩,
  ⟨some 60, none, .p (.mv (.t 59))⟩,
  ⟨some 61, some (60, true), .p (.mv (.t 11))⟩,
  ⟨some 62, some (60, true), .p (.mv (.t 12))⟩,
  ⟨some 63, some (60, true), .call F_law04_eqm [(.t 61), (.t 62)]⟩,
  ⟨some 64, none, .p (.pick (.t 60) (.t 63) (.c (.bool false)))⟩,
  ⟨some 65, none, .p (.mv (.t 64))⟩,
  ⟨some 66, some (65, true), .p (.mv (.t 0))⟩,
  ⟨some 67, some (65, true), .call F_law04_ownm [(.t 66)]⟩,
  ⟨some 68, some (65, true), .call F_mat_Form [(.t 67)]⟩,
  ⟨some 69, some (65, true), .p (.mv (.t 0))⟩,
  ⟨some 70, some (65, true), .call F_ref04_Form [(.t 69)]⟩,
  ⟨some 71, some (65, true), .call F_law04_eqm [(.t 68), (.t 70)]⟩,
  ⟨some 72, none, .p (.pick (.t 65) (.t 71) (.c (.bool false)))⟩,
  ⟨some 4, none, .p (.mv (.t 72))⟩]
def law04_MatShapes_c : ACode := .seq (.region law04_MatShapes_r0 false) (.seq (.region law04_MatShapes_r1 false) (.seq (.region law04_MatShapes_r2 false) (.seq (.seq (.region law04_MatShapes_r3 false) (.cond (.t 46) (.seq (.region law04_MatShapes_r4 false) (.ret)) (.skip))) (.seq (.region law04_MatShapes_r5 false) (.seq (.region law04_MatShapes_r6 false) (.seq (.region law04_MatShapes_r7 false) (.ret)))))))
theorem law04_MatShapes_ok : fchk Pr (fun _ _ => false) Try.f4 = some (law04_MatShapes_c, [.tmp 4], 73) := by kernel_rfl
theorem law04_MatShapes_fn : Pr.funcs[F_law04_MatShapes]? = some Try.f4 := Try.func4
/-! trammellaw04.MatOrders -/
def law04_MatOrders_r0 : List AIns := [⟨some 4, none, .p (.mv (.c (.bool false)))⟩]
def law04_MatOrders_r1 : List AIns := [⟨some 5, none, .p (.mv (.t 0))⟩,
  ⟨some 6, none, .call F_law04_owns [(.t 5)]⟩,
  ⟨some 7, none, .p (.mv (.t 1))⟩,
  ⟨some 8, none, .call F_law04_owns [(.t 7)]⟩,
  ⟨some 9, none, .call F_mat_Order [(.t 6), (.t 8)]⟩,
  ⟨some 10, none, .p (.mv (.t 0))⟩,
  ⟨some 11, none, .p (.mv (.t 1))⟩,
  ⟨some 12, none, .call F_ref04_Order [(.t 10), (.t 11)]⟩,
  ⟨some 13, none, .p (.bin .eql (.t 9) (.t 12))⟩,
  ⟨some 14, none, .p (.mv (.t 13))⟩,
  ⟨some 15, some (14, true), .p (.mv (.t 0))⟩,
  ⟨some 16, some (14, true), .call F_law04_owns [(.t 15)]⟩,
  ⟨some 17, some (14, true), .call F_mat_Lead [(.t 16)]⟩,
  ⟨some 18, some (14, true), .p (.mv (.t 0))⟩,
  ⟨some 19, some (14, true), .call F_ref04_Lead [(.t 18)]⟩,
  ⟨some 20, some (14, true), .p (.bin .eql (.t 17) (.t 19))⟩,
  ⟨some 21, none, .p (.pick (.t 14) (.t 20) (.c (.bool false)))⟩,
  ⟨some 22, none, .p (.mv (.t 21))⟩,
  ⟨some 23, some (22, true), .p (.mv (.t 0))⟩,
  ⟨some 24, some (22, true), .call F_law04_owns [(.t 23)]⟩,
  ⟨some 25, some (22, true), .call F_mat_Upright [(.t 24)]⟩,
  ⟨some 26, some (22, true), .p (.mv (.t 0))⟩,
  ⟨some 27, some (22, true), .call F_ref04_Upright [(.t 26)]⟩,
  ⟨some 28, some (22, true), .call F_law04_eqs [(.t 25), (.t 27)]⟩,
  ⟨some 29, none, .p (.pick (.t 22) (.t 28) (.c (.bool false)))⟩,
  ⟨some 4, none, .p (.mv (.t 29))⟩]
def law04_MatOrders_c : ACode := .seq (.region law04_MatOrders_r0 false) (.seq (.region law04_MatOrders_r1 false) (.ret))
theorem law04_MatOrders_ok : fchk Pr (fun _ _ => false) Try.f5 = some (law04_MatOrders_c, [.tmp 4], 30) := by kernel_rfl
theorem law04_MatOrders_fn : Pr.funcs[F_law04_MatOrders]? = some Try.f5 := Try.func5
/-! trammellaw04.MatVectors -/
def law04_MatVectors_r0 : List AIns := [⟨some 5, none, .e (.box 2 (.t 2))⟩,
  ⟨some 6, none, .p (.mv (.c (.bool false)))⟩]
def law04_MatVectors_r1 : List AIns := [⟨some 15, none, .p (.mv (.t 0))⟩,
  ⟨some 16, none, .call F_law04_owns [(.t 15)]⟩,
  ⟨some 17, none, .p (.mv (.t 1))⟩,
  ⟨some 18, none, .call F_law04_owns [(.t 17)]⟩,
  ⟨some 7, none, .p (.mv (.t 16))⟩,
  ⟨some 8, none, .p (.mv (.t 18))⟩]
def law04_MatVectors_r2 : List AIns := [⟨some 20, none, .p (.mv (.t 7))⟩,
  ⟨some 21, none, .p (.mv (.t 8))⟩,
  ⟨some 22, none, .call F_mat_Dot [(.t 20), (.t 21)]⟩,
  ⟨some 19, none, .p (.mv (.t 22))⟩,
  ⟨some 23, none, .p (.ext (.t 19) 0)⟩,
  ⟨some 24, none, .p (.ext (.t 19) 1)⟩,
  ⟨some 9, none, .e (.box 2 (.c (.agg [.bool false, .nil])))⟩,
  ⟨none, none, .e (.store 2 (.t 9) (.t 23))⟩,
  ⟨some 10, none, .p (.mv (.t 24))⟩]
def law04_MatVectors_r3 : List AIns := [⟨some 26, none, .p (.mv (.t 0))⟩,
  ⟨some 27, none, .p (.mv (.t 1))⟩,
  ⟨some 28, none, .call F_ref04_Dot [(.t 26), (.t 27)]⟩,
  ⟨some 25, none, .p (.mv (.t 28))⟩,
  ⟨some 29, none, .p (.ext (.t 25) 0)⟩,
  ⟨some 30, none, .p (.ext (.t 25) 1)⟩,
  ⟨some 11, none, .e (.box 2 (.c (.agg [.bool false, .nil])))⟩,
  ⟨none, none, .e (.store 2 (.t 11) (.t 29))⟩,
  ⟨some 12, none, .p (.mv (.t 30))⟩]
def law04_MatVectors_r4 : List AIns := [⟨some 31, none, .p (.mv (.t 10))⟩,
  ⟨some 32, none, .p (.mv (.t 12))⟩,
  ⟨some 33, none, .p (.bin .neq (.t 31) (.t 32))⟩,
  ⟨some 34, none, .p (.mv (.t 33))⟩,
  ⟨some 35, some (34, false), .p (.load (some 2) (.t 9))⟩,
  ⟨some 36, some (34, false), .p (.load (some 2) (.t 11))⟩,
  ⟨some 37, some (34, false), .call F_law04_eq [(.t 35), (.t 36)]⟩,
  ⟨some 38, some (34, false), .p (.un .not (.t 37))⟩,
  ⟨some 39, none, .p (.pick (.t 34) (.c (.bool true)) (.t 38))⟩,
  ⟨some 40, none, .p (.mv (.t 39))⟩,
  ⟨some 41, some (40, false), .p (.mv (.t 7))⟩,
  ⟨some 42, some (40, false), .call F_mat_Norm [(.t 41)]⟩,
  ⟨some 43, some (40, false), .p (.mv (.t 0))⟩,
  ⟨some 44, some (40, false), .call F_ref04_Norm [(.t 43)]⟩,
  ⟨some 45, some (40, false), .call F_law04_eq [(.t 42), (.t 44)]⟩,
  ⟨some 46, some (40, false), .p (.un .not (.t 45))⟩,
  ⟨some 47, none, .p (.pick (.t 40) (.c (.bool true)) (.t 46))⟩,
  ⟨some 48, none, .p (.mv (.t 47))⟩,
  ⟨some 49, some (48, false), .p (.load (some 2) (.t 5))⟩,
  ⟨some 50, some (48, false), .call F_law04_own [(.t 49)]⟩,
  ⟨some 51, some (48, false), .p (.mv (.t 7))⟩,
  ⟨some 52, some (48, false), .call F_mat_Times [(.t 50), (.t 51)]⟩,
  ⟨some 53, some (48, false), .p (.load (some 2) (.t 5))⟩,
  ⟨some 54, some (48, false), .p (.mv (.t 0))⟩,
  ⟨some 55, some (48, false), .call F_ref04_Times [(.t 53), (.t 54)]⟩,
  ⟨some 56, some (48, false), .call F_law04_eqs [(.t 52), (.t 55)]⟩,
  ⟨some 57, some (48, false), .p (.un .not (.t 56))⟩,
  ⟨some 58, none, .p (.pick (.t 48) (.c (.bool true)) (.t 57))⟩]
def law04_MatVectors_r5 : List AIns := [⟨some 6, none, .p (.mv (.c (.bool false)))⟩]
def law04_MatVectors_r6 : List AIns := [⟨some 60, none, .p (.mv (.t 7))⟩,
  ⟨some 61, none, .p (.mv (.t 8))⟩,
  ⟨some 62, none, .call F_mat_Plus [(.t 60), (.t 61)]⟩,
  ⟨some 59, none, .p (.mv (.t 62))⟩,
  ⟨some 63, none, .p (.ext (.t 59) 0)⟩,
  ⟨some 64, none, .p (.ext (.t 59) 1)⟩,
  ⟨some 13, none, .p (.mv (.t 63))⟩,
  ⟨some 10, none, .p (.mv (.t 64))⟩]
def law04_MatVectors_r7 : List AIns := [⟨some 66, none, .p (.mv (.t 0))⟩,
  ⟨some 67, none, .p (.mv (.t 1))⟩,
  ⟨some 68, none, .call F_ref04_Plus [(.t 66), (.t 67)]⟩,
  ⟨some 65, none, .p (.mv (.t 68))⟩,
  ⟨some 69, none, .p (.ext (.t 65) 0)⟩,
  ⟨some 70, none, .p (.ext (.t 65) 1)⟩,
  ⟨some 14, none, .p (.mv (.t 69))⟩,
  ⟨some 12, none, .p (.mv (.t 70))⟩]
def law04_MatVectors_r8 : List AIns := [⟨some 71, none, .p (.mv (.t 10))⟩,
  ⟨some 72, none, .p (.mv (.t 12))⟩,
  ⟨some 73, none, .p (.bin .neq (.t 71) (.t 72))⟩,
  ⟨some 74, none, .p (.mv (.t 73))⟩,
  ⟨some 75, some (74, false), .p (.mv (.t 13))⟩,
  ⟨some 76, some (74, false), .p (.mv (.t 14))⟩,
  ⟨some 77, some (74, false), .call F_law04_eqs [(.t 75), (.t 76)]⟩,
  ⟨some 78, some (74, false), .p (.un .not (.t 77))⟩,
  ⟨some 79, none, .p (.pick (.t 74) (.c (.bool true)) (.t 78))⟩]
def law04_MatVectors_r9 : List AIns := [⟨some 6, none, .p (.mv (.c (.bool false)))⟩]
def law04_MatVectors_r10 : List AIns := [⟨some 81, none, .p (.mv (.t 7))⟩,
  ⟨some 82, none, .p (.mv (.t 8))⟩,
  ⟨some 83, none, .call F_mat_Minus [(.t 81), (.t 82)]⟩,
  ⟨some 80, none, .p (.mv (.t 83))⟩,
  ⟨some 84, none, .p (.ext (.t 80) 0)⟩,
  ⟨some 85, none, .p (.ext (.t 80) 1)⟩,
  ⟨some 13, none, .p (.mv (.t 84))⟩,
  ⟨some 10, none, .p (.mv (.t 85))⟩]
def law04_MatVectors_r11 : List AIns := [⟨some 87, none, .p (.mv (.t 0))⟩,
  ⟨some 88, none, .p (.mv (.t 1))⟩,
  ⟨some 89, none, .call F_ref04_Minus [(.t 87), (.t 88)]⟩,
  ⟨some 86, none, .p (.mv (.t 89))⟩,
  ⟨some 90, none, .p (.ext (.t 86) 0)⟩,
  ⟨some 91, none, .p (.ext (.t 86) 1)⟩,
  ⟨some 14, none, .p (.mv (.t 90))⟩,
  ⟨some 12, none, .p (.mv (.t 91))⟩]
def law04_MatVectors_r12 : List AIns := [⟨some 92, none, .p (.mv (.t 10))⟩,
  ⟨some 93, none, .p (.mv (.t 12))⟩,
  ⟨some 94, none, .p (.bin .eql (.t 92) (.t 93))⟩,
  ⟨some 95, none, .p (.mv (.t 94))⟩,
  ⟨some 96, some (95, true), .p (.mv (.t 13))⟩,
  ⟨some 97, some (95, true), .p (.mv (.t 14))⟩,
  ⟨some 98, some (95, true), .call F_law04_eqs [(.t 96), (.t 97)]⟩,
  ⟨some 99, none, .p (.pick (.t 95) (.t 98) (.c (.bool false)))⟩,
  ⟨some 100, none, .p (.mv (.t 99))⟩,
  ⟨some 101, some (100, true), .p (.mv (.t 7))⟩,
  ⟨some 102, some (100, true), .p (.mv (.t 0))⟩,
  ⟨some 103, some (100, true), .call F_law04_eqs [(.t 101), (.t 102)]⟩,
  ⟨some 104, none, .p (.pick (.t 100) (.t 103) (.c (.bool false)))⟩,
  ⟨some 105, none, .p (.mv (.t 104))⟩,
  ⟨some 106, some (105, true), .p (.mv (.t 8))⟩,
  ⟨some 107, some (105, true), .p (.mv (.t 1))⟩,
  ⟨some 108, some (105, true), .call F_law04_eqs [(.t 106), (.t 107)]⟩,
  ⟨some 109, none, .p (.pick (.t 105) (.t 108) (.c (.bool false)))⟩,
  ⟨some 6, none, .p (.mv (.t 109))⟩]
def law04_MatVectors_c : ACode := .seq (.region law04_MatVectors_r0 false) (.seq (.region law04_MatVectors_r1 false) (.seq (.region law04_MatVectors_r2 false) (.seq (.region law04_MatVectors_r3 false) (.seq (.seq (.region law04_MatVectors_r4 true) (.cond (.t 58) (.seq (.region law04_MatVectors_r5 false) (.ret)) (.skip))) (.seq (.region law04_MatVectors_r6 false) (.seq (.region law04_MatVectors_r7 false) (.seq (.seq (.region law04_MatVectors_r8 false) (.cond (.t 79) (.seq (.region law04_MatVectors_r9 false) (.ret)) (.skip))) (.seq (.region law04_MatVectors_r10 false) (.seq (.region law04_MatVectors_r11 false) (.seq (.region law04_MatVectors_r12 false) (.ret)))))))))))
theorem law04_MatVectors_ok : fchk Pr (fun _ _ => false) Try.f6 = some (law04_MatVectors_c, [.tmp 6], 110) := by kernel_rfl
theorem law04_MatVectors_fn : Pr.funcs[F_law04_MatVectors]? = some Try.f6 := Try.func6
/-! trammellaw04.MatTexts -/
def law04_MatTexts_r0 : List AIns := [⟨some 4, none, .p (.mv (.c (.bool false)))⟩]
def law04_MatTexts_r1 : List AIns := [⟨some 5, none, .p (.mv (.t 0))⟩,
  ⟨some 6, none, .call F_law04_ownm [(.t 5)]⟩,
  ⟨some 7, none, .call F_mat_Text [(.t 6)]⟩,
  ⟨some 8, none, .p (.mv (.t 0))⟩,
  ⟨some 9, none, .call F_ref04_Text [(.t 8)]⟩,
  ⟨some 10, none, .p (.bin .eql (.t 7) (.t 9))⟩,
  ⟨some 11, none, .p (.mv (.t 10))⟩,
  ⟨some 12, some (11, true), .p (.mv (.t 1))⟩,
  ⟨some 13, some (11, true), .call F_law04_owns [(.t 12)]⟩,
  ⟨some 14, some (11, true), .call F_mat_TextVector [(.t 13)]⟩,
  ⟨some 15, some (11, true), .p (.mv (.t 1))⟩,
  ⟨some 16, some (11, true), .call F_ref04_TextVector [(.t 15)]⟩,
  ⟨some 17, some (11, true), .p (.bin .eql (.t 14) (.t 16))⟩,
  ⟨some 18, none, .p (.pick (.t 11) (.t 17) (.c (.bool false)))⟩,
  ⟨some 4, none, .p (.mv (.t 18))⟩]
def law04_MatTexts_c : ACode := .seq (.region law04_MatTexts_r0 false) (.seq (.region law04_MatTexts_r1 false) (.ret))
theorem law04_MatTexts_ok : fchk Pr (fun _ _ => false) Try.f7 = some (law04_MatTexts_c, [.tmp 4], 19) := by kernel_rfl
theorem law04_MatTexts_fn : Pr.funcs[F_law04_MatTexts]? = some Try.f7 := Try.func7
/-! trammellaw04.MatProducts -/
def law04_MatProducts_r0 : List AIns := [⟨some 6, none, .p (.mv (.c (.bool false)))⟩]
def law04_MatProducts_r1 : List AIns := [⟨some 14, none, .p (.mv (.t 2))⟩,
  ⟨some 15, none, .call F_law04_owns [(.t 14)]⟩,
  ⟨some 16, none, .p (.mv (.t 1))⟩,
  ⟨some 17, none, .call F_law04_ownm [(.t 16)]⟩,
  ⟨some 18, none, .call F_mat_Combine [(.t 15), (.t 17)]⟩,
  ⟨some 13, none, .p (.mv (.t 18))⟩,
  ⟨some 19, none, .p (.ext (.t 13) 0)⟩,
  ⟨some 20, none, .p (.ext (.t 13) 1)⟩,
  ⟨some 7, none, .p (.mv (.t 19))⟩,
  ⟨some 8, none, .p (.mv (.t 20))⟩]
def law04_MatProducts_r2 : List AIns := [⟨some 22, none, .p (.mv (.t 2))⟩,
  ⟨some 23, none, .p (.mv (.t 1))⟩,
  ⟨some 24, none, .call F_ref04_Combine [(.t 22), (.t 23)]⟩,
  ⟨some 21, none, .p (.mv (.t 24))⟩,
  ⟨some 25, none, .p (.ext (.t 21) 0)⟩,
  ⟨some 26, none, .p (.ext (.t 21) 1)⟩,
  ⟨some 9, none, .p (.mv (.t 25))⟩,
  ⟨some 10, none, .p (.mv (.t 26))⟩]
def law04_MatProducts_r3 : List AIns := [⟨some 27, none, .p (.mv (.t 8))⟩,
  ⟨some 28, none, .p (.mv (.t 10))⟩,
  ⟨some 29, none, .p (.bin .neq (.t 27) (.t 28))⟩,
  ⟨some 30, none, .p (.mv (.t 29))⟩,
  ⟨some 31, some (30, false), .p (.mv (.t 7))⟩,
  ⟨some 32, some (30, false), .p (.mv (.t 9))⟩,
  ⟨some 33, some (30, false), .call F_law04_eqs [(.t 31), (.t 32)]⟩,
  ⟨some 34, some (30, false), .p (.un .not (.t 33))⟩,
  ⟨some 35, none, .p (.pick (.t 30) (.c (.bool true)) (.t 34))⟩]
def law04_MatProducts_r4 : List AIns := [⟨some 6, none, .p (.mv (.c (.bool false)))⟩]
def law04_MatProducts_r5 : List AIns := [⟨some 37, none, .p (.mv (.t 0))⟩,
  ⟨some 38, none, .call F_law04_ownm [(.t 37)]⟩,
  ⟨some 39, none, .p (.mv (.t 1))⟩,
  ⟨some 40, none, .call F_law04_ownm [(.t 39)]⟩,
  ⟨some 41, none, .call F_mat_Product [(.t 38), (.t 40)]⟩,
  ⟨some 36, none, .p (.mv (.t 41))⟩,
  ⟨some 42, none, .p (.ext (.t 36) 0)⟩,
  ⟨some 43, none, .p (.ext (.t 36) 1)⟩,
  ⟨some 11, none, .p (.mv (.t 42))⟩,
  ⟨some 8, none, .p (.mv (.t 43))⟩]
def law04_MatProducts_r6 : List AIns := [⟨some 45, none, .p (.mv (.t 0))⟩,
  ⟨some 46, none, .p (.mv (.t 1))⟩,
  ⟨some 47, none, .call F_ref04_Product [(.t 45), (.t 46)]⟩,
  ⟨some 44, none, .p (.mv (.t 47))⟩,
  ⟨some 48, none, .p (.ext (.t 44) 0)⟩,
  ⟨some 49, none, .p (.ext (.t 44) 1)⟩,
  ⟨some 12, none, .p (.mv (.t 48))⟩,
  ⟨some 10, none, .p (.mv (.t 49))⟩]
def law04_MatProducts_r7 : List AIns := [⟨some 50, none, .p (.mv (.t 8))⟩,
  ⟨some 51, none, .p (.mv (.t 10))⟩,
  ⟨some 52, none, .p (.bin .neq (.t 50) (.t 51))⟩,
  ⟨some 53, none, .p (.mv (.t 52))⟩,
  ⟨some 54, some (53, false), .p (.mv (.t 11))⟩,
  ⟨some 55, some (53, false), .p (.mv (.t 12))⟩,
  ⟨some 56, some (53, false), .call F_law04_eqm [(.t 54), (.t 55)]⟩,
  ⟨some 57, some (53, false), .p (.un .not (.t 56))⟩,
  ⟨some 58, none, .p (.pick (.t 53) (.c (.bool true)) (.t 57))⟩]
def law04_MatProducts_r8 : List AIns := [⟨some 6, none, .p (.mv (.c (.bool false)))⟩]
def law04_MatProducts_r9 : List AIns := [⟨some 60, none, .p (.mv (.t 1))⟩,
  ⟨some 61, none, .call F_law04_ownm [(.t 60)]⟩,
  ⟨some 62, none, .call F_mat_Turn [(.t 61)]⟩,
  ⟨some 59, none, .p (.mv (.t 62))⟩,
  ⟨some 63, none, .p (.ext (.t 59) 0)⟩,
  ⟨some 64, none, .p (.ext (.t 59) 1)⟩,
  ⟨some 11, none, .p (.mv (.t 63))⟩,
  ⟨some 8, none, .p (.mv (.t 64))⟩]
def law04_MatProducts_r10 : List AIns := [⟨some 66, none, .p (.mv (.t 1))⟩,
  ⟨some 67, none, .call F_ref04_Turn [(.t 66)]⟩,
  ⟨some 65, none, .p (.mv (.t 67))⟩,
  ⟨some 68, none, .p (.ext (.t 65) 0)⟩,
  ⟨some 69, none, .p (.ext (.t 65) 1)⟩,
  ⟨some 12, none, .p (.mv (.t 68))⟩,
  ⟨some 10, none, .p (.mv (.t 69))⟩]
def law04_MatProducts_r11 : List AIns := [⟨some 70, none, .p (.mv (.t 8))⟩,
  ⟨some 71, none, .p (.mv (.t 10))⟩,
  ⟨some 72, none, .p (.bin .neq (.t 70) (.t 71))⟩,
  ⟨some 73, none, .p (.mv (.t 72))⟩,
  ⟨some 74, some (73, false), .p (.mv (.t 11))⟩,
  ⟨some 75, some (73, false), .p (.mv (.t 12))⟩,
  ⟨some 76, some (73, false), .call F_law04_eqm [(.t 74), (.t 75)]⟩,
  ⟨some 77, some (73, false), .p (.un .not (.t 76))⟩,
  ⟨some 78, none, .p (.pick (.t 73) (.c (.bool true)) (.t 77))⟩]
def law04_MatProducts_r12 : List AIns := [⟨some 6, none, .p (.mv (.c (.bool false)))⟩]
def law04_MatProducts_r13 : List AIns := [⟨some 80, none, .p (.mv (.t 1))⟩,
  ⟨some 81, none, .call F_law04_ownm [(.t 80)]⟩,
  ⟨some 82, none, .call F_mat_Gram [(.t 81)]⟩,
  ⟨some 79, none, .p (.mv (.t 82))⟩,
  ⟨some 83, none, .p (.ext (.t 79) 0)⟩,
  ⟨some 84, none, .p (.ext (.t 79) 1)⟩,
  ⟨some 11, none, .p (.mv (.t 83))⟩,
  ⟨some 8, none, .p (.mv (.t 84))⟩]
def law04_MatProducts_r14 : List AIns := [⟨some 86, none, .p (.mv (.t 1))⟩,
  ⟨some 87, none, .call F_ref04_Gram [(.t 86)]⟩,
  ⟨some 85, none, .p (.mv (.t 87))⟩,
  ⟨some 88, none, .p (.ext (.t 85) 0)⟩,
  ⟨some 89, none, .p (.ext (.t 85) 1)⟩,
  ⟨some 12, none, .p (.mv (.t 88))⟩,
  ⟨some 10, none, .p (.mv (.t 89))⟩]
def law04_MatProducts_r15 : List AIns := [⟨some 90, none, .p (.mv (.t 8))⟩,
  ⟨some 91, none, .p (.mv (.t 10))⟩,
  ⟨some 92, none, .p (.bin .eql (.t 90) (.t 91))⟩,
  ⟨some 93, none, .p (.mv (.t 92))⟩,
  ⟨some 94, some (93, true), .p (.mv (.t 11))⟩,
  ⟨some 95, some (93, true), .p (.mv (.t 12))⟩,
  ⟨some 96, some (93, true), .call F_law04_eqm [(.t 94), (.t 95)]⟩,
  ⟨some 97, none, .p (.pick (.t 93) (.t 96) (.c (.bool false)))⟩,
  ⟨some 6, none, .p (.mv (.t 97))⟩]
def law04_MatProducts_c : ACode := .seq (.region law04_MatProducts_r0 false) (.seq (.region law04_MatProducts_r1 false) (.seq (.region law04_MatProducts_r2 false) (.seq (.seq (.region law04_MatProducts_r3 false) (.cond (.t 35) (.seq (.region law04_MatProducts_r4 false) (.ret)) (.skip))) (.seq (.region law04_MatProducts_r5 false) (.seq (.region law04_MatProducts_r6 false) (.seq (.seq (.region law04_MatProducts_r7 false) (.cond (.t 58) (.seq (.region law04_MatProducts_r8 false) (.ret)) (.skip))) (.seq (.region law04_MatProducts_r9 false) (.seq (.region law04_MatProducts_r10 false) (.seq (.seq (.region law04_MatProducts_r11 false) (.cond (.t 78) (.seq (.region law04_MatProducts_r12 false) (.ret)) (.skip))) (.seq (.region law04_MatProducts_r13 false) (.seq (.region law04_MatProducts_r14 false) (.seq (.region law04_MatProducts_r15 false) (.ret)))))))))))))
theorem law04_MatProducts_ok : fchk Pr (fun _ _ => false) Try.f8 = some (law04_MatProducts_c, [.tmp 6], 98) := by kernel_rfl
theorem law04_MatProducts_fn : Pr.funcs[F_law04_MatProducts]? = some Try.f8 := Try.func8
/-! trammellaw04.MatLine -/
def law04_MatLine_r0 : List AIns := [⟨some 6, none, .p (.mv (.c (.bool false)))⟩]
def law04_MatLine_r1 : List AIns := [⟨some 10, none, .call F_law04_alive []⟩,
  ⟨some 11, none, .p (.un .not (.t 10))⟩]
def law04_MatLine_r2 : List AIns := [⟨some 6, none, .p (.mv (.c (.bool false)))⟩]
def law04_MatLine_r3 : List AIns := [⟨some 12, none, .p (.mv (.t 0))⟩,
  ⟨some 13, none, .p (.mv (.t 1))⟩,
  ⟨some 14, none, .call F_mat_Order [(.t 12), (.t 13)]⟩,
  ⟨some 15, none, .p (.mv (.t 1))⟩,
  ⟨some 16, none, .p (.mv (.t 0))⟩,
  ⟨some 17, none, .call F_mat_Order [(.t 15), (.t 16)]⟩,
  ⟨some 18, none, .p (.un .neg (.t 17))⟩,
  ⟨some 19, none, .p (.bin .neq (.t 14) (.t 18))⟩,
  ⟨some 20, none, .p (.mv (.t 19))⟩,
  ⟨some 21, some (20, false), .p (.mv (.t 0))⟩,
  ⟨some 22, some (20, false), .p (.mv (.t 0))⟩,
  ⟨some 23, some (20, false), .call F_mat_Order [(.t 21), (.t 22)]⟩,
  ⟨some 24, some (20, false), .p (.bin .neq (.t 23) (.c (.int .i64 0)))⟩,
  ⟨some 25, none, .p (.pick (.t 20) (.c (.bool true)) (.t 24))⟩,
  ⟨some 26, none, .p (.mv (.t 25))⟩,
  ⟨some 27, some (26, false), .p (.mv (.t 0))⟩,
  ⟨some 28, some (26, false), .p (.mv (.t 1))⟩,
  ⟨some 29, some (26, false), .call F_mat_Order [(.t 27), (.t 28)]⟩,
  ⟨some 30, some (26, false), .p (.bin .lss (.t 29) (.c (.int .i64 0)))⟩,
  ⟨some 31, some (26, false), .p (.mv (.t 30))⟩,
  ⟨some 32, some (31, true), .p (.mv (.t 1))⟩,
  ⟨some 33, some (31, true), .p (.mv (.t 2))⟩,
  ⟨some 34, some (31, true), .call F_mat_Order [(.t 32), (.t 33)]⟩,
  ⟨some 35, some (31, true), .p (.bin .lss (.t 34) (.c (.int .i64 0)))⟩,
  ⟨some 36, some (26, false), .p (.pick (.t 31) (.t 35) (.c (.bool false)))⟩,
  ⟨some 37, some (26, false), .p (.mv (.t 36))⟩,
  ⟨some 38, some (37, true), .p (.mv (.t 0))⟩,
  ⟨some 39, some (37, true), .p (.mv (.t 2))⟩,
  ⟨some 40, some (37, true), .call F_mat_Order [(.t 38), (.t 39)]⟩,
  ⟨some 41, some (37, true), .p (.bin .geq (.t 40) (.c (.int .i64 0)))⟩,
  ⟨some 42, some (26, false), .p (.pick (.t 37) (.t 41) (.c (.bool false)))⟩,
  ⟨some 43, none, .p (.pick (.t 26) (.c (.bool true)) (.t 42))⟩]
def law04_MatLine_r4 : List AIns := [⟨some 6, none, .p (.mv (.c (.bool false)))⟩]
def law04_MatLine_r5 : List AIns := [⟨some 44, none, .call F_zint_Of [(.c (.int .i64 (-1)))]⟩,
  ⟨some 45, none, .p (.mv (.t 0))⟩,
  ⟨some 46, none, .call F_mat_Times [(.t 44), (.t 45)]⟩,
  ⟨some 7, none, .p (.mv (.t 46))⟩]
def law04_MatLine_r6 : List AIns := [⟨some 47, none, .p (.mv (.t 0))⟩,
  ⟨some 48, none, .call F_mat_Lead [(.t 47)]⟩,
  ⟨some 8, none, .p (.mv (.t 48))⟩]
def law04_MatLine_r7 : List AIns := [⟨some 49, none, .p (.mv (.t 0))⟩,
  ⟨some 50, none, .call F_mat_Upright [(.t 49)]⟩,
  ⟨some 51, none, .p (.mv (.t 7))⟩,
  ⟨some 52, none, .call F_mat_Upright [(.t 51)]⟩,
  ⟨some 53, none, .call F_mat_Order [(.t 50), (.t 52)]⟩,
  ⟨some 54, none, .p (.bin .neq (.t 53) (.c (.int .i64 0)))⟩,
  ⟨some 55, none, .p (.mv (.t 54))⟩,
  ⟨some 56, some (55, false), .p (.mv (.t 8))⟩,
  ⟨some 57, some (55, false), .p (.mv (.t 7))⟩,
  ⟨some 58, some (55, false), .call F_mat_Lead [(.t 57)]⟩,
  ⟨some 59, some (55, false), .p (.bin .neq (.t 56) (.t 58))⟩,
  ⟨some 60, none, .p (.pick (.t 55) (.c (.bool true)) (.t 59))⟩,
  ⟨some 61, none, .p (.mv (.t 60))⟩,
  ⟨some 62, some (61, false), .p (.mv (.t 8))⟩,
  ⟨some 63, some (61, false), .p (.mv (.t 0))⟩,
  ⟨some 64, some (61, false), .p (.len (.t 63))⟩,
  ⟨some 65, some (61, false), .p (.bin .geq (.t 62) (.t 64))⟩,
  ⟨some 66, none, .p (.pick (.t 61) (.c (.bool true)) (.t 65))⟩,
  ⟨some 67, none, .p (.mv (.t 66))⟩,
  ⟨some 68, some (67, false), .p (.mv (.t 7))⟩,
  ⟨some 69, some (67, false), .p (.len (.t 68))⟩,
  ⟨some 70, some (67, false), .p (.mv (.t 0))⟩,
  ⟨some 71, some (67, false), .p (.len (.t 70))⟩,
  ⟨some 72, some (67, false), .p (.bin .neq (.t 69) (.t 71))⟩,
  ⟨some 73, none, .p (.pick (.t 67) (.c (.bool true)) (.t 72))⟩]
def law04_MatLine_r8 : List AIns := [⟨some 6, none, .p (.mv (.c (.bool false)))⟩]
def law04_MatLine_r9 : List AIns := [⟨some 74, none, .p (.mv (.t 8))⟩,
  ⟨some 75, none, .p (.bin .lss (.t 74) (.c (.int .i64 0)))⟩]
def law04_MatLine_r10 : List AIns := [⟨some 6, none, .p (.mv (.c (.bool true)))⟩]
def law04_MatLine_r11 : List AIns := [⟨some 76, none, .p (.mv (.t 0))⟩,
  ⟨some 77, none, .call F_mat_Upright [(.t 76)]⟩,
  ⟨some 9, none, .p (.mv (.t 77))⟩]
def law04_MatLine_r12 : List AIns := [⟨some 78, none, .p (.mv (.t 9))⟩,
  ⟨some 79, none, .p (.len (.t 78))⟩,
  ⟨some 80, none, .p (.mv (.t 0))⟩,
  ⟨some 81, none, .p (.len (.t 80))⟩,
  ⟨some 82, none, .p (.bin .eql (.t 79) (.t 81))⟩,
  ⟨some 83, none, .p (.mv (.t 82))⟩,
  ⟨some 84, some (83, true), .p (.mv (.t 9))⟩,
  ⟨some 85, some (83, true), .p (.mv (.t 8))⟩,
  ⟨some 86, some (83, true), .p (.idxp 2 (.t 84) (.t 85))⟩,
  ⟨some 87, some (83, true), .p (.load (some 2) (.t 86))⟩,
  ⟨some 88, some (83, true), .call F_ref02_Sign [(.t 87)]⟩,
  ⟨some 89, some (83, true), .p (.bin .gtr (.t 88) (.c (.int .i64 0)))⟩,
  ⟨some 90, none, .p (.pick (.t 83) (.t 89) (.c (.bool false)))⟩,
  ⟨some 6, none, .p (.mv (.t 90))⟩]
def law04_MatLine_c : ACode := .seq (.region law04_MatLine_r0 false) (.seq (.seq (.region law04_MatLine_r1 false) (.cond (.t 11) (.seq (.region law04_MatLine_r2 false) (.ret)) (.skip))) (.seq (.seq (.region law04_MatLine_r3 false) (.cond (.t 43) (.seq (.region law04_MatLine_r4 false) (.ret)) (.skip))) (.seq (.region law04_MatLine_r5 false) (.seq (.region law04_MatLine_r6 false) (.seq (.seq (.region law04_MatLine_r7 false) (.cond (.t 73) (.seq (.region law04_MatLine_r8 false) (.ret)) (.skip))) (.seq (.seq (.region law04_MatLine_r9 false) (.cond (.t 75) (.seq (.region law04_MatLine_r10 false) (.ret)) (.skip))) (.seq (.region law04_MatLine_r11 false) (.seq (.region law04_MatLine_r12 false) (.ret)))))))))
theorem law04_MatLine_ok : fchk Pr (fun _ _ => false) Try.f9 = some (law04_MatLine_c, [.tmp 6], 91) := by kernel_rfl
theorem law04_MatLine_fn : Pr.funcs[F_law04_MatLine]? = some Try.f9 := Try.func9
/-! trammellaw04.MatMemory -/
def law04_MatMemory_r0 : List AIns := [⟨some 4, none, .p (.mv (.c (.bool false)))⟩]
def law04_MatMemory_r1 : List AIns := [⟨some 20, none, .call F_law04_alive []⟩,
  ⟨some 21, none, .p (.un .not (.t 20))⟩]
def law04_MatMemory_r2 : List AIns := [⟨some 4, none, .p (.mv (.c (.bool false)))⟩]
def law04_MatMemory_r3 : List AIns := [⟨some 22, none, .p (.mv (.t 0))⟩,
  ⟨some 23, none, .call F_law04_ownm [(.t 22)]⟩,
  ⟨some 24, none, .p (.mv (.t 1))⟩,
  ⟨some 25, none, .call F_law04_owns [(.t 24)]⟩,
  ⟨some 5, none, .p (.mv (.t 23))⟩,
  ⟨some 6, none, .p (.mv (.t 25))⟩]
def law04_MatMemory_r4 : List AIns := [⟨some 26, none, .p (.mv (.t 5))⟩,
  ⟨some 27, none, .call F_mat_Form [(.t 26)]⟩,
  ⟨some 7, none, .p (.mv (.t 27))⟩]
def law04_MatMemory_r5 : List AIns := [⟨some 29, none, .p (.mv (.t 5))⟩,
  ⟨some 30, none, .call F_mat_Turn [(.t 29)]⟩,
  ⟨some 28, none, .p (.mv (.t 30))⟩,
  ⟨some 31, none, .p (.ext (.t 28) 0)⟩,
  ⟨some 32, none, .p (.ext (.t 28) 1)⟩,
  ⟨some 8, none, .p (.mv (.t 31))⟩,
  ⟨some 9, none, .p (.mv (.t 32))⟩]
def law04_MatMemory_r6 : List AIns := [⟨some 34, none, .p (.mv (.t 5))⟩,
  ⟨some 35, none, .call F_mat_Gram [(.t 34)]⟩,
  ⟨some 33, none, .p (.mv (.t 35))⟩,
  ⟨some 36, none, .p (.ext (.t 33) 0)⟩,
  ⟨some 37, none, .p (.ext (.t 33) 1)⟩,
  ⟨some 10, none, .p (.mv (.t 36))⟩,
  ⟨some 11, none, .p (.mv (.t 37))⟩]
def law04_MatMemory_r7 : List AIns := [⟨some 38, none, .p (.mv (.t 6))⟩,
  ⟨some 39, none, .call F_mat_Upright [(.t 38)]⟩,
  ⟨some 12, none, .p (.mv (.t 39))⟩]
def law04_MatMemory_r8 : List AIns := [⟨some 40, none, .call F_zint_Of [(.c (.int .i64 1))]⟩,
  ⟨some 41, none, .p (.mv (.t 6))⟩,
  ⟨some 42, none, .call F_mat_Times [(.t 40), (.t 41)]⟩,
  ⟨some 13, none, .p (.mv (.t 42))⟩]
def law04_MatMemory_r9 : List AIns := [⟨some 44, none, .p (.mv (.t 6))⟩,
  ⟨some 45, none, .p (.mv (.t 6))⟩,
  ⟨some 46, none, .call F_mat_Plus [(.t 44), (.t 45)]⟩,
  ⟨some 43, none, .p (.mv (.t 46))⟩,
  ⟨some 47, none, .p (.ext (.t 43) 0)⟩,
  ⟨some 48, none, .p (.ext (.t 43) 1)⟩,
  ⟨some 14, none, .p (.mv (.t 47))⟩,
  ⟨some 15, none, .p (.mv (.t 48))⟩]
def law04_MatMemory_r10 : List AIns := [⟨some 49, none, .p (.mv (.t 7))⟩,
  ⟨some 50, none, .call F_law04_spoilm [(.t 49)]⟩]
def law04_MatMemory_r11 : List AIns := [⟨some 51, none, .p (.mv (.t 8))⟩,
  ⟨some 52, none, .call F_law04_spoilm [(.t 51)]⟩]
def law04_MatMemory_r12 : List AIns := [⟨some 53, none, .p (.mv (.t 10))⟩,
  ⟨some 54, none, .call F_law04_spoilm [(.t 53)]⟩]
def law04_MatMemory_r13 : List AIns := [⟨some 55, none, .p (.mv (.t 12))⟩,
  ⟨some 56, none, .call F_law04_spoils [(.t 55)]⟩]
def law04_MatMemory_r14 : List AIns := [⟨some 57, none, .p (.mv (.t 13))⟩,
  ⟨some 58, none, .call F_law04_spoils [(.t 57)]⟩]
def law04_MatMemory_r15 : List AIns := [⟨some 59, none, .p (.mv (.t 14))⟩,
  ⟨some 60, none, .call F_law04_spoils [(.t 59)]⟩]
def law04_MatMemory_r16 : List AIns := [⟨some 62, none, .p (.mv (.t 5))⟩,
  ⟨some 63, none, .call F_mat_Turn [(.t 62)]⟩,
  ⟨some 61, none, .p (.mv (.t 63))⟩,
  ⟨some 64, none, .p (.ext (.t 61) 0)⟩,
  ⟨some 65, none, .p (.ext (.t 61) 1)⟩,
  ⟨some 16, none, .p (.mv (.t 64))⟩,
  ⟨some 17, none, .p (.mv (.t 65))⟩]
def law04_MatMemory_r17 : List AIns := [⟨some 67, none, .p (.mv (.t 0))⟩,
  ⟨some 68, none, .call F_ref04_Turn [(.t 67)]⟩,
  ⟨some 66, none, .p (.mv (.t 68))⟩,
  ⟨some 69, none, .p (.ext (.t 66) 0)⟩,
  ⟨some 70, none, .p (.ext (.t 66) 1)⟩,
  ⟨some 18, none, .p (.mv (.t 69))⟩,
  ⟨some 19, none, .p (.mv (.t 70))⟩]
def law04_MatMemory_r18 : List AIns := [⟨some 71, none, .p (.mv (.t 5))⟩,
  ⟨some 72, none, .p (.mv (.t 0))⟩,
  ⟨some 73, none, .call F_law04_eqm [(.t 71), (.t 72)]⟩,
  ⟨some 74, none, .p (.mv (.t 73))⟩,
  ⟨some 75, some (74, true), .p (.mv (.t 6))⟩,
  ⟨some 76, some (74, true), .p (.mv (.t 1))⟩,
  ⟨some 77, some (74, true), .call F_law04_eqs [(.t 75), (.t 76)]⟩,
  ⟨some 78, none, .p (.pick (.t 74) (.t 77) (.c (.bool false)))⟩,
  ⟨some 79, none, .p (.mv (.t 78))⟩,
  ⟨some 80, some (79, true), .p (.mv (.t 16))⟩,
  ⟨some 81, some (79, true), .p (.mv (.t 18))⟩,
  ⟨some 82, some (79, true), .call F_law04_eqm [(.t 80), (.t 81)]⟩,
  ⟨some 83, none, .p (.pick (.t 79) (.t 82) (.c (.bool false)))⟩,
  ⟨some 84, none, .p (.mv (.t 83))⟩,
  ⟨some 85, some (84, true), .p (.mv (.t 6))⟩,
  ⟨some 86, some (84, true), .call F_mat_Upright [(.t 85)]⟩,
  ⟨some 87, some (84, true), .p (.mv (.t 1))⟩,
  ⟨some 88, some (84, true), .call F_ref04_Upright [(.t 87)]⟩,
  ⟨some 89, some (84, true), .call F_law04_eqs [(.t 86), (.t 88)]⟩,
  ⟨some 90, none, .p (.pick (.t 84) (.t 89) (.c (.bool false)))⟩,
  ⟨some 91, none, .p (.mv (.t 90))⟩,
  ⟨some 92, some (91, true), .p (.mv (.t 5))⟩,
  ⟨some 93, some (91, true), .call F_mat_Form [(.t 92)]⟩,
  ⟨some 94, some (91, true), .p (.mv (.t 0))⟩,
  ⟨some 95, some (91, true), .call F_ref04_Form [(.t 94)]⟩,
  ⟨some 96, some (91, true), .call F_law04_eqm [(.t 93), (.t 95)]⟩,
  ⟨some 97, none, .p (.pick (.t 91) (.t 96) (.c (.bool false)))⟩,
  ⟨some 4, none, .p (.mv (.t 97))⟩]
def law04_MatMemory_c : ACode := .seq (.region law04_MatMemory_r0 false) (.seq (.seq (.region law04_MatMemory_r1 false) (.cond (.t 21) (.seq (.region law04_MatMemory_r2 false) (.ret)) (.skip))) (.seq (.region law04_MatMemory_r3 false) (.seq (.region law04_MatMemory_r4 false) (.seq (.region law04_MatMemory_r5 false) (.seq (.region law04_MatMemory_r6 false) (.seq (.region law04_MatMemory_r7 false) (.seq (.region law04_MatMemory_r8 false) (.seq (.region law04_MatMemory_r9 false) (.seq (.region law04_MatMemory_r10 false) (.seq (.region law04_MatMemory_r11 false) (.seq (.region law04_MatMemory_r12 false) (.seq (.region law04_MatMemory_r13 false) (.seq (.region law04_MatMemory_r14 false) (.seq (.region law04_MatMemory_r15 false) (.seq (.region law04_MatMemory_r16 false) (.seq (.region law04_MatMemory_r17 false) (.seq (.region law04_MatMemory_r18 false) (.ret))))))))))))))))))
theorem law04_MatMemory_ok : fchk Pr (fun _ _ => false) Try.f10 = some (law04_MatMemory_c, [.tmp 4], 98) := by kernel_rfl
theorem law04_MatMemory_fn : Pr.funcs[F_law04_MatMemory]? = some Try.f10 := Try.func10
/-! trammellaw04.MatLinear -/
def law04_MatLinear_r0 : List AIns := [⟨some 6, none, .p (.mv (.c (.bool false)))⟩]
def law04_MatLinear_r1 : List AIns := [⟨some 25, none, .call F_law04_alive []⟩,
  ⟨some 26, none, .p (.un .not (.t 25))⟩]
def law04_MatLinear_r2 : List AIns := [⟨some 6, none, .p (.mv (.c (.bool false)))⟩]
def law04_MatLinear_r3 : List AIns := [⟨some 28, none, .p (.mv (.t 0))⟩,
  ⟨some 29, none, .p (.mv (.t 1))⟩,
  ⟨some 30, none, .call F_mat_Product [(.t 28), (.t 29)]⟩,
  ⟨some 27, none, .p (.mv (.t 30))⟩,
  ⟨some 31, none, .p (.ext (.t 27) 0)⟩,
  ⟨some 32, none, .p (.ext (.t 27) 1)⟩,
  ⟨some 7, none, .p (.mv (.t 31))⟩,
  ⟨some 8, none, .p (.mv (.t 32))⟩]
def law04_MatLinear_r4 : List AIns := [⟨some 33, none, .p (.mv (.t 8))⟩,
  ⟨some 34, none, .p (.bin .eql (.t 33) (.c (.int .i64 0)))⟩,
  ⟨some 35, none, .p (.mv (.t 34))⟩,
  ⟨some 36, some (35, true), .p (.mv (.t 0))⟩,
  ⟨some 37, some (35, true), .p (.len (.t 36))⟩,
  ⟨some 38, some (35, true), .p (.bin .gtr (.t 37) (.c (.int .i64 0)))⟩,
  ⟨some 39, none, .p (.pick (.t 35) (.t 38) (.c (.bool false)))⟩]
def law04_MatLinear_r5 : List AIns := [⟨some 41, none, .p (.mv (.t 7))⟩,
  ⟨some 42, none, .p (.mv (.t 2))⟩,
  ⟨some 43, none, .call F_mat_Product [(.t 41), (.t 42)]⟩,
  ⟨some 40, none, .p (.mv (.t 43))⟩,
  ⟨some 44, none, .p (.ext (.t 40) 0)⟩,
  ⟨some 45, none, .p (.ext (.t 40) 1)⟩,
  ⟨some 9, none, .p (.mv (.t 44))⟩,
  ⟨some 10, none, .p (.mv (.t 45))⟩]
def law04_MatLinear_r6 : List AIns := [⟨some 47, none, .p (.mv (.t 1))⟩,
  ⟨some 48, none, .p (.mv (.t 2))⟩,
  ⟨some 49, none, .call F_mat_Product [(.t 47), (.t 48)]⟩,
  ⟨some 46, none, .p (.mv (.t 49))⟩,
  ⟨some 50, none, .p (.ext (.t 46) 0)⟩,
  ⟨some 51, none, .p (.ext (.t 46) 1)⟩,
  ⟨some 11, none, .p (.mv (.t 50))⟩,
  ⟨some 12, none, .p (.mv (.t 51))⟩]
def law04_MatLinear_r7 : List AIns := [⟨some 52, none, .p (.mv (.t 10))⟩,
  ⟨some 53, none, .p (.bin .eql (.t 52) (.c (.int .i64 0)))⟩,
  ⟨some 54, none, .p (.mv (.t 53))⟩,
  ⟨some 55, some (54, true), .p (.mv (.t 12))⟩,
  ⟨some 56, some (54, true), .p (.bin .eql (.t 55) (.c (.int .i64 0)))⟩,
  ⟨some 57, none, .p (.pick (.t 54) (.t 56) (.c (.bool false)))⟩]
def law04_MatLinear_r8 : List AIns := [⟨some 59, none, .p (.mv (.t 0))⟩,
  ⟨some 60, none, .p (.mv (.t 11))⟩,
  ⟨some 61, none, .call F_mat_Product [(.t 59), (.t 60)]⟩,
  ⟨some 58, none, .p (.mv (.t 61))⟩,
  ⟨some 62, none, .p (.ext (.t 58) 0)⟩,
  ⟨some 63, none, .p (.ext (.t 58) 1)⟩,
  ⟨some 13, none, .p (.mv (.t 62))⟩,
  ⟨some 14, none, .p (.mv (.t 63))⟩]
def law04_MatLinear_r9 : List AIns := [⟨some 64, none, .p (.mv (.t 14))⟩,
  ⟨some 65, none, .p (.bin .neq (.t 64) (.c (.int .i64 0)))⟩,
  ⟨some 66, none, .p (.mv (.t 65))⟩,
  ⟨some 67, some (66, false), .p (.mv (.t 9))⟩,
  ⟨some 68, some (66, false), .p (.mv (.t 13))⟩,
  ⟨some 69, some (66, false), .call F_mat_Same [(.t 67), (.t 68)]⟩,
  ⟨some 70, some (66, false), .p (.un .not (.t 69))⟩,
  ⟨some 71, none, .p (.pick (.t 66) (.c (.bool true)) (.t 70))⟩]
def law04_MatLinear_r10 : List AIns := [⟨some 6, none, .p (.mv (.c (.bool false)))⟩]
def law04_MatLinear_r11 : List AIns := [⟨some 15, none, .p (.mv (.c (.nil)))⟩]
def law04_MatLinear_r12 : List AIns := [⟨some 16, none, .p (.mv (.c (.int .i64 0)))⟩]
def law04_MatLinear_r13 : List AIns := [⟨some 72, none, .p (.mv (.t 16))⟩,
  ⟨some 73, none, .p (.mv (.t 0))⟩,
  ⟨some 74, none, .p (.len (.t 73))⟩,
  ⟨some 75, none, .p (.bin .lss (.t 72) (.t 74))⟩]
def law04_MatLinear_r14 : List AIns := [⟨some 78, none, .p (.mv (.t 15))⟩,
  ⟨some 79, none, .p (.mv (.t 16))⟩,
  ⟨some 80, none, .p (.mv (.t 16))⟩,
  ⟨some 81, none, .p (.bin .mul (.t 79) (.t 80))⟩,
  ⟨some 82, none, .p (.bin .sub (.t 81) (.c (.int .i64 3)))⟩,
  ⟨some 83, none, .call F_zint_Of [(.t 82)]⟩,
  ⟨some 84, none, .e (.bsl 2 [(.t 83)])⟩,
  ⟨some 85, none, .e (.app 2 32 false (.t 78) (.t 84))⟩,
  ⟨some 15, none, .p (.mv (.t 85))⟩]
def law04_MatLinear_r15 : List AIns := [⟨some 76, none, .p (.mv (.t 16))⟩,
  ⟨some 77, none, .p (.bin .add (.t 76) (.c (.int .i64 1)))⟩,
  ⟨some 16, none, .p (.mv (.t 77))⟩]
def law04_MatLinear_l0 : ACode := .seq (.seq (.region law04_MatLinear_r13 false) (.cond (.t 75) (.skip) (.exit 0))) (.seq (.block 1 (.region law04_MatLinear_r14 false)) (.region law04_MatLinear_r15 false))
def law04_MatLinear_r16 : List AIns := [⟨some 86, none, .p (.mv (.t 15))⟩,
  ⟨some 87, none, .p (.len (.t 86))⟩,
  ⟨some 88, none, .p (.mv (.t 0))⟩,
  ⟨some 89, none, .p (.len (.t 88))⟩,
  ⟨some 90, none, .p (.bin .eql (.t 87) (.t 89))⟩]
def law04_MatLinear_r17 : List AIns := [⟨some 92, none, .p (.mv (.t 15))⟩,
  ⟨some 93, none, .p (.mv (.t 0))⟩,
  ⟨some 94, none, .call F_mat_Combine [(.t 92), (.t 93)]⟩,
  ⟨some 91, none, .p (.mv (.t 94))⟩,
  ⟨some 95, none, .p (.ext (.t 91) 0)⟩,
  ⟨some 96, none, .p (.ext (.t 91) 1)⟩,
  ⟨some 17, none, .p (.mv (.t 95))⟩,
  ⟨some 18, none, .p (.mv (.t 96))⟩]
def law04_MatLinear_r18 : List AIns := [⟨some 98, none, .p (.mv (.t 17))⟩,
  ⟨some 99, none, .p (.mv (.t 1))⟩,
  ⟨some 100, none, .call F_mat_Combine [(.t 98), (.t 99)]⟩,
  ⟨some 97, none, .p (.mv (.t 100))⟩,
  ⟨some 101, none, .p (.ext (.t 97) 0)⟩,
  ⟨some 102, none, .p (.ext (.t 97) 1)⟩,
  ⟨some 19, none, .p (.mv (.t 101))⟩,
  ⟨some 20, none, .p (.mv (.t 102))⟩]
def law04_MatLinear_r19 : List AIns := [⟨some 104, none, .p (.mv (.t 15))⟩,
  ⟨some 105, none, .p (.mv (.t 7))⟩,
  ⟨some 106, none, .call F_mat_Combine [(.t 104), (.t 105)]⟩,
  ⟨some 103, none, .p (.mv (.t 106))⟩,
  ⟨some 107, none, .p (.ext (.t 103) 0)⟩,
  ⟨some 108, none, .p (.ext (.t 103) 1)⟩,
  ⟨some 21, none, .p (.mv (.t 107))⟩,
  ⟨some 22, none, .p (.mv (.t 108))⟩]
def law04_MatLinear_r20 : List AIns := [⟨some 109, none, .p (.mv (.t 18))⟩,
  ⟨some 110, none, .p (.bin .neq (.t 109) (.c (.int .i64 0)))⟩,
  ⟨some 111, none, .p (.mv (.t 110))⟩,
  ⟨some 112, some (111, false), .p (.mv (.t 20))⟩,
  ⟨some 113, some (111, false), .p (.bin .neq (.t 112) (.c (.int .i64 0)))⟩,
  ⟨some 114, none, .p (.pick (.t 111) (.c (.bool true)) (.t 113))⟩,
  ⟨some 115, none, .p (.mv (.t 114))⟩,
  ⟨some 116, some (115, false), .p (.mv (.t 22))⟩,
  ⟨some 117, some (115, false), .p (.bin .neq (.t 116) (.c (.int .i64 0)))⟩,
  ⟨some 118, none, .p (.pick (.t 115) (.c (.bool true)) (.t 117))⟩,
  ⟨some 119, none, .p (.mv (.t 118))⟩,
  ⟨some 120, some (119, false), .p (.mv (.t 21))⟩,
  ⟨some 121, some (119, false), .p (.mv (.t 19))⟩,
  ⟨some 122, some (119, false), .call F_mat_Order [(.t 120), (.t 121)]⟩,
  ⟨some 123, some (119, false), .p (.bin .neq (.t 122) (.c (.int .i64 0)))⟩,
  ⟨some 124, none, .p (.pick (.t 119) (.c (.bool true)) (.t 123))⟩]
def law04_MatLinear_r21 : List AIns := [⟨some 6, none, .p (.mv (.c (.bool false)))⟩]
def law04_MatLinear_r22 : List AIns := [⟨some 126, none, .p (.mv (.t 1))⟩,
  ⟨some 127, none, .call F_mat_Turn [(.t 126)]⟩,
  ⟨some 125, none, .p (.mv (.t 127))⟩,
  ⟨some 128, none, .p (.ext (.t 125) 0)⟩,
  ⟨some 129, none, .p (.ext (.t 125) 1)⟩,
  ⟨some 23, none, .p (.mv (.t 128))⟩,
  ⟨some 8, none, .p (.mv (.t 129))⟩]
def law04_MatLinear_r23 : List AIns := [⟨some 130, none, .p (.mv (.t 8))⟩,
  ⟨some 131, none, .p (.bin .neq (.t 130) (.c (.int .i64 0)))⟩,
  ⟨some 132, none, .p (.mv (.t 131))⟩,
  ⟨some 133, some (132, false), .p (.mv (.t 23))⟩,
  ⟨some 134, some (132, false), .p (.len (.t 133))⟩,
  ⟨some 135, some (132, false), .p (.bin .eql (.t 134) (.c (.int .i64 0)))⟩,
  ⟨some 136, none, .p (.pick (.t 132) (.c (.bool true)) (.t 135))⟩]
def law04_MatLinear_r24 : List AIns := [⟨some 6, none, .p (.mv (.c (.bool true)))⟩]
def law04_MatLinear_r25 : List AIns := [⟨some 138, none, .p (.mv (.t 23))⟩,
  ⟨some 139, none, .call F_mat_Turn [(.t 138)]⟩,
  ⟨some 137, none, .p (.mv (.t 139))⟩,
  ⟨some 140, none, .p (.ext (.t 137) 0)⟩,
  ⟨some 141, none, .p (.ext (.t 137) 1)⟩,
  ⟨some 24, none, .p (.mv (.t 140))⟩,
  ⟨some 8, none, .p (.mv (.t 141))⟩]
def law04_MatLinear_r26 : List AIns := [⟨some 142, none, .p (.mv (.t 8))⟩,
  ⟨some 143, none, .p (.bin .eql (.t 142) (.c (.int .i64 0)))⟩,
  ⟨some 144, none, .p (.mv (.t 143))⟩,
  ⟨some 145, some (144, true), .p (.mv (.t 24))⟩,
  ⟨some 146, some (144, true), .p (.mv (.t 1))⟩,
  ⟨some 147, some (144, true), .call F_mat_Same [(.t 145), (.t 146)]⟩,
  ⟨some 148, none, .p (.pick (.t 144) (.t 147) (.c (.bool false)))⟩,
  ⟨some 6, none, .p (.mv (.t 148))⟩]
def law04_MatLinear_c : ACode := .seq (.region law04_MatLinear_r0 false) (.seq (.seq (.region law04_MatLinear_r1 false) (.cond (.t 26) (.seq (.region law04_MatLinear_r2 false) (.ret)) (.skip))) (.seq (.region law04_MatLinear_r3 false) (.seq (.seq (.region law04_MatLinear_r4 false) (.cond (.t 39) (.seq (.region law04_MatLinear_r5 false) (.seq (.region law04_MatLinear_r6 false) (.seq (.seq (.region law04_MatLinear_r7 false) (.cond (.t 57) (.seq (.region law04_MatLinear_r8 false) (.seq (.region law04_MatLinear_r9 false) (.cond (.t 71) (.seq (.region law04_MatLinear_r10 false) (.ret)) (.skip)))) (.skip))) (.seq (.region law04_MatLinear_r11 false) (.seq (.seq (.region law04_MatLinear_r12 false) (.block 0 (.loop law04_MatLinear_l0))) (.seq (.region law04_MatLinear_r16 false) (.cond (.t 90) (.seq (.region law04_MatLinear_r17 false) (.seq (.region law04_MatLinear_r18 false) (.seq (.region law04_MatLinear_r19 false) (.seq (.region law04_MatLinear_r20 false) (.cond (.t 124) (.seq (.region law04_MatLinear_r21 false) (.ret)) (.skip)))))) (.skip)))))))) (.skip))) (.seq (.region law04_MatLinear_r22 false) (.seq (.seq (.region law04_MatLinear_r23 false) (.cond (.t 136) (.seq (.region law04_MatLinear_r24 false) (.ret)) (.skip))) (.seq (.region law04_MatLinear_r25 false) (.seq (.region law04_MatLinear_r26 false) (.ret))))))))
theorem law04_MatLinear_ok : fchk Pr (fun _ _ => false) Try.f11 = some (law04_MatLinear_c, [.tmp 6], 149) := by kernel_rfl
theorem law04_MatLinear_fn : Pr.funcs[F_law04_MatLinear]? = some Try.f11 := Try.func11
/-! mat.Same -/
def mat_Same_r0 : List AIns := [⟨some 4, none, .p (.mv (.c (.bool false)))⟩]
def mat_Same_r1 : List AIns := [⟨some 6, none, .p (.mv (.t 0))⟩,
  ⟨some 7, none, .p (.len (.t 6))⟩,
  ⟨some 8, none, .p (.mv (.t 1))⟩,
  ⟨some 9, none, .p (.len (.t 8))⟩,
  ⟨some 10, none, .p (.bin .neq (.t 7) (.t 9))⟩]
def mat_Same_r2 : List AIns := [⟨some 4, none, .p (.mv (.c (.bool false)))⟩]
def mat_Same_r3 : List AIns := [⟨some 11, none, .p (.mv (.t 0))⟩,
  ⟨some 12, none, .p (.len (.t 11))⟩,
  ⟨some 13, none, .p (.mv (.c (.int .i64 0)))⟩]
def mat_Same_r4 : List AIns := [⟨some 14, none, .p (.bin .lss (.t 13) (.t 12))⟩]
def mat_Same_r5 : List AIns := [⟨some 15, none, .p (.mv (.t 13))⟩,
  ⟨some 5, none, .p (.mv (.t 15))⟩]
def mat_Same_r6 : List AIns := [⟨some 16, none, .p (.mv (.t 0))⟩,
  ⟨some 17, none, .p (.mv (.t 5))⟩,
  ⟨some 18, none, .p (.idxp 1 (.t 16) (.t 17))⟩,
  ⟨some 19, none, .p (.load none (.t 18))⟩,
  ⟨some 20, none, .p (.len (.t 19))⟩,
  ⟨some 21, none, .p (.mv (.t 1))⟩,
  ⟨some 22, none, .p (.mv (.t 5))⟩,
  ⟨some 23, none, .p (.idxp 1 (.t 21) (.t 22))⟩,
  ⟨some 24, none, .p (.load none (.t 23))⟩,
  ⟨some 25, none, .p (.len (.t 24))⟩,
  ⟨some 26, none, .p (.bin .neq (.t 20) (.t 25))⟩,
  ⟨some 27, none, .p (.mv (.t 26))⟩,
  ⟨some 28, some (27, false), .p (.mv (.t 0))⟩,
  ⟨some 29, some (27, false), .p (.mv (.t 5))⟩,
  ⟨some 30, some (27, false), .p (.idxp 1 (.t 28) (.t 29))⟩,
  ⟨some 31, some (27, false), .p (.load none (.t 30))⟩,
  ⟨some 32, some (27, false), .p (.mv (.t 1))⟩,
  ⟨some 33, some (27, false), .p (.mv (.t 5))⟩,
  ⟨some 34, some (27, false), .p (.idxp 1 (.t 32) (.t 33))⟩,
  ⟨some 35, some (27, false), .p (.load none (.t 34))⟩,
  ⟨some 36, some (27, false), .call F_mat_Order [(.t 31), (.t 35)]⟩,
  ⟨some 37, some (27, false), .p (.bin .neq (.t 36) (.c (.int .i64 0)))⟩,
  ⟨some 38, none, .p (.pick (.t 27) (.c (.bool true)) (.t 37))⟩]
def mat_Same_r7 : List AIns := [⟨some 4, none, .p (.mv (.c (.bool false)))⟩]
def mat_Same_r8 : List AIns := [⟨some 39, none, .p (.bin .add (.t 13) (.c (.int .i64 1)))⟩,
  ⟨some 13, none, .p (.mv (.t 39))⟩]
def mat_Same_l0 : ACode := .seq (.region mat_Same_r4 false) (.seq (.cond (.t 14) (.skip) (.exit 0)) (.seq (.block 1 (.seq (.region mat_Same_r5 false) (.seq (.region mat_Same_r6 true) (.cond (.t 38) (.seq (.region mat_Same_r7 false) (.ret)) (.skip))))) (.region mat_Same_r8 false)))
def mat_Same_r9 : List AIns := [⟨some 4, none, .p (.mv (.c (.bool true)))⟩]
def mat_Same_c : ACode := .seq (.region mat_Same_r0 false) (.seq (.seq (.region mat_Same_r1 false) (.cond (.t 10) (.seq (.region mat_Same_r2 false) (.ret)) (.skip))) (.seq (.seq (.region mat_Same_r3 false) (.block 0 (.loop mat_Same_l0))) (.seq (.region mat_Same_r9 false) (.ret))))
theorem mat_Same_ok : fchk Pr (fun _ _ => false) Try.f12 = some (mat_Same_c, [.tmp 4], 40) := by kernel_rfl
theorem mat_Same_fn : Pr.funcs[F_mat_Same]? = some Try.f12 := Try.func12
/-! trammellaw04.ownm -/
def law04_ownm_r0 : List AIns := [⟨some 2, none, .p (.mv (.c (.nil)))⟩]
def law04_ownm_r1 : List AIns := [⟨some 3, none, .p (.mv (.c (.nil)))⟩]
def law04_ownm_r2 : List AIns := [⟨some 4, none, .p (.mv (.c (.int .i64 0)))⟩]
def law04_ownm_r3 : List AIns := [⟨some 5, none, .p (.mv (.t 4))⟩,
  ⟨some 6, none, .p (.mv (.t 0))⟩,
  ⟨some 7, none, .p (.len (.t 6))⟩,
  ⟨some 8, none, .p (.bin .lss (.t 5) (.t 7))⟩]
def law04_ownm_r4 : List AIns := [⟨some 11, none, .p (.mv (.t 3))⟩,
  ⟨some 12, none, .p (.mv (.t 0))⟩,
  ⟨some 13, none, .p (.mv (.t 4))⟩,
  ⟨some 14, none, .p (.idxp 1 (.t 12) (.t 13))⟩,
  ⟨some 15, none, .p (.load none (.t 14))⟩,
  ⟨some 16, none, .call F_law04_owns [(.t 15)]⟩,
  ⟨some 17, none, .e (.bsl 1 [(.t 16)])⟩,
  ⟨some 18, none, .e (.app 1 24 false (.t 11) (.t 17))⟩,
  ⟨some 3, none, .p (.mv (.t 18))⟩]
def law04_ownm_r5 : List AIns := [⟨some 9, none, .p (.mv (.t 4))⟩,
  ⟨some 10, none, .p (.bin .add (.t 9) (.c (.int .i64 1)))⟩,
  ⟨some 4, none, .p (.mv (.t 10))⟩]
def law04_ownm_l0 : ACode := .seq (.seq (.region law04_ownm_r3 false) (.cond (.t 8) (.skip) (.exit 0))) (.seq (.block 1 (.region law04_ownm_r4 false)) (.region law04_ownm_r5 false))
def law04_ownm_r6 : List AIns := [⟨some 19, none, .p (.mv (.t 3))⟩,
  ⟨some 2, none, .p (.mv (.t 19))⟩]
def law04_ownm_c : ACode := .seq (.region law04_ownm_r0 false) (.seq (.region law04_ownm_r1 false) (.seq (.seq (.region law04_ownm_r2 false) (.block 0 (.loop law04_ownm_l0))) (.seq (.region law04_ownm_r6 false) (.ret))))
theorem law04_ownm_ok : fchk Pr (fun _ _ => false) Try.f13 = some (law04_ownm_c, [.tmp 2], 20) := by kernel_rfl
theorem law04_ownm_fn : Pr.funcs[F_law04_ownm]? = some Try.f13 := Try.func13
/-! trammelref04.Same -/
def ref04_Same_r0 : List AIns := [⟨some 4, none, .p (.mv (.c (.bool false)))⟩]
def ref04_Same_r1 : List AIns := [⟨some 6, none, .p (.mv (.t 0))⟩,
  ⟨some 7, none, .p (.len (.t 6))⟩,
  ⟨some 8, none, .p (.mv (.t 1))⟩,
  ⟨some 9, none, .p (.len (.t 8))⟩,
  ⟨some 10, none, .p (.bin .neq (.t 7) (.t 9))⟩]
def ref04_Same_r2 : List AIns := [⟨some 4, none, .p (.mv (.c (.bool false)))⟩]
def ref04_Same_r3 : List AIns := [⟨some 5, none, .p (.mv (.c (.int .i64 0)))⟩]
def ref04_Same_r4 : List AIns := [⟨some 11, none, .p (.mv (.t 5))⟩,
  ⟨some 12, none, .p (.mv (.t 0))⟩,
  ⟨some 13, none, .p (.len (.t 12))⟩,
  ⟨some 14, none, .p (.bin .lss (.t 11) (.t 13))⟩]
def ref04_Same_r5 : List AIns := [⟨some 17, none, .p (.mv (.t 0))⟩,
  ⟨some 18, none, .p (.mv (.t 5))⟩,
  ⟨some 19, none, .p (.idxp 1 (.t 17) (.t 18))⟩,
  ⟨some 20, none, .p (.load none (.t 19))⟩,
  ⟨some 21, none, .p (.mv (.t 1))⟩,
  ⟨some 22, none, .p (.mv (.t 5))⟩,
  ⟨some 23, none, .p (.idxp 1 (.t 21) (.t 22))⟩,
  ⟨some 24, none, .p (.load none (.t 23))⟩,
  ⟨some 25, none, .call F_ref04_Order [(.t 20), (.t 24)]⟩,
  ⟨some 26, none, .p (.bin .neq (.t 25) (.c (.int .i64 0)))⟩]
def ref04_Same_r6 : List AIns := [⟨some 4, none, .p (.mv (.c (.bool false)))⟩]
def ref04_Same_r7 : List AIns := [⟨some 15, none, .p (.mv (.t 5))⟩,
  ⟨some 16, none, .p (.bin .add (.t 15) (.c (.int .i64 1)))⟩,
  ⟨some 5, none, .p (.mv (.t 16))⟩]
def ref04_Same_l0 : ACode := .seq (.seq (.region ref04_Same_r4 false) (.cond (.t 14) (.skip) (.exit 0))) (.seq (.block 1 (.seq (.region ref04_Same_r5 true) (.cond (.t 26) (.seq (.region ref04_Same_r6 false) (.ret)) (.skip)))) (.region ref04_Same_r7 false))
def ref04_Same_r8 : List AIns := [⟨some 4, none, .p (.mv (.c (.bool true)))⟩]
def ref04_Same_c : ACode := .seq (.region ref04_Same_r0 false) (.seq (.seq (.region ref04_Same_r1 false) (.cond (.t 10) (.seq (.region ref04_Same_r2 false) (.ret)) (.skip))) (.seq (.seq (.region ref04_Same_r3 false) (.block 0 (.loop ref04_Same_l0))) (.seq (.region ref04_Same_r8 false) (.ret))))
theorem ref04_Same_ok : fchk Pr (fun _ _ => false) Try.f14 = some (ref04_Same_c, [.tmp 4], 27) := by kernel_rfl
theorem ref04_Same_fn : Pr.funcs[F_ref04_Same]? = some Try.f14 := Try.func14
/-! trammelref04.Form -/
def ref04_Form_r0 : List AIns := [⟨some 2, none, .p (.mv (.c (.nil)))⟩]
def ref04_Form_r1 : List AIns := [⟨some 3, none, .p (.mv (.c (.nil)))⟩]
def ref04_Form_r2 : List AIns := [⟨some 4, none, .p (.mv (.c (.int .i64 0)))⟩]
def ref04_Form_r3 : List AIns := [⟨some 5, none, .p (.mv (.t 4))⟩,
  ⟨some 6, none, .p (.mv (.t 0))⟩,
  ⟨some 7, none, .p (.len (.t 6))⟩,
  ⟨some 8, none, .p (.bin .lss (.t 5) (.t 7))⟩]
def ref04_Form_r4 : List AIns := [⟨some 11, none, .p (.mv (.t 3))⟩,
  ⟨some 12, none, .call F_ref02_Of [(.c (.int .i64 1))]⟩,
  ⟨some 13, none, .p (.mv (.t 0))⟩,
  ⟨some 14, none, .p (.mv (.t 4))⟩,
  ⟨some 15, none, .p (.idxp 1 (.t 13) (.t 14))⟩,
  ⟨some 16, none, .p (.load none (.t 15))⟩,
  ⟨some 17, none, .call F_ref04_Times [(.t 12), (.t 16)]⟩,
  ⟨some 18, none, .e (.bsl 1 [(.t 17)])⟩,
  ⟨some 19, none, .e (.app 1 24 false (.t 11) (.t 18))⟩,
  ⟨some 3, none, .p (.mv (.t 19))⟩]
def ref04_Form_r5 : List AIns := [⟨some 9, none, .p (.mv (.t 4))⟩,
  ⟨some 10, none, .p (.bin .add (.t 9) (.c (.int .i64 1)))⟩,
  ⟨some 4, none, .p (.mv (.t 10))⟩]
def ref04_Form_l0 : ACode := .seq (.seq (.region ref04_Form_r3 false) (.cond (.t 8) (.skip) (.exit 0))) (.seq (.block 1 (.region ref04_Form_r4 true)) (.region ref04_Form_r5 false))
def ref04_Form_r6 : List AIns := [⟨some 20, none, .p (.mv (.t 3))⟩,
  ⟨some 2, none, .p (.mv (.t 20))⟩]
def ref04_Form_c : ACode := .seq (.region ref04_Form_r0 false) (.seq (.region ref04_Form_r1 false) (.seq (.seq (.region ref04_Form_r2 false) (.block 0 (.loop ref04_Form_l0))) (.seq (.region ref04_Form_r6 false) (.ret))))
theorem ref04_Form_ok : fchk Pr (fun _ _ => false) Try.f15 = some (ref04_Form_c, [.tmp 2], 21) := by kernel_rfl
theorem ref04_Form_fn : Pr.funcs[F_ref04_Form]? = some Try.f15 := Try.func15
/-! mat.Shape -/
def mat_Shape_r0 : List AIns := [⟨some 2, none, .p (.mv (.c (.int .i64 0)))⟩,
  ⟨some 3, none, .p (.mv (.c (.int .i64 0)))⟩,
  ⟨some 4, none, .p (.mv (.c (.int .i64 0)))⟩]
def mat_Shape_r1 : List AIns := [⟨some 7, none, .p (.mv (.t 0))⟩,
  ⟨some 8, none, .p (.len (.t 7))⟩,
  ⟨some 9, none, .p (.bin .eql (.t 8) (.c (.int .i64 0)))⟩]
def mat_Shape_r2 : List AIns := [⟨some 2, none, .p (.mv (.c (.int .i64 0)))⟩,
  ⟨some 3, none, .p (.mv (.c (.int .i64 0)))⟩,
  ⟨some 4, none, .p (.mv (.c (.int .i64 0)))⟩]
def mat_Shape_r3 : List AIns := [⟨some 10, none, .p (.mv (.t 0))⟩,
  ⟨some 11, none, .p (.len (.t 10))⟩,
  ⟨some 12, none, .p (.mv (.c (.int .i64 0)))⟩]
def mat_Shape_r4 : List AIns := [⟨some 13, none, .p (.bin .lss (.t 12) (.t 11))⟩]
def mat_Shape_r5 : List AIns := [⟨some 14, none, .p (.idxp 1 (.t 10) (.t 12))⟩,
  ⟨some 15, none, .p (.load none (.t 14))⟩,
  ⟨some 6, none, .p (.mv (.t 15))⟩]
def mat_Shape_r6 : List AIns := [⟨some 16, none, .p (.mv (.t 6))⟩,
  ⟨some 17, none, .p (.len (.t 16))⟩,
  ⟨some 18, none, .p (.mv (.t 0))⟩,
  ⟨some 19, none, .p (.idxp 1 (.t 18) (.c (.int .i64 0)))⟩,
  ⟨some 20, none, .p (.load none (.t 19))⟩,
  ⟨some 21, none, .p (.len (.t 20))⟩,
  ⟨some 22, none, .p (.bin .neq (.t 17) (.t 21))⟩]
def mat_Shape_r7 : List AIns := [⟨some 2, none, .p (.mv (.c (.int .i64 0)))⟩,
  ⟨some 3, none, .p (.mv (.c (.int .i64 0)))⟩,
  ⟨some 4, none, .p (.mv (.c (.int .i64 8)))⟩]
def mat_Shape_r8 : List AIns := [⟨some 23, none, .p (.bin .add (.t 12) (.c (.int .i64 1)))⟩,
  ⟨some 12, none, .p (.mv (.t 23))⟩]
def mat_Shape_l0 : ACode := .seq (.region mat_Shape_r4 false) (.seq (.cond (.t 13) (.skip) (.exit 0)) (.seq (.block 1 (.seq (.region mat_Shape_r5 false) (.seq (.region mat_Shape_r6 false) (.cond (.t 22) (.seq (.region mat_Shape_r7 false) (.ret)) (.skip))))) (.region mat_Shape_r8 false)))
def mat_Shape_r9 : List AIns := [⟨some 24, none, .p (.mv (.t 0))⟩,
  ⟨some 25, none, .p (.len (.t 24))⟩,
  ⟨some 26, none, .p (.mv (.t 0))⟩,
  ⟨some 27, none, .p (.idxp 1 (.t 26) (.c (.int .i64 0)))⟩,
  ⟨some 28, none, .p (.load none (.t 27))⟩,
  ⟨some 29, none, .p (.len (.t 28))⟩,
  ⟨some 2, none, .p (.mv (.t 25))⟩,
  ⟨some 3, none, .p (.mv (.t 29))⟩,
  ⟨some 4, none, .p (.mv (.c (.int .i64 0)))⟩]
def mat_Shape_c : ACode := .seq (.region mat_Shape_r0 false) (.seq (.seq (.region mat_Shape_r1 false) (.cond (.t 9) (.seq (.region mat_Shape_r2 false) (.ret)) (.skip))) (.seq (.seq (.region mat_Shape_r3 false) (.block 0 (.loop mat_Shape_l0))) (.seq (.region mat_Shape_r9 true) (.ret))))
theorem mat_Shape_ok : fchk Pr (fun _ _ => false) Try.f16 = some (mat_Shape_c, [.tmp 2, .tmp 3, .tmp 4], 30) := by kernel_rfl
theorem mat_Shape_fn : Pr.funcs[F_mat_Shape]? = some Try.f16 := Try.func16
/-! trammelref04.Shape -/
def ref04_Shape_r0 : List AIns := [⟨some 2, none, .p (.mv (.c (.int .i64 0)))⟩,
  ⟨some 3, none, .p (.mv (.c (.int .i64 0)))⟩,
  ⟨some 4, none, .p (.mv (.c (.int .i64 0)))⟩]
def ref04_Shape_r1 : List AIns := [⟨some 5, none, .p (.mv (.c (.int .i64 0)))⟩]
def ref04_Shape_r2 : List AIns := [⟨some 6, none, .p (.mv (.t 5))⟩,
  ⟨some 7, none, .p (.mv (.t 0))⟩,
  ⟨some 8, none, .p (.len (.t 7))⟩,
  ⟨some 9, none, .p (.bin .lss (.t 6) (.t 8))⟩]
def ref04_Shape_r3 : List AIns := [⟨some 12, none, .p (.mv (.t 0))⟩,
  ⟨some 13, none, .p (.mv (.t 5))⟩,
  ⟨some 14, none, .p (.idxp 1 (.t 12) (.t 13))⟩,
  ⟨some 15, none, .p (.load none (.t 14))⟩,
  ⟨some 16, none, .p (.len (.t 15))⟩,
  ⟨some 17, none, .p (.mv (.t 0))⟩,
  ⟨some 18, none, .p (.idxp 1 (.t 17) (.c (.int .i64 0)))⟩,
  ⟨some 19, none, .p (.load none (.t 18))⟩,
  ⟨some 20, none, .p (.len (.t 19))⟩,
  ⟨some 21, none, .p (.bin .neq (.t 16) (.t 20))⟩]
def ref04_Shape_r4 : List AIns := [⟨some 2, none, .p (.mv (.c (.int .i64 0)))⟩,
  ⟨some 3, none, .p (.mv (.c (.int .i64 0)))⟩,
  ⟨some 4, none, .p (.mv (.c (.int .i64 8)))⟩]
def ref04_Shape_r5 : List AIns := [⟨some 10, none, .p (.mv (.t 5))⟩,
  ⟨some 11, none, .p (.bin .add (.t 10) (.c (.int .i64 1)))⟩,
  ⟨some 5, none, .p (.mv (.t 11))⟩]
def ref04_Shape_l0 : ACode := .seq (.seq (.region ref04_Shape_r2 false) (.cond (.t 9) (.skip) (.exit 0))) (.seq (.block 1 (.seq (.region ref04_Shape_r3 true) (.cond (.t 21) (.seq (.region ref04_Shape_r4 false) (.ret)) (.skip)))) (.region ref04_Shape_r5 false))
def ref04_Shape_r6 : List AIns := [⟨some 22, none, .p (.mv (.t 0))⟩,
  ⟨some 23, none, .p (.len (.t 22))⟩,
  ⟨some 24, none, .p (.bin .eql (.t 23) (.c (.int .i64 0)))⟩]
def ref04_Shape_r7 : List AIns := [⟨some 2, none, .p (.mv (.c (.int .i64 0)))⟩,
  ⟨some 3, none, .p (.mv (.c (.int .i64 0)))⟩,
  ⟨some 4, none, .p (.mv (.c (.int .i64 0)))⟩]
def ref04_Shape_r8 : List AIns := [⟨some 25, none, .p (.mv (.t 0))⟩,
  ⟨some 26, none, .p (.len (.t 25))⟩,
  ⟨some 27, none, .p (.mv (.t 0))⟩,
  ⟨some 28, none, .p (.idxp 1 (.t 27) (.c (.int .i64 0)))⟩,
  ⟨some 29, none, .p (.load none (.t 28))⟩,
  ⟨some 30, none, .p (.len (.t 29))⟩,
  ⟨some 2, none, .p (.mv (.t 26))⟩,
  ⟨some 3, none, .p (.mv (.t 30))⟩,
  ⟨some 4, none, .p (.mv (.c (.int .i64 0)))⟩]
def ref04_Shape_c : ACode := .seq (.region ref04_Shape_r0 false) (.seq (.seq (.region ref04_Shape_r1 false) (.block 0 (.loop ref04_Shape_l0))) (.seq (.seq (.region ref04_Shape_r6 false) (.cond (.t 24) (.seq (.region ref04_Shape_r7 false) (.ret)) (.skip))) (.seq (.region ref04_Shape_r8 true) (.ret))))
theorem ref04_Shape_ok : fchk Pr (fun _ _ => false) Try.f17 = some (ref04_Shape_c, [.tmp 2, .tmp 3, .tmp 4], 31) := by kernel_rfl
theorem ref04_Shape_fn : Pr.funcs[F_ref04_Shape]? = some Try.f17 := Try.func17
/-! mat.Bits -/
def mat_Bits_r0 : List AIns := [⟨some 2, none, .p (.mv (.c (.int .i64 0)))⟩]
def mat_Bits_r1 : List AIns := [⟨some 3, none, .p (.mv (.c (.int .i64 0)))⟩]
def mat_Bits_r2 : List AIns := [⟨some 8, none, .p (.mv (.t 0))⟩,
  ⟨some 9, none, .p (.len (.t 8))⟩,
  ⟨some 10, none, .p (.mv (.c (.int .i64 0)))⟩]
def mat_Bits_r3 : List AIns := [⟨some 11, none, .p (.bin .lss (.t 10) (.t 9))⟩]
def mat_Bits_r4 : List AIns := [⟨some 12, none, .p (.idxp 1 (.t 8) (.t 10))⟩,
  ⟨some 13, none, .p (.load none (.t 12))⟩,
  ⟨some 5, none, .p (.mv (.t 13))⟩]
def mat_Bits_r5 : List AIns := [⟨some 14, none, .p (.mv (.t 5))⟩,
  ⟨some 15, none, .p (.len (.t 14))⟩,
  ⟨some 16, none, .p (.mv (.c (.int .i64 0)))⟩]
def mat_Bits_r6 : List AIns := [⟨some 17, none, .p (.bin .lss (.t 16) (.t 15))⟩]
def mat_Bits_r7 : List AIns := [⟨some 18, none, .p (.idxp 2 (.t 14) (.t 16))⟩,
  ⟨some 19, none, .p (.load (some 2) (.t 18))⟩,
  ⟨some 7, none, .e (.box 2 (.c (.agg [.bool false, .nil])))⟩,
  ⟨none, none, .e (.store 2 (.t 7) (.t 19))⟩]
def mat_Bits_r8 : List AIns := [⟨some 20, none, .p (.mv (.t 3))⟩,
  ⟨some 21, none, .p (.load (some 2) (.t 7))⟩,
  ⟨some 22, none, .call F_zint_Bits [(.t 21)]⟩,
  ⟨some 23, none, .p (.mnx true (.t 20) (.t 22))⟩,
  ⟨some 3, none, .p (.mv (.t 23))⟩]
def mat_Bits_r9 : List AIns := [⟨some 24, none, .p (.bin .add (.t 16) (.c (.int .i64 1)))⟩,
  ⟨some 16, none, .p (.mv (.t 24))⟩]
def mat_Bits_l1 : ACode := .seq (.region mat_Bits_r6 false) (.seq (.cond (.t 17) (.skip) (.exit 2)) (.seq (.block 3 (.seq (.region mat_Bits_r7 false) (.region mat_Bits_r8 false))) (.region mat_Bits_r9 false)))
def mat_Bits_r10 : List AIns := [⟨some 25, none, .p (.bin .add (.t 10) (.c (.int .i64 1)))⟩,
  ⟨some 10, none, .p (.mv (.t 25))⟩]
def mat_Bits_l0 : ACode := .seq (.region mat_Bits_r3 false) (.seq (.cond (.t 11) (.skip) (.exit 0)) (.seq (.block 1 (.seq (.region mat_Bits_r4 false) (.seq (.region mat_Bits_r5 false) (.block 2 (.loop mat_Bits_l1))))) (.region mat_Bits_r10 false)))
def mat_Bits_r11 : List AIns := [⟨some 26, none, .p (.mv (.t 3))⟩,
  ⟨some 2, none, .p (.mv (.t 26))⟩]
def mat_Bits_c : ACode := .seq (.region mat_Bits_r0 false) (.seq (.region mat_Bits_r1 false) (.seq (.seq (.region mat_Bits_r2 false) (.block 0 (.loop mat_Bits_l0))) (.seq (.region mat_Bits_r11 false) (.ret))))
theorem mat_Bits_ok : fchk Pr (fun _ _ => false) Try.f18 = some (mat_Bits_c, [.tmp 2], 27) := by kernel_rfl
theorem mat_Bits_fn : Pr.funcs[F_mat_Bits]? = some Try.f18 := Try.func18
/-! trammelref04.Bits -/
def ref04_Bits_r0 : List AIns := [⟨some 2, none, .p (.mv (.c (.int .i64 0)))⟩]
def ref04_Bits_r1 : List AIns := [⟨some 3, none, .p (.mv (.c (.int .i64 0)))⟩]
def ref04_Bits_r2 : List AIns := [⟨some 4, none, .p (.mv (.c (.int .i64 0)))⟩]
def ref04_Bits_r3 : List AIns := [⟨some 6, none, .p (.mv (.t 4))⟩,
  ⟨some 7, none, .p (.mv (.t 0))⟩,
  ⟨some 8, none, .p (.len (.t 7))⟩,
  ⟨some 9, none, .p (.bin .lss (.t 6) (.t 8))⟩]
def ref04_Bits_r4 : List AIns := [⟨some 5, none, .p (.mv (.c (.int .i64 0)))⟩]
def ref04_Bits_r5 : List AIns := [⟨some 12, none, .p (.mv (.t 5))⟩,
  ⟨some 13, none, .p (.mv (.t 0))⟩,
  ⟨some 14, none, .p (.mv (.t 4))⟩,
  ⟨some 15, none, .p (.idxp 1 (.t 13) (.t 14))⟩,
  ⟨some 16, none, .p (.load none (.t 15))⟩,
  ⟨some 17, none, .p (.len (.t 16))⟩,
  ⟨some 18, none, .p (.bin .lss (.t 12) (.t 17))⟩]
def ref04_Bits_r6 : List AIns := [⟨some 21, none, .p (.mv (.t 3))⟩,
  ⟨some 22, none, .p (.mv (.t 0))⟩,
  ⟨some 23, none, .p (.mv (.t 4))⟩,
  ⟨some 24, none, .p (.idxp 1 (.t 22) (.t 23))⟩,
  ⟨some 25, none, .p (.load none (.t 24))⟩,
  ⟨some 26, none, .p (.mv (.t 5))⟩,
  ⟨some 27, none, .p (.idxp 2 (.t 25) (.t 26))⟩,
  ⟨some 28, none, .p (.load (some 2) (.t 27))⟩,
  ⟨some 29, none, .call F_ref02_Bits [(.t 28)]⟩,
  ⟨some 30, none, .p (.mnx true (.t 21) (.t 29))⟩,
  ⟨some 3, none, .p (.mv (.t 30))⟩]
def ref04_Bits_r7 : List AIns := [⟨some 19, none, .p (.mv (.t 5))⟩,
  ⟨some 20, none, .p (.bin .add (.t 19) (.c (.int .i64 1)))⟩,
  ⟨some 5, none, .p (.mv (.t 20))⟩]
def ref04_Bits_l1 : ACode := .seq (.seq (.region ref04_Bits_r5 false) (.cond (.t 18) (.skip) (.exit 2))) (.seq (.block 3 (.region ref04_Bits_r6 false)) (.region ref04_Bits_r7 false))
def ref04_Bits_r8 : List AIns := [⟨some 10, none, .p (.mv (.t 4))⟩,
  ⟨some 11, none, .p (.bin .add (.t 10) (.c (.int .i64 1)))⟩,
  ⟨some 4, none, .p (.mv (.t 11))⟩]
def ref04_Bits_l0 : ACode := .seq (.seq (.region ref04_Bits_r3 false) (.cond (.t 9) (.skip) (.exit 0))) (.seq (.block 1 (.seq (.region ref04_Bits_r4 false) (.block 2 (.loop ref04_Bits_l1)))) (.region ref04_Bits_r8 false))
def ref04_Bits_r9 : List AIns := [⟨some 31, none, .p (.mv (.t 3))⟩,
  ⟨some 2, none, .p (.mv (.t 31))⟩]
def ref04_Bits_c : ACode := .seq (.region ref04_Bits_r0 false) (.seq (.region ref04_Bits_r1 false) (.seq (.seq (.region ref04_Bits_r2 false) (.block 0 (.loop ref04_Bits_l0))) (.seq (.region ref04_Bits_r9 false) (.ret))))
theorem ref04_Bits_ok : fchk Pr (fun _ _ => false) Try.f19 = some (ref04_Bits_c, [.tmp 2], 32) := by kernel_rfl
theorem ref04_Bits_fn : Pr.funcs[F_ref04_Bits]? = some Try.f19 := Try.func19
/-! mat.Unit -/
def mat_Unit_r0 : List AIns := [⟨some 2, none, .p (.mv (.c (.nil)))⟩,
  ⟨some 3, none, .p (.mv (.c (.int .i64 0)))⟩]
def mat_Unit_r1 : List AIns := [⟨some 8, none, .p (.mv (.t 0))⟩,
  ⟨some 9, none, .p (.bin .lss (.t 8) (.c (.int .i64 0)))⟩,
  ⟨some 7, none, .p (.mv (.t 9))⟩]
def mat_Unit_r2 : List AIns := [⟨some 2, none, .p (.mv (.c (.nil)))⟩,
  ⟨some 3, none, .p (.mv (.c (.int .i64 1)))⟩]
def mat_Unit_r3 : List AIns := [⟨some 11, none, .p (.mv (.t 0))⟩,
  ⟨some 12, none, .p (.bin .gtr (.t 11) (.c (.int .i64 64)))⟩,
  ⟨some 10, none, .p (.mv (.t 12))⟩]
def mat_Unit_r4 : List AIns := [⟨some 2, none, .p (.mv (.c (.nil)))⟩,
  ⟨some 3, none, .p (.mv (.c (.int .i64 2)))⟩]
def mat_Unit_r5 : List AIns := [⟨some 4, none, .p (.mv (.c (.nil)))⟩]
def mat_Unit_r6 : List AIns := [⟨some 13, none, .p (.mv (.t 0))⟩,
  ⟨some 14, none, .p (.mv (.c (.int .i64 0)))⟩]
def mat_Unit_r7 : List AIns := [⟨some 15, none, .p (.bin .lss (.t 14) (.t 13))⟩]
def mat_Unit_r8 : List AIns := [⟨some 16, none, .p (.mv (.t 14))⟩,
  ⟨some 5, none, .p (.mv (.t 16))⟩]
def mat_Unit_r9 : List AIns := [⟨some 17, none, .p (.mv (.t 0))⟩,
  ⟨some 18, none, .e (.mksl 2 32 (.agg [.bool false, .nil]) (.t 17) (.t 17))⟩,
  ⟨some 6, none, .p (.mv (.t 18))⟩]
def mat_Unit_r10 : List AIns := [⟨some 19, none, .p (.mv (.t 6))⟩,
  ⟨some 20, none, .p (.mv (.t 5))⟩,
  ⟨some 21, none, .call F_zint_Of [(.c (.int .i64 1))]⟩,
  ⟨some 22, none, .p (.idxp 2 (.t 19) (.t 20))⟩,
  ⟨none, none, .e (.store 2 (.t 22) (.t 21))⟩]
def mat_Unit_r11 : List AIns := [⟨some 23, none, .p (.mv (.t 4))⟩,
  ⟨some 24, none, .p (.mv (.t 6))⟩,
  ⟨some 25, none, .e (.bsl 1 [(.t 24)])⟩,
  ⟨some 26, none, .e (.app 1 24 false (.t 23) (.t 25))⟩,
  ⟨some 4, none, .p (.mv (.t 26))⟩]
def mat_Unit_r12 : List AIns := [⟨some 27, none, .p (.bin .add (.t 14) (.c (.int .i64 1)))⟩,
  ⟨some 14, none, .p (.mv (.t 27))⟩]
def mat_Unit_l0 : ACode := .seq (.region mat_Unit_r7 false) (.seq (.cond (.t 15) (.skip) (.exit 1)) (.seq (.block 2 (.seq (.region mat_Unit_r8 false) (.seq (.region mat_Unit_r9 false) (.seq (.region mat_Unit_r10 false) (.region mat_Unit_r11 false))))) (.region mat_Unit_r12 false)))
def mat_Unit_r13 : List AIns := [⟨some 28, none, .p (.mv (.t 4))⟩,
  ⟨some 2, none, .p (.mv (.t 28))⟩,
  ⟨some 3, none, .p (.mv (.c (.int .i64 0)))⟩]
def mat_Unit_c : ACode := .seq (.region mat_Unit_r0 false) (.seq (.block 0 (.seq (.region mat_Unit_r1 false) (.cond (.t 7) (.seq (.region mat_Unit_r2 false) (.ret)) (.seq (.region mat_Unit_r3 false) (.cond (.t 10) (.seq (.region mat_Unit_r4 false) (.ret)) (.skip)))))) (.seq (.region mat_Unit_r5 false) (.seq (.seq (.region mat_Unit_r6 false) (.block 1 (.loop mat_Unit_l0))) (.seq (.region mat_Unit_r13 false) (.ret)))))
theorem mat_Unit_ok : fchk Pr (fun _ _ => false) Try.f20 = some (mat_Unit_c, [.tmp 2, .tmp 3], 29) := by kernel_rfl
theorem mat_Unit_fn : Pr.funcs[F_mat_Unit]? = some Try.f20 := Try.func20
/-! trammelref04.Unit -/
def ref04_Unit_r0 : List AIns := [⟨some 2, none, .p (.mv (.c (.nil)))⟩,
  ⟨some 3, none, .p (.mv (.c (.int .i64 0)))⟩]
def ref04_Unit_r1 : List AIns := [⟨some 8, none, .p (.mv (.t 0))⟩,
  ⟨some 9, none, .p (.bin .lss (.t 8) (.c (.int .i64 0)))⟩]
def ref04_Unit_r2 : List AIns := [⟨some 2, none, .p (.mv (.c (.nil)))⟩,
  ⟨some 3, none, .p (.mv (.c (.int .i64 1)))⟩]
def ref04_Unit_r3 : List AIns := [⟨some 10, none, .p (.mv (.t 0))⟩,
  ⟨some 11, none, .p (.bin .gtr (.t 10) (.c (.int .i64 64)))⟩]
def ref04_Unit_r4 : List AIns := [⟨some 2, none, .p (.mv (.c (.nil)))⟩,
  ⟨some 3, none, .p (.mv (.c (.int .i64 2)))⟩]
def ref04_Unit_r5 : List AIns := [⟨some 4, none, .p (.mv (.c (.nil)))⟩]
def ref04_Unit_r6 : List AIns := [⟨some 5, none, .p (.mv (.c (.int .i64 0)))⟩]
def ref04_Unit_r7 : List AIns := [⟨some 12, none, .p (.mv (.t 5))⟩,
  ⟨some 13, none, .p (.mv (.t 0))⟩,
  ⟨some 14, none, .p (.bin .lss (.t 12) (.t 13))⟩]
def ref04_Unit_r8 : List AIns := [⟨some 6, none, .p (.mv (.c (.nil)))⟩]
def ref04_Unit_r9 : List AIns := [⟨some 7, none, .p (.mv (.c (.int .i64 0)))⟩]
def ref04_Unit_r10 : List AIns := [⟨some 17, none, .p (.mv (.t 7))⟩,
  ⟨some 18, none, .p (.mv (.t 0))⟩,
  ⟨some 19, none, .p (.bin .lss (.t 17) (.t 18))⟩]
def ref04_Unit_r11 : List AIns := [⟨some 22, none, .p (.mv (.t 5))⟩,
  ⟨some 23, none, .p (.mv (.t 7))⟩,
  ⟨some 24, none, .p (.bin .eql (.t 22) (.t 23))⟩]
def ref04_Unit_r12 : List AIns := [⟨some 25, none, .p (.mv (.t 6))⟩,
  ⟨some 26, none, .call F_ref02_Of [(.c (.int .i64 1))]⟩,
  ⟨some 27, none, .e (.bsl 2 [(.t 26)])⟩,
  ⟨some 28, none, .e (.app 2 32 false (.t 25) (.t 27))⟩,
  ⟨some 6, none, .p (.mv (.t 28))⟩]
def ref04_Unit_r13 : List AIns := [⟨some 29, none, .p (.mv (.t 6))⟩,
  ⟨some 30, none, .call F_ref02_Of [(.c (.int .i64 0))]⟩,
  ⟨some 31, none, .e (.bsl 2 [(.t 30)])⟩,
  ⟨some 32, none, .e (.app 2 32 false (.t 29) (.t 31))⟩,
  ⟨some 6, none, .p (.mv (.t 32))⟩]
def ref04_Unit_r14 : List AIns := [⟨some 20, none, .p (.mv (.t 7))⟩,
  ⟨some 21, none, .p (.bin .add (.t 20) (.c (.int .i64 1)))⟩,
  ⟨some 7, none, .p (.mv (.t 21))⟩]
def ref04_Unit_l1 : ACode := .seq (.seq (.region ref04_Unit_r10 false) (.cond (.t 19) (.skip) (.exit 2))) (.seq (.block 3 (.seq (.region ref04_Unit_r11 false) (.cond (.t 24) (.region ref04_Unit_r12 false) (.region ref04_Unit_r13 false)))) (.region ref04_Unit_r14 false))
def ref04_Unit_r15 : List AIns := [⟨some 33, none, .p (.mv (.t 4))⟩,
  ⟨some 34, none, .p (.mv (.t 6))⟩,
  ⟨some 35, none, .e (.bsl 1 [(.t 34)])⟩,
  ⟨some 36, none, .e (.app 1 24 false (.t 33) (.t 35))⟩,
  ⟨some 4, none, .p (.mv (.t 36))⟩]
def ref04_Unit_r16 : List AIns := [⟨some 15, none, .p (.mv (.t 5))⟩,
  ⟨some 16, none, .p (.bin .add (.t 15) (.c (.int .i64 1)))⟩,
  ⟨some 5, none, .p (.mv (.t 16))⟩]
def ref04_Unit_l0 : ACode := .seq (.seq (.region ref04_Unit_r7 false) (.cond (.t 14) (.skip) (.exit 0))) (.seq (.block 1 (.seq (.region ref04_Unit_r8 false) (.seq (.seq (.region ref04_Unit_r9 false) (.block 2 (.loop ref04_Unit_l1))) (.region ref04_Unit_r15 false)))) (.region ref04_Unit_r16 false))
def ref04_Unit_r17 : List AIns := [⟨some 37, none, .p (.mv (.t 4))⟩,
  ⟨some 2, none, .p (.mv (.t 37))⟩,
  ⟨some 3, none, .p (.mv (.c (.int .i64 0)))⟩]
def ref04_Unit_c : ACode := .seq (.region ref04_Unit_r0 false) (.seq (.seq (.region ref04_Unit_r1 false) (.cond (.t 9) (.seq (.region ref04_Unit_r2 false) (.ret)) (.skip))) (.seq (.seq (.region ref04_Unit_r3 false) (.cond (.t 11) (.seq (.region ref04_Unit_r4 false) (.ret)) (.skip))) (.seq (.region ref04_Unit_r5 false) (.seq (.seq (.region ref04_Unit_r6 false) (.block 0 (.loop ref04_Unit_l0))) (.seq (.region ref04_Unit_r17 false) (.ret))))))
theorem ref04_Unit_ok : fchk Pr (fun _ _ => false) Try.f21 = some (ref04_Unit_c, [.tmp 2, .tmp 3], 38) := by kernel_rfl
theorem ref04_Unit_fn : Pr.funcs[F_ref04_Unit]? = some Try.f21 := Try.func21
/-! trammellaw04.eqm -/
def law04_eqm_r0 : List AIns := [⟨some 4, none, .p (.mv (.c (.bool false)))⟩]
def law04_eqm_r1 : List AIns := [⟨some 6, none, .p (.mv (.t 0))⟩,
  ⟨some 7, none, .p (.len (.t 6))⟩,
  ⟨some 8, none, .p (.mv (.t 1))⟩,
  ⟨some 9, none, .p (.len (.t 8))⟩,
  ⟨some 10, none, .p (.bin .neq (.t 7) (.t 9))⟩]
def law04_eqm_r2 : List AIns := [⟨some 4, none, .p (.mv (.c (.bool false)))⟩]
def law04_eqm_r3 : List AIns := [⟨some 5, none, .p (.mv (.c (.int .i64 0)))⟩]
def law04_eqm_r4 : List AIns := [⟨some 11, none, .p (.mv (.t 5))⟩,
  ⟨some 12, none, .p (.mv (.t 0))⟩,
  ⟨some 13, none, .p (.len (.t 12))⟩,
  ⟨some 14, none, .p (.bin .lss (.t 11) (.t 13))⟩]
def law04_eqm_r5 : List AIns := [⟨some 17, none, .p (.mv (.t 0))⟩,
  ⟨some 18, none, .p (.mv (.t 5))⟩,
  ⟨some 19, none, .p (.idxp 1 (.t 17) (.t 18))⟩,
  ⟨some 20, none, .p (.load none (.t 19))⟩,
  ⟨some 21, none, .p (.mv (.t 1))⟩,
  ⟨some 22, none, .p (.mv (.t 5))⟩,
  ⟨some 23, none, .p (.idxp 1 (.t 21) (.t 22))⟩,
  ⟨some 24, none, .p (.load none (.t 23))⟩,
  ⟨some 25, none, .call F_law04_eqs [(.t 20), (.t 24)]⟩,
  ⟨some 26, none, .p (.un .not (.t 25))⟩]
def law04_eqm_r6 : List AIns := [⟨some 4, none, .p (.mv (.c (.bool false)))⟩]
def law04_eqm_r7 : List AIns := [⟨some 15, none, .p (.mv (.t 5))⟩,
  ⟨some 16, none, .p (.bin .add (.t 15) (.c (.int .i64 1)))⟩,
  ⟨some 5, none, .p (.mv (.t 16))⟩]
def law04_eqm_l0 : ACode := .seq (.seq (.region law04_eqm_r4 false) (.cond (.t 14) (.skip) (.exit 0))) (.seq (.block 1 (.seq (.region law04_eqm_r5 true) (.cond (.t 26) (.seq (.region law04_eqm_r6 false) (.ret)) (.skip)))) (.region law04_eqm_r7 false))
def law04_eqm_r8 : List AIns := [⟨some 4, none, .p (.mv (.c (.bool true)))⟩]
def law04_eqm_c : ACode := .seq (.region law04_eqm_r0 false) (.seq (.seq (.region law04_eqm_r1 false) (.cond (.t 10) (.seq (.region law04_eqm_r2 false) (.ret)) (.skip))) (.seq (.seq (.region law04_eqm_r3 false) (.block 0 (.loop law04_eqm_l0))) (.seq (.region law04_eqm_r8 false) (.ret))))
theorem law04_eqm_ok : fchk Pr (fun _ _ => false) Try.f22 = some (law04_eqm_c, [.tmp 4], 27) := by kernel_rfl
theorem law04_eqm_fn : Pr.funcs[F_law04_eqm]? = some Try.f22 := Try.func22
/-! mat.Form -/
def mat_Form_r0 : List AIns := [⟨some 2, none, .p (.mv (.c (.nil)))⟩]
def mat_Form_r1 : List AIns := [⟨some 3, none, .p (.mv (.t 0))⟩,
  ⟨some 4, none, .call F_mat_each_V_V [(.t 3), (.c (.fn F_mat_Form_1 []))]⟩,
  ⟨some 2, none, .p (.mv (.t 4))⟩]
def mat_Form_c : ACode := .seq (.region mat_Form_r0 false) (.seq (.region mat_Form_r1 false) (.ret))
theorem mat_Form_ok : fchk Pr (fun _ _ => false) Try.f23 = some (mat_Form_c, [.tmp 2], 5) := by kernel_rfl
theorem mat_Form_fn : Pr.funcs[F_mat_Form]? = some Try.f23 := Try.func23
/-! mat.Order -/
def mat_Order_r0 : List AIns := [⟨some 4, none, .p (.mv (.c (.int .i64 0)))⟩]
def mat_Order_r1 : List AIns := [⟨some 7, none, .p (.mv (.t 0))⟩,
  ⟨some 8, none, .p (.len (.t 7))⟩,
  ⟨some 9, none, .p (.mv (.t 1))⟩,
  ⟨some 10, none, .p (.len (.t 9))⟩,
  ⟨some 11, none, .p (.mnx false (.t 8) (.t 10))⟩,
  ⟨some 12, none, .p (.mv (.c (.int .i64 0)))⟩]
def mat_Order_r2 : List AIns := [⟨some 13, none, .p (.bin .lss (.t 12) (.t 11))⟩]
def mat_Order_r3 : List AIns := [⟨some 14, none, .p (.mv (.t 12))⟩,
  ⟨some 5, none, .p (.mv (.t 14))⟩]
def mat_Order_r4 : List AIns := [⟨some 15, none, .p (.mv (.t 0))⟩,
  ⟨some 16, none, .p (.mv (.t 5))⟩,
  ⟨some 17, none, .p (.idxp 2 (.t 15) (.t 16))⟩,
  ⟨some 18, none, .p (.load (some 2) (.t 17))⟩,
  ⟨some 19, none, .p (.mv (.t 1))⟩,
  ⟨some 20, none, .p (.mv (.t 5))⟩,
  ⟨some 21, none, .p (.idxp 2 (.t 19) (.t 20))⟩,
  ⟨some 22, none, .p (.load (some 2) (.t 21))⟩,
  ⟨some 23, none, .call F_zint_Compare [(.t 18), (.t 22)]⟩,
  ⟨some 6, none, .p (.mv (.t 23))⟩]
def mat_Order_r5 : List AIns := [⟨some 24, none, .p (.mv (.t 6))⟩,
  ⟨some 25, none, .p (.bin .neq (.t 24) (.c (.int .i64 0)))⟩]
def mat_Order_r6 : List AIns := [⟨some 26, none, .p (.mv (.t 6))⟩,
  ⟨some 4, none, .p (.mv (.t 26))⟩]
def mat_Order_r7 : List AIns := [⟨some 27, none, .p (.bin .add (.t 12) (.c (.int .i64 1)))⟩,
  ⟨some 12, none, .p (.mv (.t 27))⟩]
def mat_Order_l0 : ACode := .seq (.region mat_Order_r2 false) (.seq (.cond (.t 13) (.skip) (.exit 0)) (.seq (.block 1 (.seq (.region mat_Order_r3 false) (.seq (.region mat_Order_r4 true) (.seq (.region mat_Order_r5 false) (.cond (.t 25) (.seq (.region mat_Order_r6 false) (.ret)) (.skip)))))) (.region mat_Order_r7 false)))
def mat_Order_r8 : List AIns := [⟨some 29, none, .p (.mv (.t 0))⟩,
  ⟨some 30, none, .p (.len (.t 29))⟩,
  ⟨some 31, none, .p (.mv (.t 1))⟩,
  ⟨some 32, none, .p (.len (.t 31))⟩,
  ⟨some 33, none, .p (.bin .lss (.t 30) (.t 32))⟩,
  ⟨some 28, none, .p (.mv (.t 33))⟩]
def mat_Order_r9 : List AIns := [⟨some 4, none, .p (.mv (.c (.int .i64 (-1))))⟩]
def mat_Order_r10 : List AIns := [⟨some 35, none, .p (.mv (.t 0))⟩,
  ⟨some 36, none, .p (.len (.t 35))⟩,
  ⟨some 37, none, .p (.mv (.t 1))⟩,
  ⟨some 38, none, .p (.len (.t 37))⟩,
  ⟨some 39, none, .p (.bin .gtr (.t 36) (.t 38))⟩,
  ⟨some 34, none, .p (.mv (.t 39))⟩]
def mat_Order_r11 : List AIns := [⟨some 4, none, .p (.mv (.c (.int .i64 1)))⟩]
def mat_Order_r12 : List AIns := [⟨some 4, none, .p (.mv (.c (.int .i64 0)))⟩]
def mat_Order_c : ACode := .seq (.region mat_Order_r0 false) (.seq (.seq (.region mat_Order_r1 false) (.block 0 (.loop mat_Order_l0))) (.seq (.block 2 (.seq (.region mat_Order_r8 false) (.cond (.t 28) (.seq (.region mat_Order_r9 false) (.ret)) (.seq (.region mat_Order_r10 false) (.cond (.t 34) (.seq (.region mat_Order_r11 false) (.ret)) (.skip)))))) (.seq (.region mat_Order_r12 false) (.ret))))
theorem mat_Order_ok : fchk Pr (fun _ _ => false) Try.f24 = some (mat_Order_c, [.tmp 4], 40) := by kernel_rfl
theorem mat_Order_fn : Pr.funcs[F_mat_Order]? = some Try.f24 := Try.func24
/-! trammellaw04.owns -/
def law04_owns_r0 : List AIns := [⟨some 2, none, .p (.mv (.c (.nil)))⟩]
def law04_owns_r1 : List AIns := [⟨some 3, none, .p (.mv (.c (.nil)))⟩]
def law04_owns_r2 : List AIns := [⟨some 4, none, .p (.mv (.c (.int .i64 0)))⟩]
def law04_owns_r3 : List AIns := [⟨some 5, none, .p (.mv (.t 4))⟩,
  ⟨some 6, none, .p (.mv (.t 0))⟩,
  ⟨some 7, none, .p (.len (.t 6))⟩,
  ⟨some 8, none, .p (.bin .lss (.t 5) (.t 7))⟩]
def law04_owns_r4 : List AIns := [⟨some 11, none, .p (.mv (.t 3))⟩,
  ⟨some 12, none, .p (.mv (.t 0))⟩,
  ⟨some 13, none, .p (.mv (.t 4))⟩,
  ⟨some 14, none, .p (.idxp 2 (.t 12) (.t 13))⟩,
  ⟨some 15, none, .p (.load (some 2) (.t 14))⟩,
  ⟨some 16, none, .call F_law04_own [(.t 15)]⟩,
  ⟨some 17, none, .e (.bsl 2 [(.t 16)])⟩,
  ⟨some 18, none, .e (.app 2 32 false (.t 11) (.t 17))⟩,
  ⟨some 3, none, .p (.mv (.t 18))⟩]
def law04_owns_r5 : List AIns := [⟨some 9, none, .p (.mv (.t 4))⟩,
  ⟨some 10, none, .p (.bin .add (.t 9) (.c (.int .i64 1)))⟩,
  ⟨some 4, none, .p (.mv (.t 10))⟩]
def law04_owns_l0 : ACode := .seq (.seq (.region law04_owns_r3 false) (.cond (.t 8) (.skip) (.exit 0))) (.seq (.block 1 (.region law04_owns_r4 false)) (.region law04_owns_r5 false))
def law04_owns_r6 : List AIns := [⟨some 19, none, .p (.mv (.t 3))⟩,
  ⟨some 2, none, .p (.mv (.t 19))⟩]
def law04_owns_c : ACode := .seq (.region law04_owns_r0 false) (.seq (.region law04_owns_r1 false) (.seq (.seq (.region law04_owns_r2 false) (.block 0 (.loop law04_owns_l0))) (.seq (.region law04_owns_r6 false) (.ret))))
theorem law04_owns_ok : fchk Pr (fun _ _ => false) Try.f25 = some (law04_owns_c, [.tmp 2], 20) := by kernel_rfl
theorem law04_owns_fn : Pr.funcs[F_law04_owns]? = some Try.f25 := Try.func25
/-! trammelref04.Order -/
def ref04_Order_r0 : List AIns := [⟨some 4, none, .p (.mv (.c (.int .i64 0)))⟩]
def ref04_Order_r1 : List AIns := [⟨some 5, none, .p (.mv (.c (.int .i64 0)))⟩]
def ref04_Order_r2 : List AIns := [⟨some 7, none, .p (.mv (.t 5))⟩,
  ⟨some 8, none, .p (.mv (.t 0))⟩,
  ⟨some 9, none, .p (.len (.t 8))⟩,
  ⟨some 10, none, .p (.bin .lss (.t 7) (.t 9))⟩,
  ⟨some 11, none, .p (.mv (.t 10))⟩,
  ⟨some 12, some (11, true), .p (.mv (.t 5))⟩,
  ⟨some 13, some (11, true), .p (.mv (.t 1))⟩,
  ⟨some 14, some (11, true), .p (.len (.t 13))⟩,
  ⟨some 15, some (11, true), .p (.bin .lss (.t 12) (.t 14))⟩,
  ⟨some 16, none, .p (.pick (.t 11) (.t 15) (.c (.bool false)))⟩]
def ref04_Order_r3 : List AIns := [⟨some 19, none, .p (.mv (.t 0))⟩,
  ⟨some 20, none, .p (.mv (.t 5))⟩,
  ⟨some 21, none, .p (.idxp 2 (.t 19) (.t 20))⟩,
  ⟨some 22, none, .p (.load (some 2) (.t 21))⟩,
  ⟨some 23, none, .p (.mv (.t 1))⟩,
  ⟨some 24, none, .p (.mv (.t 5))⟩,
  ⟨some 25, none, .p (.idxp 2 (.t 23) (.t 24))⟩,
  ⟨some 26, none, .p (.load (some 2) (.t 25))⟩,
  ⟨some 27, none, .call F_ref02_Cmp [(.t 22), (.t 26)]⟩,
  ⟨some 6, none, .p (.mv (.t 27))⟩]
def ref04_Order_r4 : List AIns := [⟨some 28, none, .p (.mv (.t 6))⟩,
  ⟨some 29, none, .p (.bin .neq (.t 28) (.c (.int .i64 0)))⟩]
def ref04_Order_r5 : List AIns := [⟨some 30, none, .p (.mv (.t 6))⟩,
  ⟨some 4, none, .p (.mv (.t 30))⟩]
def ref04_Order_r6 : List AIns := [⟨some 17, none, .p (.mv (.t 5))⟩,
  ⟨some 18, none, .p (.bin .add (.t 17) (.c (.int .i64 1)))⟩,
  ⟨some 5, none, .p (.mv (.t 18))⟩]
def ref04_Order_l0 : ACode := .seq (.seq (.region ref04_Order_r2 false) (.cond (.t 16) (.skip) (.exit 0))) (.seq (.block 1 (.seq (.region ref04_Order_r3 true) (.seq (.region ref04_Order_r4 false) (.cond (.t 29) (.seq (.region ref04_Order_r5 false) (.ret)) (.skip))))) (.region ref04_Order_r6 false))
def ref04_Order_r7 : List AIns := [⟨some 32, none, .p (.mv (.t 0))⟩,
  ⟨some 33, none, .p (.len (.t 32))⟩,
  ⟨some 34, none, .p (.mv (.t 1))⟩,
  ⟨some 35, none, .p (.len (.t 34))⟩,
  ⟨some 36, none, .p (.bin .lss (.t 33) (.t 35))⟩,
  ⟨some 31, none, .p (.mv (.t 36))⟩]
def ref04_Order_r8 : List AIns := [⟨some 4, none, .p (.mv (.c (.int .i64 (-1))))⟩]
def ref04_Order_r9 : List AIns := [⟨some 38, none, .p (.mv (.t 0))⟩,
  ⟨some 39, none, .p (.len (.t 38))⟩,
  ⟨some 40, none, .p (.mv (.t 1))⟩,
  ⟨some 41, none, .p (.len (.t 40))⟩,
  ⟨some 42, none, .p (.bin .gtr (.t 39) (.t 41))⟩,
  ⟨some 37, none, .p (.mv (.t 42))⟩]
def ref04_Order_r10 : List AIns := [⟨some 4, none, .p (.mv (.c (.int .i64 1)))⟩]
def ref04_Order_r11 : List AIns := [⟨some 4, none, .p (.mv (.c (.int .i64 0)))⟩]
def ref04_Order_c : ACode := .seq (.region ref04_Order_r0 false) (.seq (.seq (.region ref04_Order_r1 false) (.block 0 (.loop ref04_Order_l0))) (.seq (.block 2 (.seq (.region ref04_Order_r7 false) (.cond (.t 31) (.seq (.region ref04_Order_r8 false) (.ret)) (.seq (.region ref04_Order_r9 false) (.cond (.t 37) (.seq (.region ref04_Order_r10 false) (.ret)) (.skip)))))) (.seq (.region ref04_Order_r11 false) (.ret))))
theorem ref04_Order_ok : fchk Pr (fun _ _ => false) Try.f26 = some (ref04_Order_c, [.tmp 4], 43) := by kernel_rfl
theorem ref04_Order_fn : Pr.funcs[F_ref04_Order]? = some Try.f26 := Try.func26
/-! mat.Lead -/
def mat_Lead_r0 : List AIns := [⟨some 2, none, .p (.mv (.c (.int .i64 0)))⟩]
def mat_Lead_r1 : List AIns := [⟨some 5, none, .p (.mv (.t 0))⟩,
  ⟨some 6, none, .p (.len (.t 5))⟩,
  ⟨some 7, none, .p (.mv (.c (.int .i64 0)))⟩]
def mat_Lead_r2 : List AIns := [⟨some 8, none, .p (.bin .lss (.t 7) (.t 6))⟩]
def mat_Lead_r3 : List AIns := [⟨some 9, none, .p (.mv (.t 7))⟩,
  ⟨some 10, none, .p (.idxp 2 (.t 5) (.t 7))⟩,
  ⟨some 11, none, .p (.load (some 2) (.t 10))⟩,
  ⟨some 4, none, .e (.box 2 (.c (.agg [.bool false, .nil])))⟩,
  ⟨some 3, none, .p (.mv (.t 9))⟩,
  ⟨none, none, .e (.store 2 (.t 4) (.t 11))⟩]
def mat_Lead_r4 : List AIns := [⟨some 12, none, .p (.load (some 2) (.t 4))⟩,
  ⟨some 13, none, .call F_zint_Sign [(.t 12)]⟩,
  ⟨some 14, none, .p (.bin .neq (.t 13) (.c (.int .i64 0)))⟩]
def mat_Lead_r5 : List AIns := [⟨some 15, none, .p (.mv (.t 3))⟩,
  ⟨some 2, none, .p (.mv (.t 15))⟩]
def mat_Lead_r6 : List AIns := [⟨some 16, none, .p (.bin .add (.t 7) (.c (.int .i64 1)))⟩,
  ⟨some 7, none, .p (.mv (.t 16))⟩]
def mat_Lead_l0 : ACode := .seq (.region mat_Lead_r2 false) (.seq (.cond (.t 8) (.skip) (.exit 0)) (.seq (.block 1 (.seq (.region mat_Lead_r3 false) (.seq (.region mat_Lead_r4 false) (.cond (.t 14) (.seq (.region mat_Lead_r5 false) (.ret)) (.skip))))) (.region mat_Lead_r6 false)))
def mat_Lead_r7 : List AIns := [⟨some 2, none, .p (.mv (.c (.int .i64 (-1))))⟩]
def mat_Lead_c : ACode := .seq (.region mat_Lead_r0 false) (.seq (.seq (.region mat_Lead_r1 false) (.block 0 (.loop mat_Lead_l0))) (.seq (.region mat_Lead_r7 false) (.ret)))
theorem mat_Lead_ok : fchk Pr (fun _ _ => false) Try.f27 = some (mat_Lead_c, [.tmp 2], 17) := by kernel_rfl
theorem mat_Lead_fn : Pr.funcs[F_mat_Lead]? = some Try.f27 := Try.func27
/-! trammelref04.Lead -/
def ref04_Lead_r0 : List AIns := [⟨some 2, none, .p (.mv (.c (.int .i64 0)))⟩]
def ref04_Lead_r1 : List AIns := [⟨some 3, none, .p (.mv (.c (.int .i64 0)))⟩]
def ref04_Lead_r2 : List AIns := [⟨some 4, none, .p (.mv (.t 3))⟩,
  ⟨some 5, none, .p (.mv (.t 0))⟩,
  ⟨some 6, none, .p (.len (.t 5))⟩,
  ⟨some 7, none, .p (.bin .lss (.t 4) (.t 6))⟩]
def ref04_Lead_r3 : List AIns := [⟨some 10, none, .p (.mv (.t 0))⟩,
  ⟨some 11, none, .p (.mv (.t 3))⟩,
  ⟨some 12, none, .p (.idxp 2 (.t 10) (.t 11))⟩,
  ⟨some 13, none, .p (.load (some 2) (.t 12))⟩,
  ⟨some 14, none, .call F_ref02_Sign [(.t 13)]⟩,
  ⟨some 15, none, .p (.bin .neq (.t 14) (.c (.int .i64 0)))⟩]
def ref04_Lead_r4 : List AIns := [⟨some 16, none, .p (.mv (.t 3))⟩,
  ⟨some 2, none, .p (.mv (.t 16))⟩]
def ref04_Lead_r5 : List AIns := [⟨some 8, none, .p (.mv (.t 3))⟩,
  ⟨some 9, none, .p (.bin .add (.t 8) (.c (.int .i64 1)))⟩,
  ⟨some 3, none, .p (.mv (.t 9))⟩]
def ref04_Lead_l0 : ACode := .seq (.seq (.region ref04_Lead_r2 false) (.cond (.t 7) (.skip) (.exit 0))) (.seq (.block 1 (.seq (.region ref04_Lead_r3 false) (.cond (.t 15) (.seq (.region ref04_Lead_r4 false) (.ret)) (.skip)))) (.region ref04_Lead_r5 false))
def ref04_Lead_r6 : List AIns := [⟨some 2, none, .p (.mv (.c (.int .i64 (-1))))⟩]
def ref04_Lead_c : ACode := .seq (.region ref04_Lead_r0 false) (.seq (.seq (.region ref04_Lead_r1 false) (.block 0 (.loop ref04_Lead_l0))) (.seq (.region ref04_Lead_r6 false) (.ret)))
theorem ref04_Lead_ok : fchk Pr (fun _ _ => false) Try.f28 = some (ref04_Lead_c, [.tmp 2], 17) := by kernel_rfl
theorem ref04_Lead_fn : Pr.funcs[F_ref04_Lead]? = some Try.f28 := Try.func28
/-! trammellaw04.eqs -/
def law04_eqs_r0 : List AIns := [⟨some 4, none, .p (.mv (.c (.bool false)))⟩]
def law04_eqs_r1 : List AIns := [⟨some 6, none, .p (.mv (.t 0))⟩,
  ⟨some 7, none, .p (.len (.t 6))⟩,
  ⟨some 8, none, .p (.mv (.t 1))⟩,
  ⟨some 9, none, .p (.len (.t 8))⟩,
  ⟨some 10, none, .p (.bin .neq (.t 7) (.t 9))⟩]
def law04_eqs_r2 : List AIns := [⟨some 4, none, .p (.mv (.c (.bool false)))⟩]
def law04_eqs_r3 : List AIns := [⟨some 5, none, .p (.mv (.c (.int .i64 0)))⟩]
def law04_eqs_r4 : List AIns := [⟨some 11, none, .p (.mv (.t 5))⟩,
  ⟨some 12, none, .p (.mv (.t 0))⟩,
  ⟨some 13, none, .p (.len (.t 12))⟩,
  ⟨some 14, none, .p (.bin .lss (.t 11) (.t 13))⟩]
def law04_eqs_r5 : List AIns := [⟨some 17, none, .p (.mv (.t 0))⟩,
  ⟨some 18, none, .p (.mv (.t 5))⟩,
  ⟨some 19, none, .p (.idxp 2 (.t 17) (.t 18))⟩,
  ⟨some 20, none, .p (.load (some 2) (.t 19))⟩,
  ⟨some 21, none, .p (.mv (.t 1))⟩,
  ⟨some 22, none, .p (.mv (.t 5))⟩,
  ⟨some 23, none, .p (.idxp 2 (.t 21) (.t 22))⟩,
  ⟨some 24, none, .p (.load (some 2) (.t 23))⟩,
  ⟨some 25, none, .call F_law04_eq [(.t 20), (.t 24)]⟩,
  ⟨some 26, none, .p (.un .not (.t 25))⟩]
def law04_eqs_r6 : List AIns := [⟨some 4, none, .p (.mv (.c (.bool false)))⟩]
def law04_eqs_r7 : List AIns := [⟨some 15, none, .p (.mv (.t 5))⟩,
  ⟨some 16, none, .p (.bin .add (.t 15) (.c (.int .i64 1)))⟩,
  ⟨some 5, none, .p (.mv (.t 16))⟩]
def law04_eqs_l0 : ACode := .seq (.seq (.region law04_eqs_r4 false) (.cond (.t 14) (.skip) (.exit 0))) (.seq (.block 1 (.seq (.region law04_eqs_r5 true) (.cond (.t 26) (.seq (.region law04_eqs_r6 false) (.ret)) (.skip)))) (.region law04_eqs_r7 false))
def law04_eqs_r8 : List AIns := [⟨some 4, none, .p (.mv (.c (.bool true)))⟩]
def law04_eqs_c : ACode := .seq (.region law04_eqs_r0 false) (.seq (.seq (.region law04_eqs_r1 false) (.cond (.t 10) (.seq (.region law04_eqs_r2 false) (.ret)) (.skip))) (.seq (.seq (.region law04_eqs_r3 false) (.block 0 (.loop law04_eqs_l0))) (.seq (.region law04_eqs_r8 false) (.ret))))
theorem law04_eqs_ok : fchk Pr (fun _ _ => false) Try.f29 = some (law04_eqs_c, [.tmp 4], 27) := by kernel_rfl
theorem law04_eqs_fn : Pr.funcs[F_law04_eqs]? = some Try.f29 := Try.func29
/-! mat.Upright -/
def mat_Upright_r0 : List AIns := [⟨some 2, none, .p (.mv (.c (.nil)))⟩]
def mat_Upright_r1 : List AIns := [⟨some 4, none, .p (.mv (.t 0))⟩,
  ⟨some 5, none, .call F_mat_Lead [(.t 4)]⟩,
  ⟨some 3, none, .p (.mv (.t 5))⟩]
def mat_Upright_r2 : List AIns := [⟨some 6, none, .p (.mv (.t 3))⟩,
  ⟨some 7, none, .p (.bin .geq (.t 6) (.c (.int .i64 0)))⟩,
  ⟨some 8, none, .p (.mv (.t 7))⟩,
  ⟨some 9, some (8, true), .p (.mv (.t 0))⟩,
  ⟨some 10, some (8, true), .p (.mv (.t 3))⟩,
  ⟨some 11, some (8, true), .p (.idxp 2 (.t 9) (.t 10))⟩,
  ⟨some 12, some (8, true), .p (.load (some 2) (.t 11))⟩,
  ⟨some 13, some (8, true), .call F_zint_Sign [(.t 12)]⟩,
  ⟨some 14, some (8, true), .p (.bin .lss (.t 13) (.c (.int .i64 0)))⟩,
  ⟨some 15, none, .p (.pick (.t 8) (.t 14) (.c (.bool false)))⟩]
def mat_Upright_r3 : List AIns := [⟨some 16, none, .p (.mv (.t 0))⟩,
  ⟨some 17, none, .call F_mat_each_I_I [(.t 16), (.c (.fn F_zint_Neg []))]⟩,
  ⟨some 2, none, .p (.mv (.t 17))⟩]
def mat_Upright_r4 : List AIns := [⟨some 18, none, .p (.mv (.t 0))⟩,
  ⟨some 19, none, .call F_mat_each_I_I [(.t 18), (.c (.fn F_zint_Form []))]⟩,
  ⟨some 2, none, .p (.mv (.t 19))⟩]
def mat_Upright_c : ACode := .seq (.region mat_Upright_r0 false) (.seq (.seq (.region mat_Upright_r1 false) (.seq (.region mat_Upright_r2 false) (.cond (.t 15) (.seq (.region mat_Upright_r3 false) (.ret)) (.skip)))) (.seq (.region mat_Upright_r4 false) (.ret)))
theorem mat_Upright_ok : fchk Pr (fun _ _ => false) Try.f30 = some (mat_Upright_c, [.tmp 2], 20) := by kernel_rfl
theorem mat_Upright_fn : Pr.funcs[F_mat_Upright]? = some Try.f30 := Try.func30
/-! trammelref04.Upright -/
def ref04_Upright_r0 : List AIns := [⟨some 2, none, .p (.mv (.c (.nil)))⟩]
def ref04_Upright_r1 : List AIns := [⟨some 3, none, .p (.mv (.c (.int .i64 1)))⟩]
def ref04_Upright_r2 : List AIns := [⟨some 5, none, .p (.mv (.t 0))⟩,
  ⟨some 6, none, .call F_ref04_Lead [(.t 5)]⟩,
  ⟨some 4, none, .p (.mv (.t 6))⟩]
def ref04_Upright_r3 : List AIns := [⟨some 7, none, .p (.mv (.t 4))⟩,
  ⟨some 8, none, .p (.bin .geq (.t 7) (.c (.int .i64 0)))⟩,
  ⟨some 9, none, .p (.mv (.t 8))⟩,
  ⟨some 10, some (9, true), .p (.mv (.t 0))⟩,
  ⟨some 11, some (9, true), .p (.mv (.t 4))⟩,
  ⟨some 12, some (9, true), .p (.idxp 2 (.t 10) (.t 11))⟩,
  ⟨some 13, some (9, true), .p (.load (some 2) (.t 12))⟩,
  ⟨some 14, some (9, true), .call F_ref02_Sign [(.t 13)]⟩,
  ⟨some 15, some (9, true), .p (.bin .lss (.t 14) (.c (.int .i64 0)))⟩,
  ⟨some 16, none, .p (.pick (.t 9) (.t 15) (.c (.bool false)))⟩]
def ref04_Upright_r4 : List AIns := [⟨some 3, none, .p (.mv (.c (.int .i64 (-1))))⟩]
def ref04_Upright_r5 : List AIns := [⟨some 17, none, .p (.mv (.t 3))⟩,
  ⟨some 18, none, .call F_ref02_Of [(.t 17)]⟩,
  ⟨some 19, none, .p (.mv (.t 0))⟩,
  ⟨some 20, none, .call F_ref04_Times [(.t 18), (.t 19)]⟩,
  ⟨some 2, none, .p (.mv (.t 20))⟩]
def ref04_Upright_c : ACode := .seq (.region ref04_Upright_r0 false) (.seq (.region ref04_Upright_r1 false) (.seq (.region ref04_Upright_r2 false) (.seq (.seq (.region ref04_Upright_r3 false) (.cond (.t 16) (.region ref04_Upright_r4 false) (.skip))) (.seq (.region ref04_Upright_r5 false) (.ret)))))
theorem ref04_Upright_ok : fchk Pr (fun _ _ => false) Try.f31 = some (ref04_Upright_c, [.tmp 2], 21) := by kernel_rfl
theorem ref04_Upright_fn : Pr.funcs[F_ref04_Upright]? = some Try.f31 := Try.func31
/-! mat.Dot -/
def mat_Dot_r0 : List AIns := [⟨some 4, none, .e (.box 2 (.c (.agg [.bool false, .nil])))⟩,
  ⟨some 5, none, .p (.mv (.c (.int .i64 0)))⟩]
def mat_Dot_r1 : List AIns := [⟨some 6, none, .p (.mv (.t 0))⟩,
  ⟨some 7, none, .p (.len (.t 6))⟩,
  ⟨some 8, none, .p (.mv (.t 1))⟩,
  ⟨some 9, none, .p (.len (.t 8))⟩,
  ⟨some 10, none, .p (.bin .neq (.t 7) (.t 9))⟩]
def mat_Dot_r2 : List AIns := [⟨some 11, none, .p (.bld [.bool false, .nil] [])⟩,
  ⟨none, none, .e (.store 2 (.t 4) (.t 11))⟩,
  ⟨some 5, none, .p (.mv (.c (.int .i64 8)))⟩]
def mat_Dot_r3 : List AIns := [⟨some 12, none, .p (.mv (.t 0))⟩,
  ⟨some 13, none, .p (.mv (.t 1))⟩,
  ⟨some 14, none, .call F_mat_dot [(.t 12), (.t 13)]⟩,
  ⟨none, none, .e (.store 2 (.t 4) (.t 14))⟩,
  ⟨some 5, none, .p (.mv (.c (.int .i64 0)))⟩]
def mat_Dot_c : ACode := .seq (.region mat_Dot_r0 false) (.seq (.seq (.region mat_Dot_r1 false) (.cond (.t 10) (.seq (.region mat_Dot_r2 false) (.ret)) (.skip))) (.seq (.region mat_Dot_r3 false) (.ret)))
theorem mat_Dot_ok : fchk Pr (fun _ _ => false) Try.f32 = some (mat_Dot_c, [.cell 4 (some 2), .tmp 5], 15) := by kernel_rfl
theorem mat_Dot_fn : Pr.funcs[F_mat_Dot]? = some Try.f32 := Try.func32
/-! trammelref04.Dot -/
def ref04_Dot_r0 : List AIns := [⟨some 4, none, .e (.box 2 (.c (.agg [.bool false, .nil])))⟩,
  ⟨some 5, none, .p (.mv (.c (.int .i64 0)))⟩]
def ref04_Dot_r1 : List AIns := [⟨some 8, none, .p (.mv (.t 0))⟩,
  ⟨some 9, none, .p (.len (.t 8))⟩,
  ⟨some 10, none, .p (.mv (.t 1))⟩,
  ⟨some 11, none, .p (.len (.t 10))⟩,
  ⟨some 12, none, .p (.bin .neq (.t 9) (.t 11))⟩]
def ref04_Dot_r2 : List AIns := [⟨some 13, none, .p (.bld [.bool false, .nil] [])⟩,
  ⟨none, none, .e (.store 2 (.t 4) (.t 13))⟩,
  ⟨some 5, none, .p (.mv (.c (.int .i64 8)))⟩]
def ref04_Dot_r3 : List AIns := [⟨some 14, none, .call F_ref02_Of [(.c (.int .i64 0))]⟩,
  ⟨some 6, none, .e (.box 2 (.c (.agg [.bool false, .nil])))⟩,
  ⟨none, none, .e (.store 2 (.t 6) (.t 14))⟩]
def ref04_Dot_r4 : List AIns := [⟨some 7, none, .p (.mv (.c (.int .i64 0)))⟩]
def ref04_Dot_r5 : List AIns := [⟨some 15, none, .p (.mv (.t 7))⟩,
  ⟨some 16, none, .p (.mv (.t 0))⟩,
  ⟨some 17, none, .p (.len (.t 16))⟩,
  ⟨some 18, none, .p (.bin .lss (.t 15) (.t 17))⟩]
def ref04_Dot_r6 : List AIns := [⟨some 21, none, .p (.load (some 2) (.t 6))⟩,
  ⟨some 22, none, .p (.mv (.t 0))⟩,
  ⟨some 23, none, .p (.mv (.t 7))⟩,
  ⟨some 24, none, .p (.idxp 2 (.t 22) (.t 23))⟩,
  ⟨some 25, none, .p (.load (some 2) (.t 24))⟩,
  ⟨some 26, none, .p (.mv (.t 1))⟩,
  ⟨some 27, none, .p (.mv (.t 7))⟩,
  ⟨some 28, none, .p (.idxp 2 (.t 26) (.t 27))⟩,
  ⟨some 29, none, .p (.load (some 2) (.t 28))⟩,
  ⟨some 30, none, .call F_ref02_Mul [(.t 25), (.t 29)]⟩,
  ⟨some 31, none, .call F_ref02_Add [(.t 21), (.t 30)]⟩,
  ⟨none, none, .e (.store 2 (.t 6) (.t 31))⟩]
def ref04_Dot_r7 : List AIns := [⟨some 19, none, .p (.mv (.t 7))⟩,
  ⟨some 20, none, .p (.bin .add (.t 19) (.c (.int .i64 1)))⟩,
  ⟨some 7, none, .p (.mv (.t 20))⟩]
def ref04_Dot_l0 : ACode := .seq (.seq (.region ref04_Dot_r5 false) (.cond (.t 18) (.skip) (.exit 0))) (.seq (.block 1 (.region ref04_Dot_r6 true)) (.region ref04_Dot_r7 false))
def ref04_Dot_r8 : List AIns := [⟨some 32, none, .p (.load (some 2) (.t 6))⟩,
  ⟨none, none, .e (.store 2 (.t 4) (.t 32))⟩,
  ⟨some 5, none, .p (.mv (.c (.int .i64 0)))⟩]
def ref04_Dot_c : ACode := .seq (.region ref04_Dot_r0 false) (.seq (.seq (.region ref04_Dot_r1 false) (.cond (.t 12) (.seq (.region ref04_Dot_r2 false) (.ret)) (.skip))) (.seq (.region ref04_Dot_r3 false) (.seq (.seq (.region ref04_Dot_r4 false) (.block 0 (.loop ref04_Dot_l0))) (.seq (.region ref04_Dot_r8 false) (.ret)))))
theorem ref04_Dot_ok : fchk Pr (fun _ _ => false) Try.f33 = some (ref04_Dot_c, [.cell 4 (some 2), .tmp 5], 33) := by kernel_rfl
theorem ref04_Dot_fn : Pr.funcs[F_ref04_Dot]? = some Try.f33 := Try.func33
/-! trammellaw04.eq -/
def law04_eq_r0 : List AIns := [⟨some 2, none, .e (.box 2 (.t 0))⟩,
  ⟨some 3, none, .e (.box 2 (.t 1))⟩,
  ⟨some 4, none, .p (.mv (.c (.bool false)))⟩]
def law04_eq_r1 : List AIns := [⟨some 6, none, .p (.fldp (.t 2) 0)⟩,
  ⟨some 7, none, .p (.load none (.t 6))⟩,
  ⟨some 8, none, .p (.fldp (.t 3) 0)⟩,
  ⟨some 9, none, .p (.load none (.t 8))⟩,
  ⟨some 10, none, .p (.beq true (.t 7) (.t 9))⟩,
  ⟨some 11, none, .p (.mv (.t 10))⟩,
  ⟨some 12, some (11, false), .p (.fldp (.t 2) 1)⟩,
  ⟨some 13, some (11, false), .p (.load none (.t 12))⟩,
  ⟨some 14, some (11, false), .p (.len (.t 13))⟩,
  ⟨some 15, some (11, false), .p (.fldp (.t 3) 1)⟩,
  ⟨some 16, some (11, false), .p (.load none (.t 15))⟩,
  ⟨some 17, some (11, false), .p (.len (.t 16))⟩,
  ⟨some 18, some (11, false), .p (.bin .neq (.t 14) (.t 17))⟩,
  ⟨some 19, none, .p (.pick (.t 11) (.c (.bool true)) (.t 18))⟩]
def law04_eq_r2 : List AIns := [⟨some 4, none, .p (.mv (.c (.bool false)))⟩]
def law04_eq_r3 : List AIns := [⟨some 5, none, .p (.mv (.c (.int .i64 0)))⟩]
def law04_eq_r4 : List AIns := [⟨some 20, none, .p (.mv (.t 5))⟩,
  ⟨some 21, none, .p (.fldp (.t 2) 1)⟩,
  ⟨some 22, none, .p (.load none (.t 21))⟩,
  ⟨some 23, none, .p (.len (.t 22))⟩,
  ⟨some 24, none, .p (.bin .lss (.t 20) (.t 23))⟩]
def law04_eq_r5 : List AIns := [⟨some 27, none, .p (.fldp (.t 2) 1)⟩,
  ⟨some 28, none, .p (.load none (.t 27))⟩,
  ⟨some 29, none, .p (.mv (.t 5))⟩,
  ⟨some 30, none, .p (.idxp 1 (.t 28) (.t 29))⟩,
  ⟨some 31, none, .p (.load none (.t 30))⟩,
  ⟨some 32, none, .p (.fldp (.t 3) 1)⟩,
  ⟨some 33, none, .p (.load none (.t 32))⟩,
  ⟨some 34, none, .p (.mv (.t 5))⟩,
  ⟨some 35, none, .p (.idxp 1 (.t 33) (.t 34))⟩,
  ⟨some 36, none, .p (.load none (.t 35))⟩,
  ⟨some 37, none, .p (.bin .neq (.t 31) (.t 36))⟩]
def law04_eq_r6 : List AIns := [⟨some 4, none, .p (.mv (.c (.bool false)))⟩]
def law04_eq_r7 : List AIns := [⟨some 25, none, .p (.mv (.t 5))⟩,
  ⟨some 26, none, .p (.bin .add (.t 25) (.c (.int .i64 1)))⟩,
  ⟨some 5, none, .p (.mv (.t 26))⟩]
def law04_eq_l0 : ACode := .seq (.seq (.region law04_eq_r4 false) (.cond (.t 24) (.skip) (.exit 0))) (.seq (.block 1 (.seq (.region law04_eq_r5 true) (.cond (.t 37) (.seq (.region law04_eq_r6 false) (.ret)) (.skip)))) (.region law04_eq_r7 false))
def law04_eq_r8 : List AIns := [⟨some 4, none, .p (.mv (.c (.bool true)))⟩]
def law04_eq_c : ACode := .seq (.region law04_eq_r0 false) (.seq (.seq (.region law04_eq_r1 false) (.cond (.t 19) (.seq (.region law04_eq_r2 false) (.ret)) (.skip))) (.seq (.seq (.region law04_eq_r3 false) (.block 0 (.loop law04_eq_l0))) (.seq (.region law04_eq_r8 false) (.ret))))
theorem law04_eq_ok : fchk Pr (fun _ _ => false) Try.f34 = some (law04_eq_c, [.tmp 4], 38) := by kernel_rfl
theorem law04_eq_fn : Pr.funcs[F_law04_eq]? = some Try.f34 := Try.func34
/-! mat.Norm -/
def mat_Norm_r0 : List AIns := [⟨some 2, none, .e (.box 2 (.c (.agg [.bool false, .nil])))⟩]
def mat_Norm_r1 : List AIns := [⟨some 3, none, .p (.mv (.t 0))⟩,
  ⟨some 4, none, .p (.mv (.t 0))⟩,
  ⟨some 5, none, .call F_mat_dot [(.t 3), (.t 4)]⟩,
  ⟨none, none, .e (.store 2 (.t 2) (.t 5))⟩]
def mat_Norm_c : ACode := .seq (.region mat_Norm_r0 false) (.seq (.region mat_Norm_r1 false) (.ret))
theorem mat_Norm_ok : fchk Pr (fun _ _ => false) Try.f35 = some (mat_Norm_c, [.cell 2 (some 2)], 6) := by kernel_rfl
theorem mat_Norm_fn : Pr.funcs[F_mat_Norm]? = some Try.f35 := Try.func35
/-! trammelref04.Norm -/
def ref04_Norm_r0 : List AIns := [⟨some 2, none, .e (.box 2 (.c (.agg [.bool false, .nil])))⟩]
def ref04_Norm_r1 : List AIns := [⟨some 6, none, .p (.mv (.t 0))⟩,
  ⟨some 7, none, .p (.mv (.t 0))⟩,
  ⟨some 8, none, .call F_ref04_Dot [(.t 6), (.t 7)]⟩,
  ⟨some 5, none, .p (.mv (.t 8))⟩,
  ⟨some 9, none, .p (.ext (.t 5) 0)⟩,
  ⟨some 10, none, .p (.ext (.t 5) 1)⟩,
  ⟨some 3, none, .e (.box 2 (.c (.agg [.bool false, .nil])))⟩,
  ⟨none, none, .e (.store 2 (.t 3) (.t 9))⟩,
  ⟨some 4, none, .p (.mv (.t 10))⟩]
def ref04_Norm_r2 : List AIns := [⟨some 11, none, .p (.load (some 2) (.t 3))⟩,
  ⟨none, none, .e (.store 2 (.t 2) (.t 11))⟩]
def ref04_Norm_c : ACode := .seq (.region ref04_Norm_r0 false) (.seq (.region ref04_Norm_r1 false) (.seq (.region ref04_Norm_r2 false) (.ret)))
theorem ref04_Norm_ok : fchk Pr (fun _ _ => false) Try.f36 = some (ref04_Norm_c, [.cell 2 (some 2)], 12) := by kernel_rfl
theorem ref04_Norm_fn : Pr.funcs[F_ref04_Norm]? = some Try.f36 := Try.func36
/-! mat.Times -/
def mat_Times_r0 : List AIns := [⟨some 2, none, .e (.box 2 (.t 0))⟩,
  ⟨some 4, none, .p (.mv (.c (.nil)))⟩]
def mat_Times_r1 : List AIns := [⟨some 5, none, .p (.mv (.t 1))⟩,
  ⟨some 6, none, .p (.mkfn F_mat_Times_1 [(.t 2)])⟩,
  ⟨some 7, none, .call F_mat_each_I_I [(.t 5), (.t 6)]⟩,
  ⟨some 4, none, .p (.mv (.t 7))⟩]
def mat_Times_c : ACode := .seq (.region mat_Times_r0 false) (.seq (.region mat_Times_r1 false) (.ret))
theorem mat_Times_ok : fchk Pr (fun _ _ => false) Try.f37 = some (mat_Times_c, [.tmp 4], 8) := by kernel_rfl
theorem mat_Times_fn : Pr.funcs[F_mat_Times]? = some Try.f37 := Try.func37
/-! trammellaw04.own -/
def law04_own_r0 : List AIns := [⟨some 1, none, .e (.box 2 (.t 0))⟩,
  ⟨some 2, none, .e (.box 2 (.c (.agg [.bool false, .nil])))⟩]
def law04_own_r1 : List AIns := [⟨some 3, none, .p (.mv (.c (.nil)))⟩]
def law04_own_r2 : List AIns := [⟨some 4, none, .p (.mv (.t 3))⟩,
  ⟨some 5, none, .p (.fldp (.t 1) 1)⟩,
  ⟨some 6, none, .p (.load none (.t 5))⟩,
  ⟨some 7, none, .e (.app 1 4 false (.t 4) (.t 6))⟩,
  ⟨some 3, none, .p (.mv (.t 7))⟩]
def law04_own_r3 : List AIns := [⟨some 8, none, .p (.mv (.t 3))⟩,
  ⟨some 9, none, .e (.bsl 1 [(.c (.int .u32 77)), (.c (.int .u32 78)), (.c (.int .u32 79)), (.c (.int .u32 80)), (.c (.int .u32 81)), (.c (.int .u32 82)), (.c (.int .u32 83)), (.c (.int .u32 84)), (.c (.int .u32 85))])⟩,
  ⟨some 10, none, .e (.app 1 4 false (.t 8) (.t 9))⟩,
  ⟨some 3, none, .p (.mv (.t 10))⟩]
def law04_own_r4 : List AIns := [⟨some 11, none, .p (.fldp (.t 1) 0)⟩,
  ⟨some 12, none, .p (.load none (.t 11))⟩,
  ⟨some 13, none, .p (.mv (.t 3))⟩,
  ⟨some 14, none, .p (.fldp (.t 1) 1)⟩,
  ⟨some 15, none, .p (.load none (.t 14))⟩,
  ⟨some 16, none, .p (.len (.t 15))⟩,
  ⟨some 17, none, .p (.slc 1 (.t 13) none (some (.t 16)) none)⟩,
  ⟨some 18, none, .p (.bld [.bool false, .nil] [(0, 1, (.t 12)), (1, 1, (.t 17))])⟩,
  ⟨none, none, .e (.store 2 (.t 2) (.t 18))⟩]
def law04_own_c : ACode := .seq (.region law04_own_r0 false) (.seq (.region law04_own_r1 false) (.seq (.region law04_own_r2 false) (.seq (.region law04_own_r3 false) (.seq (.region law04_own_r4 true) (.ret)))))
theorem law04_own_ok : fchk Pr (fun _ _ => false) Try.f38 = some (law04_own_c, [.cell 2 (some 2)], 19) := by kernel_rfl
theorem law04_own_fn : Pr.funcs[F_law04_own]? = some Try.f38 := Try.func38
/-! trammelref04.Times -/
def ref04_Times_r0 : List AIns := [⟨some 2, none, .e (.box 2 (.t 0))⟩,
  ⟨some 4, none, .p (.mv (.c (.nil)))⟩]
def ref04_Times_r1 : List AIns := [⟨some 5, none, .p (.mv (.c (.nil)))⟩]
def ref04_Times_r2 : List AIns := [⟨some 6, none, .p (.mv (.c (.int .i64 0)))⟩]
def ref04_Times_r3 : List AIns := [⟨some 7, none, .p (.mv (.t 6))⟩,
  ⟨some 8, none, .p (.mv (.t 1))⟩,
  ⟨some 9, none, .p (.len (.t 8))⟩,
  ⟨some 10, none, .p (.bin .lss (.t 7) (.t 9))⟩]
def ref04_Times_r4 : List AIns := [⟨some 13, none, .p (.mv (.t 5))⟩,
  ⟨some 14, none, .p (.load (some 2) (.t 2))⟩,
  ⟨some 15, none, .p (.mv (.t 1))⟩,
  ⟨some 16, none, .p (.mv (.t 6))⟩,
  ⟨some 17, none, .p (.idxp 2 (.t 15) (.t 16))⟩,
  ⟨some 18, none, .p (.load (some 2) (.t 17))⟩,
  ⟨some 19, none, .call F_ref02_Mul [(.t 14), (.t 18)]⟩,
  ⟨some 20, none, .e (.bsl 2 [(.t 19)])⟩,
  ⟨some 21, none, .e (.app 2 32 false (.t 13) (.t 20))⟩,
  ⟨some 5, none, .p (.mv (.t 21))⟩]
def ref04_Times_r5 : List AIns := [⟨some 11, none, .p (.mv (.t 6))⟩,
  ⟨some 12, none, .p (.bin .add (.t 11) (.c (.int .i64 1)))⟩,
  ⟨some 6, none, .p (.mv (.t 12))⟩]
def ref04_Times_l0 : ACode := .seq (.seq (.region ref04_Times_r3 false) (.cond (.t 10) (.skip) (.exit 0))) (.seq (.block 1 (.region ref04_Times_r4 true)) (.region ref04_Times_r5 false))
def ref04_Times_r6 : List AIns := [⟨some 22, none, .p (.mv (.t 5))⟩,
  ⟨some 4, none, .p (.mv (.t 22))⟩]
def ref04_Times_c : ACode := .seq (.region ref04_Times_r0 false) (.seq (.region ref04_Times_r1 false) (.seq (.seq (.region ref04_Times_r2 false) (.block 0 (.loop ref04_Times_l0))) (.seq (.region ref04_Times_r6 false) (.ret))))
theorem ref04_Times_ok : fchk Pr (fun _ _ => false) Try.f39 = some (ref04_Times_c, [.tmp 4], 23) := by kernel_rfl
theorem ref04_Times_fn : Pr.funcs[F_ref04_Times]? = some Try.f39 := Try.func39
/-! mat.Plus -/
def mat_Plus_r0 : List AIns := [⟨some 4, none, .p (.mv (.c (.nil)))⟩,
  ⟨some 5, none, .p (.mv (.c (.int .i64 0)))⟩]
def mat_Plus_r1 : List AIns := [⟨some 6, none, .p (.mv (.t 0))⟩,
  ⟨some 7, none, .p (.mv (.t 1))⟩,
  ⟨some 8, none, .call F_mat_pairs [(.t 6), (.t 7), (.c (.fn F_zint_Add []))]⟩,
  ⟨some 9, none, .p (.ext (.t 8) 0)⟩,
  ⟨some 10, none, .p (.ext (.t 8) 1)⟩,
  ⟨some 4, none, .p (.mv (.t 9))⟩,
  ⟨some 5, none, .p (.mv (.t 10))⟩]
def mat_Plus_c : ACode := .seq (.region mat_Plus_r0 false) (.seq (.region mat_Plus_r1 false) (.ret))
theorem mat_Plus_ok : fchk Pr (fun _ _ => false) Try.f40 = some (mat_Plus_c, [.tmp 4, .tmp 5], 11) := by kernel_rfl
theorem mat_Plus_fn : Pr.funcs[F_mat_Plus]? = some Try.f40 := Try.func40
/-! trammelref04.Plus -/
def ref04_Plus_r0 : List AIns := [⟨some 4, none, .p (.mv (.c (.nil)))⟩,
  ⟨some 5, none, .p (.mv (.c (.int .i64 0)))⟩]
def ref04_Plus_r1 : List AIns := [⟨some 8, none, .p (.mv (.t 0))⟩,
  ⟨some 9, none, .p (.len (.t 8))⟩,
  ⟨some 10, none, .p (.mv (.t 1))⟩,
  ⟨some 11, none, .p (.len (.t 10))⟩,
  ⟨some 12, none, .p (.bin .neq (.t 9) (.t 11))⟩]
def ref04_Plus_r2 : List AIns := [⟨some 4, none, .p (.mv (.c (.nil)))⟩,
  ⟨some 5, none, .p (.mv (.c (.int .i64 8)))⟩]
def ref04_Plus_r3 : List AIns := [⟨some 6, none, .p (.mv (.c (.nil)))⟩]
def ref04_Plus_r4 : List AIns := [⟨some 7, none, .p (.mv (.c (.int .i64 0)))⟩]
def ref04_Plus_r5 : List AIns := [⟨some 13, none, .p (.mv (.t 7))⟩,
  ⟨some 14, none, .p (.mv (.t 0))⟩,
  ⟨some 15, none, .p (.len (.t 14))⟩,
  ⟨some 16, none, .p (.bin .lss (.t 13) (.t 15))⟩]
def ref04_Plus_r6 : List AIns := [⟨some 19, none, .p (.mv (.t 6))⟩,
  ⟨some 20, none, .p (.mv (.t 0))⟩,
  ⟨some 21, none, .p (.mv (.t 7))⟩,
  ⟨some 22, none, .p (.idxp 2 (.t 20) (.t 21))⟩,
  ⟨some 23, none, .p (.load (some 2) (.t 22))⟩,
  ⟨some 24, none, .p (.mv (.t 1))⟩,
  ⟨some 25, none, .p (.mv (.t 7))⟩,
  ⟨some 26, none, .p (.idxp 2 (.t 24) (.t 25))⟩,
  ⟨some 27, none, .p (.load (some 2) (.t 26))⟩,
  ⟨some 28, none, .call F_ref02_Add [(.t 23), (.t 27)]⟩,
  ⟨some 29, none, .e (.bsl 2 [(.t 28)])⟩,
  ⟨some 30, none, .e (.app 2 32 false (.t 19) (.t 29))⟩,
  ⟨some 6, none, .p (.mv (.t 30))⟩]
def ref04_Plus_r7 : List AIns := [⟨some 17, none, .p (.mv (.t 7))⟩,
  ⟨some 18, none, .p (.bin .add (.t 17) (.c (.int .i64 1)))⟩,
  ⟨some 7, none, .p (.mv (.t 18))⟩]
def ref04_Plus_l0 : ACode := .seq (.seq (.region ref04_Plus_r5 false) (.cond (.t 16) (.skip) (.exit 0))) (.seq (.block 1 (.region ref04_Plus_r6 true)) (.region ref04_Plus_r7 false))
def ref04_Plus_r8 : List AIns := [⟨some 31, none, .p (.mv (.t 6))⟩,
  ⟨some 4, none, .p (.mv (.t 31))⟩,
  ⟨some 5, none, .p (.mv (.c (.int .i64 0)))⟩]
def ref04_Plus_c : ACode := .seq (.region ref04_Plus_r0 false) (.seq (.seq (.region ref04_Plus_r1 false) (.cond (.t 12) (.seq (.region ref04_Plus_r2 false) (.ret)) (.skip))) (.seq (.region ref04_Plus_r3 false) (.seq (.seq (.region ref04_Plus_r4 false) (.block 0 (.loop ref04_Plus_l0))) (.seq (.region ref04_Plus_r8 false) (.ret)))))
theorem ref04_Plus_ok : fchk Pr (fun _ _ => false) Try.f41 = some (ref04_Plus_c, [.tmp 4, .tmp 5], 32) := by kernel_rfl
theorem ref04_Plus_fn : Pr.funcs[F_ref04_Plus]? = some Try.f41 := Try.func41
/-! mat.Minus -/
def mat_Minus_r0 : List AIns := [⟨some 4, none, .p (.mv (.c (.nil)))⟩,
  ⟨some 5, none, .p (.mv (.c (.int .i64 0)))⟩]
def mat_Minus_r1 : List AIns := [⟨some 6, none, .p (.mv (.t 0))⟩,
  ⟨some 7, none, .p (.mv (.t 1))⟩,
  ⟨some 8, none, .call F_mat_pairs [(.t 6), (.t 7), (.c (.fn F_zint_Sub []))]⟩,
  ⟨some 9, none, .p (.ext (.t 8) 0)⟩,
  ⟨some 10, none, .p (.ext (.t 8) 1)⟩,
  ⟨some 4, none, .p (.mv (.t 9))⟩,
  ⟨some 5, none, .p (.mv (.t 10))⟩]
def mat_Minus_c : ACode := .seq (.region mat_Minus_r0 false) (.seq (.region mat_Minus_r1 false) (.ret))
theorem mat_Minus_ok : fchk Pr (fun _ _ => false) Try.f42 = some (mat_Minus_c, [.tmp 4, .tmp 5], 11) := by kernel_rfl
theorem mat_Minus_fn : Pr.funcs[F_mat_Minus]? = some Try.f42 := Try.func42
/-! trammelref04.Minus -/
def ref04_Minus_r0 : List AIns := [⟨some 4, none, .p (.mv (.c (.nil)))⟩,
  ⟨some 5, none, .p (.mv (.c (.int .i64 0)))⟩]
def ref04_Minus_r1 : List AIns := [⟨some 6, none, .p (.mv (.t 0))⟩,
  ⟨some 7, none, .call F_ref02_Of [(.c (.int .i64 (-1)))]⟩,
  ⟨some 8, none, .p (.mv (.t 1))⟩,
  ⟨some 9, none, .call F_ref04_Times [(.t 7), (.t 8)]⟩,
  ⟨some 10, none, .call F_ref04_Plus [(.t 6), (.t 9)]⟩,
  ⟨some 11, none, .p (.ext (.t 10) 0)⟩,
  ⟨some 12, none, .p (.ext (.t 10) 1)⟩,
  ⟨some 4, none, .p (.mv (.t 11))⟩,
  ⟨some 5, none, .p (.mv (.t 12))⟩]
def ref04_Minus_c : ACode := .seq (.region ref04_Minus_r0 false) (.seq (.region ref04_Minus_r1 false) (.ret))
theorem ref04_Minus_ok : fchk Pr (fun _ _ => false) Try.f43 = some (ref04_Minus_c, [.tmp 4, .tmp 5], 13) := by kernel_rfl
theorem ref04_Minus_fn : Pr.funcs[F_ref04_Minus]? = some Try.f43 := Try.func43
/-! mat.Text -/
def mat_Text_r0 : List AIns := [⟨some 2, none, .p (.mv (.c (.str ⟨#[]⟩)))⟩]
def mat_Text_r1 : List AIns := [⟨some 3, none, .p (.mv (.t 0))⟩,
  ⟨some 4, none, .call F_mat_each_V_string [(.t 3), (.c (.fn F_mat_TextVector []))]⟩,
  ⟨some 5, none, .call F_strings_Join [(.t 4), (.c (.str ⟨#[59, 32]⟩))]⟩,
  ⟨some 2, none, .p (.mv (.t 5))⟩]
def mat_Text_c : ACode := .seq (.region mat_Text_r0 false) (.seq (.region mat_Text_r1 false) (.ret))
theorem mat_Text_ok : fchk Pr (fun _ _ => false) Try.f44 = some (mat_Text_c, [.tmp 2], 6) := by kernel_rfl
theorem mat_Text_fn : Pr.funcs[F_mat_Text]? = some Try.f44 := Try.func44
/-! trammelref04.Text -/
def ref04_Text_r0 : List AIns := [⟨some 2, none, .p (.mv (.c (.str ⟨#[]⟩)))⟩]
def ref04_Text_r1 : List AIns := [⟨some 3, none, .p (.mv (.c (.nil)))⟩]
def ref04_Text_r2 : List AIns := [⟨some 4, none, .p (.mv (.c (.int .i64 0)))⟩]
def ref04_Text_r3 : List AIns := [⟨some 5, none, .p (.mv (.t 4))⟩,
  ⟨some 6, none, .p (.mv (.t 0))⟩,
  ⟨some 7, none, .p (.len (.t 6))⟩,
  ⟨some 8, none, .p (.bin .lss (.t 5) (.t 7))⟩]
def ref04_Text_r4 : List AIns := [⟨some 11, none, .p (.mv (.t 4))⟩,
  ⟨some 12, none, .p (.bin .gtr (.t 11) (.c (.int .i64 0)))⟩]
def ref04_Text_r5 : List AIns := [⟨some 13, none, .p (.mv (.t 3))⟩,
  ⟨some 14, none, .e (.bsl 1 [(.c (.int .u8 59)), (.c (.int .u8 32))])⟩,
  ⟨some 15, none, .e (.app 1 1 false (.t 13) (.t 14))⟩,
  ⟨some 3, none, .p (.mv (.t 15))⟩]
def ref04_Text_r6 : List AIns := [⟨some 16, none, .p (.mv (.t 3))⟩,
  ⟨some 17, none, .p (.mv (.t 0))⟩,
  ⟨some 18, none, .p (.mv (.t 4))⟩,
  ⟨some 19, none, .p (.idxp 1 (.t 17) (.t 18))⟩,
  ⟨some 20, none, .p (.load none (.t 19))⟩,
  ⟨some 21, none, .call F_ref04_TextVector [(.t 20)]⟩,
  ⟨some 22, none, .e (.app 1 1 true (.t 16) (.t 21))⟩,
  ⟨some 3, none, .p (.mv (.t 22))⟩]
def ref04_Text_r7 : List AIns := [⟨some 9, none, .p (.mv (.t 4))⟩,
  ⟨some 10, none, .p (.bin .add (.t 9) (.c (.int .i64 1)))⟩,
  ⟨some 4, none, .p (.mv (.t 10))⟩]
def ref04_Text_l0 : ACode := .seq (.seq (.region ref04_Text_r3 false) (.cond (.t 8) (.skip) (.exit 0))) (.seq (.block 1 (.seq (.seq (.region ref04_Text_r4 false) (.cond (.t 12) (.region ref04_Text_r5 false) (.skip))) (.region ref04_Text_r6 false))) (.region ref04_Text_r7 false))
def ref04_Text_r8 : List AIns := [⟨some 23, none, .p (.mv (.t 3))⟩,
  ⟨some 24, none, .p (.b2s (.t 23))⟩,
  ⟨some 2, none, .p (.mv (.t 24))⟩]
def ref04_Text_c : ACode := .seq (.region ref04_Text_r0 false) (.seq (.region ref04_Text_r1 false) (.seq (.seq (.region ref04_Text_r2 false) (.block 0 (.loop ref04_Text_l0))) (.seq (.region ref04_Text_r8 false) (.ret))))
theorem ref04_Text_ok : fchk Pr (fun _ _ => false) Try.f45 = some (ref04_Text_c, [.tmp 2], 25) := by kernel_rfl
theorem ref04_Text_fn : Pr.funcs[F_ref04_Text]? = some Try.f45 := Try.func45
/-! mat.TextVector -/
def mat_TextVector_r0 : List AIns := [⟨some 2, none, .p (.mv (.c (.str ⟨#[]⟩)))⟩]
def mat_TextVector_r1 : List AIns := [⟨some 3, none, .p (.mv (.t 0))⟩,
  ⟨some 4, none, .call F_mat_each_I_string [(.t 3), (.c (.fn F_zint_Text []))]⟩,
  ⟨some 5, none, .call F_strings_Join [(.t 4), (.c (.str ⟨#[32]⟩))]⟩,
  ⟨some 2, none, .p (.mv (.t 5))⟩]
def mat_TextVector_c : ACode := .seq (.region mat_TextVector_r0 false) (.seq (.region mat_TextVector_r1 false) (.ret))
theorem mat_TextVector_ok : fchk Pr (fun _ _ => false) Try.f46 = some (mat_TextVector_c, [.tmp 2], 6) := by kernel_rfl
theorem mat_TextVector_fn : Pr.funcs[F_mat_TextVector]? = some Try.f46 := Try.func46
/-! trammelref04.TextVector -/
def ref04_TextVector_r0 : List AIns := [⟨some 2, none, .p (.mv (.c (.str ⟨#[]⟩)))⟩]
def ref04_TextVector_r1 : List AIns := [⟨some 3, none, .p (.mv (.c (.nil)))⟩]
def ref04_TextVector_r2 : List AIns := [⟨some 4, none, .p (.mv (.c (.int .i64 0)))⟩]
def ref04_TextVector_r3 : List AIns := [⟨some 5, none, .p (.mv (.t 4))⟩,
  ⟨some 6, none, .p (.mv (.t 0))⟩,
  ⟨some 7, none, .p (.len (.t 6))⟩,
  ⟨some 8, none, .p (.bin .lss (.t 5) (.t 7))⟩]
def ref04_TextVector_r4 : List AIns := [⟨some 11, none, .p (.mv (.t 4))⟩,
  ⟨some 12, none, .p (.bin .gtr (.t 11) (.c (.int .i64 0)))⟩]
def ref04_TextVector_r5 : List AIns := [⟨some 13, none, .p (.mv (.t 3))⟩,
  ⟨some 14, none, .e (.bsl 1 [(.c (.int .u8 32))])⟩,
  ⟨some 15, none, .e (.app 1 1 false (.t 13) (.t 14))⟩,
  ⟨some 3, none, .p (.mv (.t 15))⟩]
def ref04_TextVector_r6 : List AIns := [⟨some 16, none, .p (.mv (.t 3))⟩,
  ⟨some 17, none, .p (.mv (.t 0))⟩,
  ⟨some 18, none, .p (.mv (.t 4))⟩,
  ⟨some 19, none, .p (.idxp 2 (.t 17) (.t 18))⟩,
  ⟨some 20, none, .p (.load (some 2) (.t 19))⟩,
  ⟨some 21, none, .call F_ref02_Text [(.t 20)]⟩,
  ⟨some 22, none, .e (.app 1 1 true (.t 16) (.t 21))⟩,
  ⟨some 3, none, .p (.mv (.t 22))⟩]
def ref04_TextVector_r7 : List AIns := [⟨some 9, none, .p (.mv (.t 4))⟩,
  ⟨some 10, none, .p (.bin .add (.t 9) (.c (.int .i64 1)))⟩,
  ⟨some 4, none, .p (.mv (.t 10))⟩]
def ref04_TextVector_l0 : ACode := .seq (.seq (.region ref04_TextVector_r3 false) (.cond (.t 8) (.skip) (.exit 0))) (.seq (.block 1 (.seq (.seq (.region ref04_TextVector_r4 false) (.cond (.t 12) (.region ref04_TextVector_r5 false) (.skip))) (.region ref04_TextVector_r6 false))) (.region ref04_TextVector_r7 false))
def ref04_TextVector_r8 : List AIns := [⟨some 23, none, .p (.mv (.t 3))⟩,
  ⟨some 24, none, .p (.b2s (.t 23))⟩,
  ⟨some 2, none, .p (.mv (.t 24))⟩]
def ref04_TextVector_c : ACode := .seq (.region ref04_TextVector_r0 false) (.seq (.region ref04_TextVector_r1 false) (.seq (.seq (.region ref04_TextVector_r2 false) (.block 0 (.loop ref04_TextVector_l0))) (.seq (.region ref04_TextVector_r8 false) (.ret))))
theorem ref04_TextVector_ok : fchk Pr (fun _ _ => false) Try.f47 = some (ref04_TextVector_c, [.tmp 2], 25) := by kernel_rfl
theorem ref04_TextVector_fn : Pr.funcs[F_ref04_TextVector]? = some Try.f47 := Try.func47
/-! mat.Combine -/
def mat_Combine_r0 : List AIns := [⟨some 4, none, .p (.mv (.c (.nil)))⟩,
  ⟨some 5, none, .p (.mv (.c (.int .i64 0)))⟩]
def mat_Combine_r1 : List AIns := [⟨some 10, none, .p (.mv (.t 1))⟩,
  ⟨some 11, none, .call F_mat_Shape [(.t 10)]⟩,
  ⟨some 9, none, .p (.mv (.t 11))⟩,
  ⟨some 12, none, .p (.ext (.t 9) 0)⟩,
  ⟨some 13, none, .p (.ext (.t 9) 1)⟩,
  ⟨some 14, none, .p (.ext (.t 9) 2)⟩,
  ⟨some 6, none, .p (.mv (.t 12))⟩,
  ⟨some 7, none, .p (.mv (.t 13))⟩,
  ⟨some 8, none, .p (.mv (.t 14))⟩]
def mat_Combine_r2 : List AIns := [⟨some 15, none, .p (.mv (.t 8))⟩,
  ⟨some 16, none, .p (.bin .neq (.t 15) (.c (.int .i64 0)))⟩,
  ⟨some 17, none, .p (.mv (.t 16))⟩,
  ⟨some 18, some (17, false), .p (.mv (.t 0))⟩,
  ⟨some 19, some (17, false), .p (.len (.t 18))⟩,
  ⟨some 20, some (17, false), .p (.mv (.t 6))⟩,
  ⟨some 21, some (17, false), .p (.bin .neq (.t 19) (.t 20))⟩,
  ⟨some 22, none, .p (.pick (.t 17) (.c (.bool true)) (.t 21))⟩]
def mat_Combine_r3 : List AIns := [⟨some 4, none, .p (.mv (.c (.nil)))⟩,
  ⟨some 5, none, .p (.mv (.c (.int .i64 8)))⟩]
def mat_Combine_r4 : List AIns := [⟨some 23, none, .p (.mv (.t 0))⟩,
  ⟨some 24, none, .p (.mv (.t 1))⟩,
  ⟨some 25, none, .call F_mat_combine [(.t 23), (.t 24)]⟩,
  ⟨some 4, none, .p (.mv (.t 25))⟩,
  ⟨some 5, none, .p (.mv (.c (.int .i64 0)))⟩]
def mat_Combine_c : ACode := .seq (.region mat_Combine_r0 false) (.seq (.region mat_Combine_r1 false) (.seq (.seq (.region mat_Combine_r2 false) (.cond (.t 22) (.seq (.region mat_Combine_r3 false) (.ret)) (.skip))) (.seq (.region mat_Combine_r4 false) (.ret))))
theorem mat_Combine_ok : fchk Pr (fun _ _ => false) Try.f48 = some (mat_Combine_c, [.tmp 4, .tmp 5], 26) := by kernel_rfl
theorem mat_Combine_fn : Pr.funcs[F_mat_Combine]? = some Try.f48 := Try.func48
/-! trammelref04.Combine -/
def ref04_Combine_r0 : List AIns := [⟨some 4, none, .p (.mv (.c (.nil)))⟩,
  ⟨some 5, none, .p (.mv (.c (.int .i64 0)))⟩]
def ref04_Combine_r1 : List AIns := [⟨some 14, none, .p (.mv (.t 1))⟩,
  ⟨some 15, none, .call F_ref04_Shape [(.t 14)]⟩,
  ⟨some 13, none, .p (.mv (.t 15))⟩,
  ⟨some 16, none, .p (.ext (.t 13) 0)⟩,
  ⟨some 17, none, .p (.ext (.t 13) 1)⟩,
  ⟨some 18, none, .p (.ext (.t 13) 2)⟩,
  ⟨some 6, none, .p (.mv (.t 16))⟩,
  ⟨some 7, none, .p (.mv (.t 17))⟩,
  ⟨some 8, none, .p (.mv (.t 18))⟩]
def ref04_Combine_r2 : List AIns := [⟨some 19, none, .p (.mv (.t 8))⟩,
  ⟨some 20, none, .p (.bin .neq (.t 19) (.c (.int .i64 0)))⟩,
  ⟨some 21, none, .p (.mv (.t 20))⟩,
  ⟨some 22, some (21, false), .p (.mv (.t 0))⟩,
  ⟨some 23, some (21, false), .p (.len (.t 22))⟩,
  ⟨some 24, some (21, false), .p (.mv (.t 1))⟩,
  ⟨some 25, some (21, false), .p (.len (.t 24))⟩,
  ⟨some 26, some (21, false), .p (.bin .neq (.t 23) (.t 25))⟩,
  ⟨some 27, none, .p (.pick (.t 21) (.c (.bool true)) (.t 26))⟩]
def ref04_Combine_r3 : List AIns := [⟨some 4, none, .p (.mv (.c (.nil)))⟩,
  ⟨some 5, none, .p (.mv (.c (.int .i64 8)))⟩]
def ref04_Combine_r4 : List AIns := [⟨some 9, none, .p (.mv (.c (.nil)))⟩]
def ref04_Combine_r5 : List AIns := [⟨some 10, none, .p (.mv (.c (.int .i64 0)))⟩]
def ref04_Combine_r6 : List AIns := [⟨some 28, none, .p (.mv (.t 10))⟩,
  ⟨some 29, none, .p (.mv (.t 7))⟩,
  ⟨some 30, none, .p (.bin .lss (.t 28) (.t 29))⟩]
def ref04_Combine_r7 : List AIns := [⟨some 33, none, .call F_ref02_Of [(.c (.int .i64 0))]⟩,
  ⟨some 11, none, .e (.box 2 (.c (.agg [.bool false, .nil])))⟩,
  ⟨none, none, .e (.store 2 (.t 11) (.t 33))⟩]
def ref04_Combine_r8 : List AIns := [⟨some 12, none, .p (.mv (.c (.int .i64 0)))⟩]
def ref04_Combine_r9 : List AIns := [⟨some 34, none, .p (.mv (.t 12))⟩,
  ⟨some 35, none, .p (.mv (.t 1))⟩,
  ⟨some 36, none, .p (.len (.t 35))⟩,
  ⟨some 37, none, .p (.bin .lss (.t 34) (.t 36))⟩]
def ref04_Combine_r10 : List AIns := [⟨some 40, none, .p (.load (some 2) (.t 11))⟩,
  ⟨some 41, none, .p (.mv (.t 0))⟩,
  ⟨some 42, none, .p (.mv (.t 12))⟩,
  ⟨some 43, none, .p (.idxp 2 (.t 41) (.t 42))⟩,
  ⟨some 44, none, .p (.load (some 2) (.t 43))⟩,
  ⟨some 45, none, .p (.mv (.t 1))⟩,
  ⟨some 46, none, .p (.mv (.t 12))⟩,
  ⟨some 47, none, .p (.idxp 1 (.t 45) (.t 46))⟩,
  ⟨some 48, none, .p (.load none (.t 47))⟩,
  ⟨some 49, none, .p (.mv (.t 10))⟩,
  ⟨some 50, none, .p (.idxp 2 (.t 48) (.t 49))⟩,
  ⟨some 51, none, .p (.load (some 2) (.t 50))⟩,
  ⟨some 52, none, .call F_ref02_Mul [(.t 44), (.t 51)]⟩,
  ⟨some 53, none, .call F_ref02_Add [(.t 40), (.t 52)]⟩,
  ⟨none, none, .e (.store 2 (.t 11) (.t 53))⟩]
def ref04_Combine_r11 : List AIns := [⟨some 38, none, .p (.mv (.t 12))⟩,
  ⟨some 39, none, .p (.bin .add (.t 38) (.c (.int .i64 1)))⟩,
  ⟨some 12, none, .p (.mv (.t 39))⟩]
def ref04_Combine_l1 : ACode := .seq (.seq (.region ref04_Combine_r9 false) (.cond (.t 37) (.skip) (.exit 2))) (.seq (.block 3 (.region ref04_Combine_r10 true)) (.region ref04_Combine_r11 false))
def ref04_Combine_r12 : List AIns := [⟨some 54, none, .p (.mv (.t 9))⟩,
  ⟨some 55, none, .p (.load (some 2) (.t 11))⟩,
  ⟨some 56, none, .e (.bsl 2 [(.t 55)])⟩,
  ⟨some 57, none, .e (.app 2 32 false (.t 54) (.t 56))⟩,
  ⟨some 9, none, .p (.mv (.t 57))⟩]
def ref04_Combine_r13 : List AIns := [⟨some 31, none, .p (.mv (.t 10))⟩,
  ⟨some 32, none, .p (.bin .add (.t 31) (.c (.int .i64 1)))⟩,
  ⟨some 10, none, .p (.mv (.t 32))⟩]
def ref04_Combine_l0 : ACode := .seq (.seq (.region ref04_Combine_r6 false) (.cond (.t 30) (.skip) (.exit 0))) (.seq (.block 1 (.seq (.region ref04_Combine_r7 false) (.seq (.seq (.region ref04_Combine_r8 false) (.block 2 (.loop ref04_Combine_l1))) (.region ref04_Combine_r12 false)))) (.region ref04_Combine_r13 false))
def ref04_Combine_r14 : List AIns := [⟨some 58, none, .p (.mv (.t 9))⟩,
  ⟨some 4, none, .p (.mv (.t 58))⟩,
  ⟨some 5, none, .p (.mv (.c (.int .i64 0)))⟩]
def ref04_Combine_c : ACode := .seq (.region ref04_Combine_r0 false) (.seq (.region ref04_Combine_r1 false) (.seq (.seq (.region ref04_Combine_r2 false) (.cond (.t 27) (.seq (.region ref04_Combine_r3 false) (.ret)) (.skip))) (.seq (.region ref04_Combine_r4 false) (.seq (.seq (.region ref04_Combine_r5 false) (.block 0 (.loop ref04_Combine_l0))) (.seq (.region ref04_Combine_r14 false) (.ret))))))
theorem ref04_Combine_ok : fchk Pr (fun _ _ => false) Try.f49 = some (ref04_Combine_c, [.tmp 4, .tmp 5], 59) := by kernel_rfl
theorem ref04_Combine_fn : Pr.funcs[F_ref04_Combine]? = some Try.f49 := Try.func49
/-! mat.Product -/
def mat_Product_r0 : List AIns := [⟨some 3, none, .e (.box 1 (.t 1))⟩,
  ⟨some 4, none, .p (.mv (.c (.nil)))⟩,
  ⟨some 5, none, .p (.mv (.c (.int .i64 0)))⟩]
def mat_Product_r1 : List AIns := [⟨some 13, none, .p (.mv (.t 0))⟩,
  ⟨some 14, none, .call F_mat_Shape [(.t 13)]⟩,
  ⟨some 12, none, .p (.mv (.t 14))⟩,
  ⟨some 15, none, .p (.ext (.t 12) 0)⟩,
  ⟨some 16, none, .p (.ext (.t 12) 1)⟩,
  ⟨some 17, none, .p (.ext (.t 12) 2)⟩,
  ⟨some 6, none, .p (.mv (.t 15))⟩,
  ⟨some 7, none, .p (.mv (.t 16))⟩,
  ⟨some 8, none, .p (.mv (.t 17))⟩]
def mat_Product_r2 : List AIns := [⟨some 19, none, .p (.load none (.t 3))⟩,
  ⟨some 20, none, .call F_mat_Shape [(.t 19)]⟩,
  ⟨some 18, none, .p (.mv (.t 20))⟩,
  ⟨some 21, none, .p (.ext (.t 18) 0)⟩,
  ⟨some 22, none, .p (.ext (.t 18) 1)⟩,
  ⟨some 23, none, .p (.ext (.t 18) 2)⟩,
  ⟨some 9, none, .p (.mv (.t 21))⟩,
  ⟨some 10, none, .p (.mv (.t 22))⟩,
  ⟨some 11, none, .p (.mv (.t 23))⟩]
def mat_Product_r3 : List AIns := [⟨some 24, none, .p (.mv (.t 8))⟩,
  ⟨some 25, none, .p (.bin .neq (.t 24) (.c (.int .i64 0)))⟩,
  ⟨some 26, none, .p (.mv (.t 25))⟩,
  ⟨some 27, some (26, false), .p (.mv (.t 11))⟩,
  ⟨some 28, some (26, false), .p (.bin .neq (.t 27) (.c (.int .i64 0)))⟩,
  ⟨some 29, none, .p (.pick (.t 26) (.c (.bool true)) (.t 28))⟩,
  ⟨some 30, none, .p (.mv (.t 29))⟩,
  ⟨some 31, some (30, false), .p (.mv (.t 6))⟩,
  ⟨some 32, some (30, false), .p (.bin .gtr (.t 31) (.c (.int .i64 0)))⟩,
  ⟨some 33, some (30, false), .p (.mv (.t 32))⟩,
  ⟨some 34, some (33, true), .p (.mv (.t 7))⟩,
  ⟨some 35, some (33, true), .p (.mv (.t 9))⟩,
  ⟨some 36, some (33, true), .p (.bin .neq (.t 34) (.t 35))⟩,
  ⟨some 37, some (30, false), .p (.pick (.t 33) (.t 36) (.c (.bool false)))⟩,
  ⟨some 38, none, .p (.pick (.t 30) (.c (.bool true)) (.t 37))⟩]
def mat_Product_r4 : List AIns := [⟨some 4, none, .p (.mv (.c (.nil)))⟩,
  ⟨some 5, none, .p (.mv (.c (.int .i64 8)))⟩]
def mat_Product_r5 : List AIns := [⟨some 39, none, .p (.mv (.t 0))⟩,
  ⟨some 40, none, .p (.mkfn F_mat_Product_1 [(.t 3)])⟩,
  ⟨some 41, none, .call F_mat_each_V_V [(.t 39), (.t 40)]⟩,
  ⟨some 4, none, .p (.mv (.t 41))⟩,
  ⟨some 5, none, .p (.mv (.c (.int .i64 0)))⟩]
def mat_Product_c : ACode := .seq (.region mat_Product_r0 false) (.seq (.region mat_Product_r1 false) (.seq (.region mat_Product_r2 false) (.seq (.seq (.region mat_Product_r3 false) (.cond (.t 38) (.seq (.region mat_Product_r4 false) (.ret)) (.skip))) (.seq (.region mat_Product_r5 false) (.ret)))))
theorem mat_Product_ok : fchk Pr (fun _ _ => false) Try.f50 = some (mat_Product_c, [.tmp 4, .tmp 5], 42) := by kernel_rfl
theorem mat_Product_fn : Pr.funcs[F_mat_Product]? = some Try.f50 := Try.func50
/-! trammelref04.Product -/
def ref04_Product_r0 : List AIns := [⟨some 4, none, .p (.mv (.c (.nil)))⟩,
  ⟨some 5, none, .p (.mv (.c (.int .i64 0)))⟩]
def ref04_Product_r1 : List AIns := [⟨some 17, none, .p (.mv (.t 0))⟩,
  ⟨some 18, none, .call F_ref04_Shape [(.t 17)]⟩,
  ⟨some 16, none, .p (.mv (.t 18))⟩,
  ⟨some 19, none, .p (.ext (.t 16) 0)⟩,
  ⟨some 20, none, .p (.ext (.t 16) 1)⟩,
  ⟨some 21, none, .p (.ext (.t 16) 2)⟩,
  ⟨some 6, none, .p (.mv (.t 19))⟩,
  ⟨some 7, none, .p (.mv (.t 20))⟩,
  ⟨some 8, none, .p (.mv (.t 21))⟩]
def ref04_Product_r2 : List AIns := [⟨some 23, none, .p (.mv (.t 1))⟩,
  ⟨some 24, none, .call F_ref04_Shape [(.t 23)]⟩,
  ⟨some 22, none, .p (.mv (.t 24))⟩,
  ⟨some 25, none, .p (.ext (.t 22) 0)⟩,
  ⟨some 26, none, .p (.ext (.t 22) 1)⟩,
  ⟨some 27, none, .p (.ext (.t 22) 2)⟩,
  ⟨some 9, none, .p (.mv (.t 25))⟩,
  ⟨some 10, none, .p (.mv (.t 26))⟩,
  ⟨some 11, none, .p (.mv (.t 27))⟩]
def ref04_Product_r3 : List AIns := [⟨some 28, none, .p (.mv (.t 8))⟩,
  ⟨some 29, none, .p (.bin .neq (.t 28) (.c (.int .i64 0)))⟩,
  ⟨some 30, none, .p (.mv (.t 29))⟩,
  ⟨some 31, some (30, false), .p (.mv (.t 11))⟩,
  ⟨some 32, some (30, false), .p (.bin .neq (.t 31) (.c (.int .i64 0)))⟩,
  ⟨some 33, none, .p (.pick (.t 30) (.c (.bool true)) (.t 32))⟩,
  ⟨some 34, none, .p (.mv (.t 33))⟩,
  ⟨some 35, some (34, false), .p (.mv (.t 0))⟩,
  ⟨some 36, some (34, false), .p (.len (.t 35))⟩,
  ⟨some 37, some (34, false), .p (.bin .gtr (.t 36) (.c (.int .i64 0)))⟩,
  ⟨some 38, some (34, false), .p (.mv (.t 37))⟩,
  ⟨some 39, some (38, true), .p (.mv (.t 7))⟩,
  ⟨some 40, some (38, true), .p (.mv (.t 1))⟩,
  ⟨some 41, some (38, true), .p (.len (.t 40))⟩,
  ⟨some 42, some (38, true), .p (.bin .neq (.t 39) (.t 41))⟩,
  ⟨some 43, some (34, false), .p (.pick (.t 38) (.t 42) (.c (.bool false)))⟩,
  ⟨some 44, none, .p (.pick (.t 34) (.c (.bool true)) (.t 43))⟩]
def ref04_Product_r4 : List AIns := [⟨some 4, none, .p (.mv (.c (.nil)))⟩,
  ⟨some 5, none, .p (.mv (.c (.int .i64 8)))⟩]
def ref04_Product_r5 : List AIns := [⟨some 12, none, .p (.mv (.c (.nil)))⟩]
def ref04_Product_r6 : List AIns := [⟨some 13, none, .p (.mv (.c (.int .i64 0)))⟩]
def ref04_Product_r7 : List AIns := [⟨some 45, none, .p (.mv (.t 13))⟩,
  ⟨some 46, none, .p (.mv (.t 0))⟩,
  ⟨some 47, none, .p (.len (.t 46))⟩,
  ⟨some 48, none, .p (.bin .lss (.t 45) (.t 47))⟩]
def ref04_Product_r8 : List AIns := [⟨some 52, none, .p (.mv (.t 0))⟩,
  ⟨some 53, none, .p (.mv (.t 13))⟩,
  ⟨some 54, none, .p (.idxp 1 (.t 52) (.t 53))⟩,
  ⟨some 55, none, .p (.load none (.t 54))⟩,
  ⟨some 56, none, .p (.mv (.t 1))⟩,
  ⟨some 57, none, .call F_ref04_Combine [(.t 55), (.t 56)]⟩,
  ⟨some 51, none, .p (.mv (.t 57))⟩,
  ⟨some 58, none, .p (.ext (.t 51) 0)⟩,
  ⟨some 59, none, .p (.ext (.t 51) 1)⟩,
  ⟨some 14, none, .p (.mv (.t 58))⟩,
  ⟨some 15, none, .p (.mv (.t 59))⟩]
def ref04_Product_r9 : List AIns := [⟨some 60, none, .p (.mv (.t 12))⟩,
  ⟨some 61, none, .p (.mv (.t 14))⟩,
  ⟨some 62, none, .e (.bsl 1 [(.t 61)])⟩,
  ⟨some 63, none, .e (.app 1 24 false (.t 60) (.t 62))⟩,
  ⟨some 12, none, .p (.mv (.t 63))⟩]
def ref04_Product_r10 : List AIns := [⟨some 49, none, .p (.mv (.t 13))⟩,
  ⟨some 50, none, .p (.bin .add (.t 49) (.c (.int .i64 1)))⟩,
  ⟨some 13, none, .p (.mv (.t 50))⟩]
def ref04_Product_l0 : ACode := .seq (.seq (.region ref04_Product_r7 false) (.cond (.t 48) (.skip) (.exit 0))) (.seq (.block 1 (.seq (.region ref04_Product_r8 false) (.region ref04_Product_r9 false))) (.region ref04_Product_r10 false))
def ref04_Product_r11 : List AIns := [⟨some 64, none, .p (.mv (.t 12))⟩,
  ⟨some 4, none, .p (.mv (.t 64))⟩,
  ⟨some 5, none, .p (.mv (.c (.int .i64 0)))⟩]
def ref04_Product_c : ACode := .seq (.region ref04_Product_r0 false) (.seq (.region ref04_Product_r1 false) (.seq (.region ref04_Product_r2 false) (.seq (.seq (.region ref04_Product_r3 false) (.cond (.t 44) (.seq (.region ref04_Product_r4 false) (.ret)) (.skip))) (.seq (.region ref04_Product_r5 false) (.seq (.seq (.region ref04_Product_r6 false) (.block 0 (.loop ref04_Product_l0))) (.seq (.region ref04_Product_r11 false) (.ret)))))))
theorem ref04_Product_ok : fchk Pr (fun _ _ => false) Try.f51 = some (ref04_Product_c, [.tmp 4, .tmp 5], 65) := by kernel_rfl
theorem ref04_Product_fn : Pr.funcs[F_ref04_Product]? = some Try.f51 := Try.func51
/-! mat.Turn -/
def mat_Turn_r0 : List AIns := [⟨some 2, none, .p (.mv (.c (.nil)))⟩,
  ⟨some 3, none, .p (.mv (.c (.int .i64 0)))⟩]
def mat_Turn_r1 : List AIns := [⟨some 12, none, .p (.mv (.t 0))⟩,
  ⟨some 13, none, .call F_mat_Shape [(.t 12)]⟩,
  ⟨some 11, none, .p (.mv (.t 13))⟩,
  ⟨some 14, none, .p (.ext (.t 11) 0)⟩,
  ⟨some 15, none, .p (.ext (.t 11) 1)⟩,
  ⟨some 16, none, .p (.ext (.t 11) 2)⟩,
  ⟨some 4, none, .p (.mv (.t 14))⟩,
  ⟨some 5, none, .p (.mv (.t 15))⟩,
  ⟨some 6, none, .p (.mv (.t 16))⟩]
def mat_Turn_r2 : List AIns := [⟨some 17, none, .p (.mv (.t 6))⟩,
  ⟨some 18, none, .p (.bin .neq (.t 17) (.c (.int .i64 0)))⟩]
def mat_Turn_r3 : List AIns := [⟨some 19, none, .p (.mv (.t 6))⟩,
  ⟨some 2, none, .p (.mv (.c (.nil)))⟩,
  ⟨some 3, none, .p (.mv (.t 19))⟩]
def mat_Turn_r4 : List AIns := [⟨some 20, none, .p (.mv (.t 4))⟩,
  ⟨some 21, none, .p (.mv (.t 5))⟩,
  ⟨some 22, none, .p (.bin .mul (.t 20) (.t 21))⟩,
  ⟨some 23, none, .e (.mksl 2 32 (.agg [.bool false, .nil]) (.c (.int .i64 0)) (.t 22))⟩,
  ⟨some 7, none, .p (.mv (.t 23))⟩]
def mat_Turn_r5 : List AIns := [⟨some 8, none, .p (.mv (.c (.nil)))⟩]
def mat_Turn_r6 : List AIns := [⟨some 24, none, .p (.mv (.t 5))⟩,
  ⟨some 25, none, .p (.mv (.c (.int .i64 0)))⟩]
def mat_Turn_r7 : List AIns := [⟨some 26, none, .p (.bin .lss (.t 25) (.t 24))⟩]
def mat_Turn_r8 : List AIns := [⟨some 27, none, .p (.mv (.t 25))⟩,
  ⟨some 9, none, .p (.mv (.t 27))⟩]
def mat_Turn_r9 : List AIns := [⟨some 28, none, .p (.mv (.t 4))⟩,
  ⟨some 29, none, .p (.mv (.c (.int .i64 0)))⟩]
def mat_Turn_r10 : List AIns := [⟨some 30, none, .p (.bin .lss (.t 29) (.t 28))⟩]
def mat_Turn_r11 : List AIns := [⟨some 31, none, .p (.mv (.t 29))⟩,
  ⟨some 10, none, .p (.mv (.t 31))⟩]
def mat_Turn_r12 : List AIns := [⟨some 32, none, .p (.mv (.t 7))⟩,
  ⟨some 33, none, .p (.mv (.t 0))⟩,
  ⟨some 34, none, .p (.mv (.t 10))⟩,
  ⟨some 35, none, .p (.idxp 1 (.t 33) (.t 34))⟩,
  ⟨some 36, none, .p (.load none (.t 35))⟩,
  ⟨some 37, none, .p (.mv (.t 9))⟩,
  ⟨some 38, none, .p (.idxp 2 (.t 36) (.t 37))⟩,
  ⟨some 39, none, .p (.load (some 2) (.t 38))⟩,
  ⟨some 40, none, .call F_zint_Form [(.t 39)]⟩,
  ⟨some 41, none, .e (.bsl 2 [(.t 40)])⟩,
  ⟨some 42, none, .e (.app 2 32 false (.t 32) (.t 41))⟩,
  ⟨some 7, none, .p (.mv (.t 42))⟩]
def mat_Turn_r13 : List AIns := [⟨some 43, none, .p (.bin .add (.t 29) (.c (.int .i64 1)))⟩,
  ⟨some 29, none, .p (.mv (.t 43))⟩]
def mat_Turn_l1 : ACode := .seq (.region mat_Turn_r10 false) (.seq (.cond (.t 30) (.skip) (.exit 2)) (.seq (.block 3 (.seq (.region mat_Turn_r11 false) (.region mat_Turn_r12 false))) (.region mat_Turn_r13 false)))
def mat_Turn_r14 : List AIns := [⟨some 44, none, .p (.mv (.t 8))⟩,
  ⟨some 45, none, .p (.mv (.t 7))⟩,
  ⟨some 46, none, .p (.mv (.t 9))⟩,
  ⟨some 47, none, .p (.mv (.t 4))⟩,
  ⟨some 48, none, .p (.bin .mul (.t 46) (.t 47))⟩,
  ⟨some 49, none, .p (.mv (.t 9))⟩,
  ⟨some 50, none, .p (.bin .add (.t 49) (.c (.int .i64 1)))⟩,
  ⟨some 51, none, .p (.mv (.t 4))⟩,
  ⟨some 52, none, .p (.bin .mul (.t 50) (.t 51))⟩,
  ⟨some 53, none, .p (.mv (.t 9))⟩,
  ⟨some 54, none, .p (.bin .add (.t 53) (.c (.int .i64 1)))⟩,
  ⟨some 55, none, .p (.mv (.t 4))⟩,
  ⟨some 56, none, .p (.bin .mul (.t 54) (.t 55))⟩,
  ⟨some 57, none, .p (.slc 2 (.t 45) (some (.t 48)) (some (.t 52)) (some (.t 56)))⟩,
  ⟨some 58, none, .e (.bslm 1 [(.t 57)])⟩,
  ⟨some 59, none, .e (.app 1 24 false (.t 44) (.t 58))⟩,
  ⟨some 8, none, .p (.mv (.t 59))⟩]
def mat_Turn_r15 : List AIns := [⟨some 60, none, .p (.bin .add (.t 25) (.c (.int .i64 1)))⟩,
  ⟨some 25, none, .p (.mv (.t 60))⟩]
def mat_Turn_l0 : ACode := .seq (.region mat_Turn_r7 false) (.seq (.cond (.t 26) (.skip) (.exit 0)) (.seq (.block 1 (.seq (.region mat_Turn_r8 false) (.seq (.seq (.region mat_Turn_r9 false) (.block 2 (.loop mat_Turn_l1))) (.region mat_Turn_r14 false)))) (.region mat_Turn_r15 false)))
def mat_Turn_r16 : List AIns := [⟨some 61, none, .p (.mv (.t 8))⟩,
  ⟨some 2, none, .p (.mv (.t 61))⟩,
  ⟨some 3, none, .p (.mv (.c (.int .i64 0)))⟩]
def mat_Turn_c : ACode := .seq (.region mat_Turn_r0 false) (.seq (.region mat_Turn_r1 false) (.seq (.seq (.region mat_Turn_r2 false) (.cond (.t 18) (.seq (.region mat_Turn_r3 false) (.ret)) (.skip))) (.seq (.region mat_Turn_r4 false) (.seq (.region mat_Turn_r5 false) (.seq (.seq (.region mat_Turn_r6 false) (.block 0 (.loop mat_Turn_l0))) (.seq (.region mat_Turn_r16 false) (.ret)))))))
theorem mat_Turn_ok : fchk Pr (fun _ k => (k == 14)) Try.f52 = some (mat_Turn_c, [.tmp 2, .tmp 3], 62) := by kernel_rfl
theorem mat_Turn_fn : Pr.funcs[F_mat_Turn]? = some Try.f52 := Try.func52
/-! trammelref04.Turn -/
def ref04_Turn_r0 : List AIns := [⟨some 2, none, .p (.mv (.c (.nil)))⟩,
  ⟨some 3, none, .p (.mv (.c (.int .i64 0)))⟩]
def ref04_Turn_r1 : List AIns := [⟨some 12, none, .p (.mv (.t 0))⟩,
  ⟨some 13, none, .call F_ref04_Shape [(.t 12)]⟩,
  ⟨some 11, none, .p (.mv (.t 13))⟩,
  ⟨some 14, none, .p (.ext (.t 11) 0)⟩,
  ⟨some 15, none, .p (.ext (.t 11) 1)⟩,
  ⟨some 16, none, .p (.ext (.t 11) 2)⟩,
  ⟨some 4, none, .p (.mv (.t 14))⟩,
  ⟨some 5, none, .p (.mv (.t 15))⟩,
  ⟨some 6, none, .p (.mv (.t 16))⟩]
def ref04_Turn_r2 : List AIns := [⟨some 17, none, .p (.mv (.t 6))⟩,
  ⟨some 18, none, .p (.bin .neq (.t 17) (.c (.int .i64 0)))⟩]
def ref04_Turn_r3 : List AIns := [⟨some 2, none, .p (.mv (.c (.nil)))⟩,
  ⟨some 3, none, .p (.mv (.c (.int .i64 8)))⟩]
def ref04_Turn_r4 : List AIns := [⟨some 7, none, .p (.mv (.c (.nil)))⟩]
def ref04_Turn_r5 : List AIns := [⟨some 8, none, .p (.mv (.c (.int .i64 0)))⟩]
def ref04_Turn_r6 : List AIns := [⟨some 19, none, .p (.mv (.t 8))⟩,
  ⟨some 20, none, .p (.mv (.t 5))⟩,
  ⟨some 21, none, .p (.bin .lss (.t 19) (.t 20))⟩]
def ref04_Turn_r7 : List AIns := [⟨some 9, none, .p (.mv (.c (.nil)))⟩]
def ref04_Turn_r8 : List AIns := [⟨some 10, none, .p (.mv (.c (.int .i64 0)))⟩]
def ref04_Turn_r9 : List AIns := [⟨some 24, none, .p (.mv (.t 10))⟩,
  ⟨some 25, none, .p (.mv (.t 0))⟩,
  ⟨some 26, none, .p (.len (.t 25))⟩,
  ⟨some 27, none, .p (.bin .lss (.t 24) (.t 26))⟩]
def ref04_Turn_r10 : List AIns := [⟨some 30, none, .p (.mv (.t 9))⟩,
  ⟨some 31, none, .p (.mv (.t 0))⟩,
  ⟨some 32, none, .p (.mv (.t 10))⟩,
  ⟨some 33, none, .p (.idxp 1 (.t 31) (.t 32))⟩,
  ⟨some 34, none, .p (.load none (.t 33))⟩,
  ⟨some 35, none, .p (.mv (.t 8))⟩,
  ⟨some 36, none, .p (.idxp 2 (.t 34) (.t 35))⟩,
  ⟨some 37, none, .p (.load (some 2) (.t 36))⟩,
  ⟨some 38, none, .call F_ref02_Norm [(.t 37)]⟩,
  ⟨some 39, none, .e (.bsl 2 [(.t 38)])⟩,
  ⟨some 40, none, .e (.app 2 32 false (.t 30) (.t 39))⟩,
  ⟨some 9, none, .p (.mv (.t 40))⟩]
def ref04_Turn_r11 : List AIns := [⟨some 28, none, .p (.mv (.t 10))⟩,
  ⟨some 29, none, .p (.bin .add (.t 28) (.c (.int .i64 1)))⟩,
  ⟨some 10, none, .p (.mv (.t 29))⟩]
def ref04_Turn_l1 : ACode := .seq (.seq (.region ref04_Turn_r9 false) (.cond (.t 27) (.skip) (.exit 2))) (.seq (.block 3 (.region ref04_Turn_r10 false)) (.region ref04_Turn_r11 false))
def ref04_Turn_r12 : List AIns := [⟨some 41, none, .p (.mv (.t 7))⟩,
  ⟨some 42, none, .p (.mv (.t 9))⟩,
  ⟨some 43, none, .e (.bsl 1 [(.t 42)])⟩,
  ⟨some 44, none, .e (.app 1 24 false (.t 41) (.t 43))⟩,
  ⟨some 7, none, .p (.mv (.t 44))⟩]
def ref04_Turn_r13 : List AIns := [⟨some 22, none, .p (.mv (.t 8))⟩,
  ⟨some 23, none, .p (.bin .add (.t 22) (.c (.int .i64 1)))⟩,
  ⟨some 8, none, .p (.mv (.t 23))⟩]
def ref04_Turn_l0 : ACode := .seq (.seq (.region ref04_Turn_r6 false) (.cond (.t 21) (.skip) (.exit 0))) (.seq (.block 1 (.seq (.region ref04_Turn_r7 false) (.seq (.seq (.region ref04_Turn_r8 false) (.block 2 (.loop ref04_Turn_l1))) (.region ref04_Turn_r12 false)))) (.region ref04_Turn_r13 false))
def ref04_Turn_r14 : List AIns := [⟨some 45, none, .p (.mv (.t 7))⟩,
  ⟨some 2, none, .p (.mv (.t 45))⟩,
  ⟨some 3, none, .p (.mv (.c (.int .i64 0)))⟩]
def ref04_Turn_c : ACode := .seq (.region ref04_Turn_r0 false) (.seq (.region ref04_Turn_r1 false) (.seq (.seq (.region ref04_Turn_r2 false) (.cond (.t 18) (.seq (.region ref04_Turn_r3 false) (.ret)) (.skip))) (.seq (.region ref04_Turn_r4 false) (.seq (.seq (.region ref04_Turn_r5 false) (.block 0 (.loop ref04_Turn_l0))) (.seq (.region ref04_Turn_r14 false) (.ret))))))
theorem ref04_Turn_ok : fchk Pr (fun _ _ => false) Try.f53 = some (ref04_Turn_c, [.tmp 2, .tmp 3], 46) := by kernel_rfl
theorem ref04_Turn_fn : Pr.funcs[F_ref04_Turn]? = some Try.f53 := Try.func53
/-! mat.Gram -/
def mat_Gram_r0 : List AIns := [⟨some 1, none, .e (.box 1 (.t 0))⟩,
  ⟨some 2, none, .p (.mv (.c (.nil)))⟩,
  ⟨some 3, none, .p (.mv (.c (.int .i64 0)))⟩]
def mat_Gram_r1 : List AIns := [⟨some 8, none, .p (.load none (.t 1))⟩,
  ⟨some 9, none, .call F_mat_Shape [(.t 8)]⟩,
  ⟨some 7, none, .p (.mv (.t 9))⟩,
  ⟨some 10, none, .p (.ext (.t 7) 0)⟩,
  ⟨some 11, none, .p (.ext (.t 7) 1)⟩,
  ⟨some 12, none, .p (.ext (.t 7) 2)⟩,
  ⟨some 4, none, .p (.mv (.t 10))⟩,
  ⟨some 5, none, .p (.mv (.t 11))⟩,
  ⟨some 6, none, .p (.mv (.t 12))⟩]
def mat_Gram_r2 : List AIns := [⟨some 13, none, .p (.mv (.t 6))⟩,
  ⟨some 14, none, .p (.bin .neq (.t 13) (.c (.int .i64 0)))⟩]
def mat_Gram_r3 : List AIns := [⟨some 15, none, .p (.mv (.t 6))⟩,
  ⟨some 2, none, .p (.mv (.c (.nil)))⟩,
  ⟨some 3, none, .p (.mv (.t 15))⟩]
def mat_Gram_r4 : List AIns := [⟨some 16, none, .p (.load none (.t 1))⟩,
  ⟨some 17, none, .p (.mkfn F_mat_Gram_1 [(.t 1)])⟩,
  ⟨some 18, none, .call F_mat_each_V_V [(.t 16), (.t 17)]⟩,
  ⟨some 2, none, .p (.mv (.t 18))⟩,
  ⟨some 3, none, .p (.mv (.c (.int .i64 0)))⟩]
def mat_Gram_c : ACode := .seq (.region mat_Gram_r0 false) (.seq (.seq (.region mat_Gram_r1 false) (.seq (.region mat_Gram_r2 false) (.cond (.t 14) (.seq (.region mat_Gram_r3 false) (.ret)) (.skip)))) (.seq (.region mat_Gram_r4 false) (.ret)))
theorem mat_Gram_ok : fchk Pr (fun _ _ => false) Try.f54 = some (mat_Gram_c, [.tmp 2, .tmp 3], 19) := by kernel_rfl
theorem mat_Gram_fn : Pr.funcs[F_mat_Gram]? = some Try.f54 := Try.func54
/-! trammelref04.Gram -/
def ref04_Gram_r0 : List AIns := [⟨some 2, none, .p (.mv (.c (.nil)))⟩,
  ⟨some 3, none, .p (.mv (.c (.int .i64 0)))⟩]
def ref04_Gram_r1 : List AIns := [⟨some 14, none, .p (.mv (.t 0))⟩,
  ⟨some 15, none, .call F_ref04_Shape [(.t 14)]⟩,
  ⟨some 13, none, .p (.mv (.t 15))⟩,
  ⟨some 16, none, .p (.ext (.t 13) 0)⟩,
  ⟨some 17, none, .p (.ext (.t 13) 1)⟩,
  ⟨some 18, none, .p (.ext (.t 13) 2)⟩,
  ⟨some 4, none, .p (.mv (.t 16))⟩,
  ⟨some 5, none, .p (.mv (.t 17))⟩,
  ⟨some 6, none, .p (.mv (.t 18))⟩]
def ref04_Gram_r2 : List AIns := [⟨some 19, none, .p (.mv (.t 6))⟩,
  ⟨some 20, none, .p (.bin .neq (.t 19) (.c (.int .i64 0)))⟩]
def ref04_Gram_r3 : List AIns := [⟨some 2, none, .p (.mv (.c (.nil)))⟩,
  ⟨some 3, none, .p (.mv (.c (.int .i64 8)))⟩]
def ref04_Gram_r4 : List AIns := [⟨some 7, none, .p (.mv (.c (.nil)))⟩]
def ref04_Gram_r5 : List AIns := [⟨some 8, none, .p (.mv (.c (.int .i64 0)))⟩]
def ref04_Gram_r6 : List AIns := [⟨some 21, none, .p (.mv (.t 8))⟩,
  ⟨some 22, none, .p (.mv (.t 0))⟩,
  ⟨some 23, none, .p (.len (.t 22))⟩,
  ⟨some 24, none, .p (.bin .lss (.t 21) (.t 23))⟩]
def ref04_Gram_r7 : List AIns := [⟨some 9, none, .p (.mv (.c (.nil)))⟩]
def ref04_Gram_r8 : List AIns := [⟨some 10, none, .p (.mv (.c (.int .i64 0)))⟩]
def ref04_Gram_r9 : List AIns := [⟨some 27, none, .p (.mv (.t 10))⟩,
  ⟨some 28, none, .p (.mv (.t 0))⟩,
  ⟨some 29, none, .p (.len (.t 28))⟩,
  ⟨some 30, none, .p (.bin .lss (.t 27) (.t 29))⟩]
def ref04_Gram_r10 : List AIns := [⟨some 34, none, .p (.mv (.t 0))⟩,
  ⟨some 35, none, .p (.mv (.t 8))⟩,
  ⟨some 36, none, .p (.idxp 1 (.t 34) (.t 35))⟩,
  ⟨some 37, none, .p (.load none (.t 36))⟩,
  ⟨some 38, none, .p (.mv (.t 0))⟩,
  ⟨some 39, none, .p (.mv (.t 10))⟩,
  ⟨some 40, none, .p (.idxp 1 (.t 38) (.t 39))⟩,
  ⟨some 41, none, .p (.load none (.t 40))⟩,
  ⟨some 42, none, .call F_ref04_Dot [(.t 37), (.t 41)]⟩,
  ⟨some 33, none, .p (.mv (.t 42))⟩,
  ⟨some 43, none, .p (.ext (.t 33) 0)⟩,
  ⟨some 44, none, .p (.ext (.t 33) 1)⟩,
  ⟨some 11, none, .e (.box 2 (.c (.agg [.bool false, .nil])))⟩,
  ⟨none, none, .e (.store 2 (.t 11) (.t 43))⟩,
  ⟨some 12, none, .p (.mv (.t 44))⟩]
def ref04_Gram_r11 : List AIns := [⟨some 45, none, .p (.mv (.t 9))⟩,
  ⟨some 46, none, .p (.load (some 2) (.t 11))⟩,
  ⟨some 47, none, .e (.bsl 2 [(.t 46)])⟩,
  ⟨some 48, none, .e (.app 2 32 false (.t 45) (.t 47))⟩,
  ⟨some 9, none, .p (.mv (.t 48))⟩]
def ref04_Gram_r12 : List AIns := [⟨some 31, none, .p (.mv (.t 10))⟩,
  ⟨some 32, none, .p (.bin .add (.t 31) (.c (.int .i64 1)))⟩,
  ⟨some 10, none, .p (.mv (.t 32))⟩]
def ref04_Gram_l1 : ACode := .seq (.seq (.region ref04_Gram_r9 false) (.cond (.t 30) (.skip) (.exit 2))) (.seq (.block 3 (.seq (.region ref04_Gram_r10 true) (.region ref04_Gram_r11 false))) (.region ref04_Gram_r12 false))
def ref04_Gram_r13 : List AIns := [⟨some 49, none, .p (.mv (.t 7))⟩,
  ⟨some 50, none, .p (.mv (.t 9))⟩,
  ⟨some 51, none, .e (.bsl 1 [(.t 50)])⟩,
  ⟨some 52, none, .e (.app 1 24 false (.t 49) (.t 51))⟩,
  ⟨some 7, none, .p (.mv (.t 52))⟩]
def ref04_Gram_r14 : List AIns := [⟨some 25, none, .p (.mv (.t 8))⟩,
  ⟨some 26, none, .p (.bin .add (.t 25) (.c (.int .i64 1)))⟩,
  ⟨some 8, none, .p (.mv (.t 26))⟩]
def ref04_Gram_l0 : ACode := .seq (.seq (.region ref04_Gram_r6 false) (.cond (.t 24) (.skip) (.exit 0))) (.seq (.block 1 (.seq (.region ref04_Gram_r7 false) (.seq (.seq (.region ref04_Gram_r8 false) (.block 2 (.loop ref04_Gram_l1))) (.region ref04_Gram_r13 false)))) (.region ref04_Gram_r14 false))
def ref04_Gram_r15 : List AIns := [⟨some 53, none, .p (.mv (.t 7))⟩,
  ⟨some 2, none, .p (.mv (.t 53))⟩,
  ⟨some 3, none, .p (.mv (.c (.int .i64 0)))⟩]
def ref04_Gram_c : ACode := .seq (.region ref04_Gram_r0 false) (.seq (.region ref04_Gram_r1 false) (.seq (.seq (.region ref04_Gram_r2 false) (.cond (.t 20) (.seq (.region ref04_Gram_r3 false) (.ret)) (.skip))) (.seq (.region ref04_Gram_r4 false) (.seq (.seq (.region ref04_Gram_r5 false) (.block 0 (.loop ref04_Gram_l0))) (.seq (.region ref04_Gram_r15 false) (.ret))))))
theorem ref04_Gram_ok : fchk Pr (fun _ _ => false) Try.f55 = some (ref04_Gram_c, [.tmp 2, .tmp 3], 54) := by kernel_rfl
theorem ref04_Gram_fn : Pr.funcs[F_ref04_Gram]? = some Try.f55 := Try.func55
/-! trammellaw04.alive -/
def law04_alive_r0 : List AIns := [⟨some 0, none, .p (.mv (.c (.bool false)))⟩]
def law04_alive_r1 : List AIns := [⟨some 4, none, .call F_mat_Unit [(.c (.int .i64 2))]⟩,
  ⟨some 3, none, .p (.mv (.t 4))⟩,
  ⟨some 5, none, .p (.ext (.t 3) 0)⟩,
  ⟨some 6, none, .p (.ext (.t 3) 1)⟩,
  ⟨some 1, none, .p (.mv (.t 5))⟩,
  ⟨some 2, none, .p (.mv (.t 6))⟩]
def law04_alive_r2 : List AIns := [⟨some 7, none, .p (.mv (.t 1))⟩,
  ⟨some 8, none, .call F_mat_Text [(.t 7)]⟩,
  ⟨some 9, none, .p (.bin .eql (.t 8) (.c (.str ⟨#[49, 32, 48, 59, 32, 48, 32, 49]⟩)))⟩,
  ⟨some 0, none, .p (.mv (.t 9))⟩]
def law04_alive_c : ACode := .seq (.region law04_alive_r0 false) (.seq (.region law04_alive_r1 false) (.seq (.region law04_alive_r2 false) (.ret)))
theorem law04_alive_ok : fchk Pr (fun _ _ => false) Try.f56 = some (law04_alive_c, [.tmp 0], 10) := by kernel_rfl
theorem law04_alive_fn : Pr.funcs[F_law04_alive]? = some Try.f56 := Try.func56
end Go.Abs
